/- What is valid: the program's entries and catalogues. What is valid: the program's entries and catalogues. Loops by what changes in them. What is proved by hand: what it gives. The functions that are proved by hand. Rows that are copied with nothing behind them. Places of names. Equality, as the laws ask for it. What is left as it was. Marks that are written, and found again. Marks in rows of rows. Entries in their places. Plain facts of catalogues. -/
import Derived.Test.YtecmolmlojehgaaGreatMC
namespace Go.Proofs.YtecmolmlojehgaaGreat.T
open Go
variable {hand : Call}
set_option maxHeartbeats 2000000
attribute [-simp] List.getElem_cons_drop List.map_drop
theorem allUp_iff {f : Nat → Bool} : ∀ {m i : Nat}, allUp f i m = true ↔ ∀ k, i ≤ k → k < i + m → f k = true
  | 0, i => by simp only [allUp, true_iff]; intro k h1 h2; omega
  | m + 1, i => by
    simp only [allUp, Bool.and_eq_true, allUp_iff (m := m)]
    constructor
    · rintro ⟨h1, h2⟩ k hk hk2
      by_cases e : k = i
      · subst e; exact h1
      · exact h2 k (by omega) (by omega)
    · intro h
      exact ⟨h i (by omega) (by omega), fun k h1 h2 => h k (by omega) (by omega)⟩
theorem degGo_pos {k : Nat} : ∀ {p : List TermV} {m : Int}, 0 < degGo k m p ↔ 0 < m ∨ ∃ t ∈ p, 0 < pow t k
  | [], m => by simp [degGo]
  | t :: r, m => by
    rw [degGo, degGo_pos (p := r)]
    constructor
    · rintro (h | ⟨t', h1, h2⟩)
      · by_cases hm : 0 < m
        · exact Or.inl hm
        · exact Or.inr ⟨t, by simp, by omega⟩
      · exact Or.inr ⟨t', by simp [h1], h2⟩
    · rintro (h | ⟨t', h1, h2⟩)
      · exact Or.inl (by omega)
      · simp only [List.mem_cons] at h1
        rcases h1 with rfl | h1
        · exact Or.inl (by omega)
        · exact Or.inr ⟨t', h1, h2⟩
theorem needs_iff {n : Nat} : ∀ {p : List TermV}, needs n p = true ↔ ∀ t ∈ p, ∀ k, k < 3 → n ≤ k → ¬ 0 < pow t k
  | [] => by simp [needs]
  | t :: r => by
    simp only [needs, Bool.and_eq_true, needs_iff (p := r), List.mem_cons]
    have ex : ∀ k, expOk t n k = true ↔ (n ≤ k → ¬ 0 < pow t k) := by
      intro k
      simp only [expOk, Bool.not_eq_true', Bool.and_eq_false_iff, decide_eq_false_iff_not]
      constructor
      · rintro (h | h) h2
        · exact absurd h2 h
        · exact h
      · intro h
        by_cases h2 : n ≤ k
        · exact Or.inr (h h2)
        · exact Or.inl h2
    simp only [ex]
    constructor
    · rintro ⟨h0, h1, h2, h3⟩ t' (rfl | ht) k hk hn
      · have : k = 0 ∨ k = 1 ∨ k = 2 := by omega
        rcases this with rfl | rfl | rfl
        · exact h0 hn
        · exact h1 hn
        · exact h2 hn
      · exact h3 t' ht k hk hn
    · intro h
      exact ⟨h t (Or.inl rfl) 0 (by omega), h t (Or.inl rfl) 1 (by omega), h t (Or.inl rfl) 2 (by omega), fun t' ht => h t' (Or.inr ht)⟩
theorem needs_deg (n : Nat) (p : List TermV) : needs n p = degOk p n := by
  rw [Bool.eq_iff_iff, needs_iff, degOk, allUp_iff]
  constructor
  · intro h k h1 h2
    simp only [Bool.not_eq_true', decide_eq_false_iff_not, degGo_pos, not_or, not_exists, not_and]
    exact ⟨by omega, fun t ht => h t ht k (by omega) h1⟩
  · intro h t ht k h1 h2
    have := h k h2 (by omega)
    simp only [Bool.not_eq_true', decide_eq_false_iff_not, degGo_pos, not_or, not_exists, not_and] at this
    exact this.2 t ht
theorem L_isSystem (s : Sys) : L (prog hand) n_impl_isSystem [arg (cS s)] = some (resB (sysOk (pS s))) := by
  have hok := s.ok
  have hlen : (pS s).length = s.es.length := by simp [pS]
  refine L_body (b := b_impl_isSystem) rfl rfl s.es.length ?_
  intro fuel hfuel
  rw [sysOk, hlen]
  simp -implicitDefEqProofs [b_impl_isSystem]
  refine K_loop (fun (i : Nat) => ⟨asl [(0, .sv (.c (cS s))), (5, .sv (.c (cS s))), (6, .sv (.v (int s.es.length))), (7, .sv (.v (int i)))], asl [], []⟩) (fun i => some (resB (sysGo s.es.length ((pS s).drop i) && inR s.es.length 1 3))) (fun i => s.es.length - i) (fun i => i ≤ s.es.length) ?_ 0 (by simp) (by omega)
  intro i hi K hK
  by_cases hlt : i < s.es.length
  · have hd : (pS s).drop i = s.es[i].es :: (pS s).drop (i + 1) := by
      rw [drop_cons (by rw [hlen]; exact hlt)]
      simp [pS]
    rw [hd]
    cases h1 : polyOk s.es[i].es
    · simp -implicitDefEqProofs [l1_impl_isSystem, hlt, L_isPoly, h1, sysGo]
    · cases h2 : degOk s.es[i].es s.es.length
      · simp -implicitDefEqProofs [l1_impl_isSystem, hlt, L_isPoly, L_needsAtMost, needs_deg, h1, h2, sysGo]
      · simp -implicitDefEqProofs [l1_impl_isSystem, hlt, L_isPoly, L_needsAtMost, needs_deg, h1, h2, sysGo, wrap_suc (show i < 9223372036854775807 by omega)]
        exact hK (i + 1) (by omega) (by omega)
  · have hd : (pS s).drop i = [] := drop_end (by rw [hlen]; exact hlt)
    rw [hd]
    simp -implicitDefEqProofs [l1_impl_isSystem, hlt, sysGo, L_inside]
theorem inR_next {x y M : Int} (h : inR x (-M) M = true) : (inR y (-M) M && decide (x < y)) = inR y (x + 1) M := by
  have hx := inR_true h
  rw [Bool.eq_iff_iff]
  simp only [inR, Bool.and_eq_true, decide_eq_true_eq]
  constructor
  · rintro ⟨⟨h1, h2⟩, h3⟩; exact ⟨by omega, h2⟩
  · rintro ⟨h1, h2⟩; exact ⟨⟨by omega, h2⟩, by omega⟩
abbrev argPE (e : EntryV) (off : Nat) : Arg := .imm (.s (.pm (eE e) off))
theorem L_isBox (e : EntryV) : L (prog hand) n_impl_isBox [argPE e 2] = some (resB (boxOk (pB e.box))) := by
  have hok := e.box.low.ok
  refine L_body (b := b_impl_isBox) rfl rfl e.box.low.es.length ?_
  intro fuel hfuel
  cases h1 : inR e.box.k 0 8
  · simp -implicitDefEqProofs [b_impl_isBox, boxOk, pB, L_inside, h1]
  cases h2 : inR e.box.low.es.length 1 3
  · simp -implicitDefEqProofs [b_impl_isBox, boxOk, pB, L_inside, h1, h2]
  by_cases h3 : ¬ (e.box.high.es.length = e.box.low.es.length)
  · simp -implicitDefEqProofs [b_impl_isBox, boxOk, pB, L_inside, h1, h2, h3]
  have h3 : e.box.high.es.length = e.box.low.es.length := Decidable.not_not.1 h3
  have hk := inR_true h1
  obtain ⟨n, hn⟩ : ∃ n : Nat, e.box.k = n := ⟨e.box.k.toNat, by omega⟩
  have hn8 : n ≤ 8 := by omega
  obtain ⟨p1, p2⟩ := pow_le hn8
  have h8 : n = 0 ∨ n = 1 ∨ n = 2 ∨ n = 3 ∨ n = 4 ∨ n = 5 ∨ n = 6 ∨ n = 7 ∨ n = 8 := by omega
  have hw : IntKind.i64.wrap (8 * 2 ^ min n IntKind.i64.bits) = 8 * 2 ^ n := by rcases h8 with rfl | rfl | rfl | rfl | rfl | rfl | rfl | rfl | rfl <;> decide
  have hnn : ¬ ((n : Int) < 0) := by omega
  have hbo : boxOk (pB e.box) = sidesGo (8 * 2 ^ n) (decide (n = 0)) e.box.low.es e.box.high.es := by
    have h0 : ((n : Int) = 0) = (n = 0) := by rw [eq_iff_iff]; omega
    simp [boxOk, pB, h1, h2, h3, hn]
    rw [hn] at h1
    simp [h1]
  rw [hbo]
  rw [hn] at h1
  simp -implicitDefEqProofs [b_impl_isBox, L_inside, h1, h2, h3, hn, hw, hnn]
  have hz : ((n : Int) == 0) = decide (n = 0) := by rw [Bool.eq_iff_iff]; simp
  rw [hz]
  have hM : ∃ M : Int, M = 8 * 2 ^ n := ⟨_, rfl⟩
  obtain ⟨M, hM⟩ := hM
  rw [← hM]
  have m1 : 8 ≤ M := by omega
  have m2 : M ≤ 2048 := by omega
  clear hbo hM hw hz
  generalize decide (n = 0) = odd0
  refine K_loop (fun (s : Nat × Bool) => ⟨asl [(0, .sv (.pm (eE e) 2)), (3, .sv (.v (int M))), (4, .sv (.v (.bool s.2))), (48, .sv (.c (cI e.box.low))), (49, .sv (.v (int e.box.low.es.length))), (50, .sv (.v (int s.1)))], asl [], []⟩) (fun s => some (resB (sidesGo M s.2 (e.box.low.es.drop s.1) (e.box.high.es.drop s.1)))) (fun s => e.box.low.es.length - s.1) (fun s => s.1 ≤ e.box.low.es.length) ?_ (0, odd0) (by simp) (by simpa using hfuel)
  rintro ⟨i, odd⟩ hi K hK
  simp only at hi
  have hneg : IntKind.i64.wrap (-M) = -M := wrap64 (by omega) (by omega)
  by_cases hlt : i < e.box.low.es.length
  · have hlt2 : i < e.box.high.es.length := by omega
    have hws := wrap_suc (show i < 9223372036854775807 by omega)
    rw [drop_cons hlt, drop_cons hlt2]
    cases c1 : inR e.box.low.es[i] (-M) M
    · simp -implicitDefEqProofs [l1_impl_isBox, hlt, hlt2, L_inside, hneg, c1, sidesGo]
    have hx := inR_true c1
    have hw1 : IntKind.i64.wrap (e.box.low.es[i] + 1) = e.box.low.es[i] + 1 := wrap64 (by omega) (by omega)
    have hgo := hK (i + 1, odd || (par e.box.low.es[i] || par e.box.high.es[i])) (by simp; omega) (by simp; omega)
    have hs : sidesGo M odd (e.box.low.es[i] :: e.box.low.es.drop (i + 1)) (e.box.high.es[i] :: e.box.high.es.drop (i + 1)) = (inR e.box.high.es[i] (e.box.low.es[i] + 1) M && sidesGo M (odd || (par e.box.low.es[i] || par e.box.high.es[i])) (e.box.low.es.drop (i + 1)) (e.box.high.es.drop (i + 1))) := by
      rw [sidesGo, c1, Bool.true_and, ← inR_next c1, Bool.and_assoc]
    rw [hs]
    cases c2 : inR e.box.high.es[i] (e.box.low.es[i] + 1) M
    · simp -implicitDefEqProofs [l1_impl_isBox, hlt, hlt2, L_inside, hneg, c1, c2, hw1]
    rw [Bool.true_and, ← hgo]
    cases odd
    · cases q1 : par e.box.low.es[i]
      · cases q2 : par e.box.high.es[i]
        · simp only [par] at q1 q2
          simp -implicitDefEqProofs [l1_impl_isBox, hlt, hlt2, L_inside, hneg, c1, c2, hw1, hws, q1, q2]
        · simp only [par] at q1 q2
          simp -implicitDefEqProofs [l1_impl_isBox, hlt, hlt2, L_inside, hneg, c1, c2, hw1, hws, q1, q2]
      · simp only [par] at q1
        simp -implicitDefEqProofs [l1_impl_isBox, hlt, hlt2, L_inside, hneg, c1, c2, hw1, hws, q1]
    · simp -implicitDefEqProofs [l1_impl_isBox, hlt, hlt2, L_inside, hneg, c1, c2, hw1, hws]
  · have hlt2 : ¬ i < e.box.high.es.length := by omega
    rw [drop_end hlt, drop_end hlt2]
    simp -implicitDefEqProofs [l1_impl_isBox, hlt, sidesGo]
end Go.Proofs.YtecmolmlojehgaaGreat.T
namespace Go.Proofs.YtecmolmlojehgaaGreat.T
open Go
variable {hand : Call}
set_option maxHeartbeats 2000000
attribute [-simp] List.getElem_cons_drop List.map_drop
theorem L_systemOver (e : EntryV) : L (prog hand) n_impl_systemOver [arg (cS e.system), argPE e 2] = some (resB (bothOk (pS e.system) (pB e.box))) := by
  refine L_body (b := b_impl_systemOver) rfl rfl 0 ?_
  intro fuel _
  have e1 : (pS e.system).length = e.system.es.length := by simp [pS]
  have e2 : (pB e.box).low.length = e.box.low.es.length := rfl
  rw [bothOk, e1, e2]
  cases h1 : sysOk (pS e.system)
  · simp -implicitDefEqProofs [b_impl_systemOver, L_isSystem, h1]
  cases h2 : boxOk (pB e.box)
  · simp -implicitDefEqProofs [b_impl_systemOver, L_isSystem, L_isBox, h1, h2]
  simp -implicitDefEqProofs [b_impl_systemOver, L_isSystem, L_isBox, h1, h2]
  by_cases h3 : e.system.es.length = e.box.low.es.length <;> simp [h3]
theorem L_isEntry (e : EntryV) : L (prog hand) n_impl_isEntry [argPE e 0] = some (resB (entryOk (qE e))) := by
  have hs := e.nok
  refine L_body (b := b_impl_isEntry) rfl rfl e.name.size ?_
  intro fuel hfuel
  have e0 : entryOk (qE e) = (allUp (byteOk e.name) 0 (e.name.size - 0) && (inR e.name.size 1 8 && (bothOk (pS e.system) (pB e.box) && (inR e.most 0 64 && (inR e.least 0 e.most && inR e.version 1 999))))) := by
    rw [entryOk, nameOk, Bool.and_assoc]; rfl
  rw [e0]
  simp -implicitDefEqProofs [b_impl_isEntry]
  refine (K_loop (fun (i : Nat) => ⟨asl [(0, .sv (.pm (eE e) 0)), (8, .sv (.v (int e.name.size))), (9, .sv (.v (int i)))], asl [], []⟩) (fun i => some (resB (allUp (byteOk e.name) i (e.name.size - i) && (inR e.name.size 1 8 && (bothOk (pS e.system) (pB e.box) && (inR e.most 0 64 && (inR e.least 0 e.most && inR e.version 1 999))))))) (fun i => e.name.size - i) (fun i => i ≤ e.name.size) ?_ 0 (by simp) (by omega)).trans (by simp)
  intro i hi k hk
  by_cases hlt : i < e.name.size
  · rw [allUp_step hlt]
    have hb : e.name[i]? = some e.name[i] := by simp [hlt]
    have hbo : byteOk e.name i = (decide (97 ≤ e.name[i].toNat) && decide (e.name[i].toNat ≤ 122)) := by unfold byteOk; rw [hb]
    rw [hbo]
    by_cases h1 : 97 ≤ e.name[i].toNat
    · have h1' : ¬ ((e.name[i].toNat : Int) < 97) := by omega
      have h1z : (97 : Int) ≤ e.name[i].toNat := by omega
      by_cases h2 : e.name[i].toNat ≤ 122
      · have h2' : ¬ ((122 : Int) < e.name[i].toNat) := by omega
        have h2z : (e.name[i].toNat : Int) ≤ 122 := by omega
        have hgo := hk (i + 1) (by omega) (by omega)
        rw [decide_eq_true h1, decide_eq_true h2]
        simp only [Bool.true_and]
        rw [← hgo]
        simp -implicitDefEqProofs [l1_impl_isEntry, hlt, h1, h1', h1z, h2, h2', h2z, wrap_suc (show i < 9223372036854775807 by omega)]
      · have h2' : ((122 : Int) < e.name[i].toNat) := by omega
        rw [decide_eq_false h2]
        simp only [Bool.and_false, Bool.false_and]
        simp -implicitDefEqProofs [l1_impl_isEntry, hlt, h1, h1', h1z, h2, h2']
    · have h1' : ((e.name[i].toNat : Int) < 97) := by omega
      rw [decide_eq_false h1]
      simp only [Bool.false_and]
      simp -implicitDefEqProofs [l1_impl_isEntry, hlt, h1, h1']
  · rw [allUp_end hlt, Bool.true_and]
    cases c1 : inR e.name.size 1 8
    · simp -implicitDefEqProofs [l1_impl_isEntry, hlt, L_inside, c1]
    cases c2 : bothOk (pS e.system) (pB e.box)
    · simp -implicitDefEqProofs [l1_impl_isEntry, hlt, L_inside, L_systemOver, c1, c2]
    cases c3 : inR e.least 0 e.most
    · simp -implicitDefEqProofs [l1_impl_isEntry, hlt, L_inside, L_systemOver, c1, c2, c3]
    have hl := inR_true c3
    by_cases c4 : e.most ≤ 64
    · have c4' : inR e.most 0 64 = true := by simp [inR, c4]; omega
      simp -implicitDefEqProofs [l1_impl_isEntry, hlt, L_inside, L_systemOver, c1, c2, c3, c4, c4']
    · have c4' : inR e.most 0 64 = false := by simp [inR, c4]
      simp -implicitDefEqProofs [l1_impl_isEntry, hlt, L_inside, L_systemOver, c1, c2, c3, c4, c4']
theorem L_isCatalogue (l : Entries) : L (prog hand) n_impl_isCatalogue [arg (cE l)] = some (resB (catOk (qL l))) := by
  have hok := l.ok
  have hlen : (qL l).length = l.es.length := by simp [qL]
  refine L_body (b := b_impl_isCatalogue) rfl rfl l.es.length ?_
  intro fuel hfuel
  rw [catOk, hlen]
  simp -implicitDefEqProofs [b_impl_isCatalogue]
  refine K_loop (fun (i : Nat) => ⟨asl [(0, .sv (.c (cE l))), (5, .sv (.v (int l.es.length))), (6, .sv (.v (int i)))], asl [], []⟩) (fun i => some (resB (catGo (nameAt l i) ((qL l).drop i) && decide (l.es.length ≤ 10)))) (fun i => l.es.length - i) (fun i => i ≤ l.es.length) ?_ 0 (by simp) (by omega)
  intro i hi k hk
  by_cases hlt : i < l.es.length
  · have hk' := hk (i + 1) (by omega) (by omega)
    have hnext : nameAt l (i + 1) = some l.es[i].name := by simp [nameAt, hlt]
    have hd : (qL l).drop i = qE l.es[i] :: (qL l).drop (i + 1) := by
      rw [drop_cons (by rw [hlen]; exact hlt)]
      simp [qL]
    rw [hnext] at hk'
    rw [hd]
    have hqn : (qE l.es[i]).name = l.es[i].name := rfl
    have hws := wrap_suc (show i < 9223372036854775807 by omega)
    by_cases hi0 : i = 0
    · have hz : ¬ (0 < i) := by omega
      have hp0 : nameAt l i = none := by rw [hi0]; rfl
      rw [hp0]
      cases h1 : entryOk (qE l.es[i])
      · simp -implicitDefEqProofs [l1_impl_isCatalogue, hlt, L_isEntry, h1, catGo]
      · simp -implicitDefEqProofs [l1_impl_isCatalogue, hlt, L_isEntry, h1, catGo, hz, hws]
        exact hk'
    · have hz : 0 < i := by omega
      have hj : i - 1 < l.es.length := by omega
      have hp0 : nameAt l i = some l.es[i - 1].name := by
        obtain ⟨j, rfl⟩ : ∃ j, i = j + 1 := ⟨i - 1, by omega⟩
        simp [nameAt, show j < l.es.length by omega]
      rw [hp0]
      have hw := wrap64 (n := (i : Int) - 1) (by omega) (by omega)
      have ht : ((i : Int) - 1).toNat = i - 1 := by omega
      have hb0 : (0 : Int) ≤ (i : Int) - 1 := by omega
      have hb1 : (i : Int) - 1 < (l.es.length : Int) := by omega
      have hb2 : (1 : Int) ≤ (i : Int) := by omega
      have hb3 : 1 ≤ i := by omega
      cases h1 : entryOk (qE l.es[i])
      · simp -implicitDefEqProofs [l1_impl_isCatalogue, hlt, L_isEntry, h1, catGo]
      · cases h3 : lessN l.es[i - 1].name l.es[i].name
        · have h3' : Op.bytesLess l.es[i - 1].name.toList l.es[i].name.toList = false := h3
          simp -implicitDefEqProofs [l1_impl_isCatalogue, hlt, L_isEntry, h1, catGo, hw, hz, hj, ht, hb0, hb1, hb2, hb3, hqn, h3, h3', hws]
        · have h3' : Op.bytesLess l.es[i - 1].name.toList l.es[i].name.toList = true := h3
          simp -implicitDefEqProofs [l1_impl_isCatalogue, hlt, L_isEntry, h1, catGo, hw, hz, hj, ht, hb0, hb1, hb2, hb3, hqn, h3, h3', hws]
          exact hk'
  · have hd : (qL l).drop i = [] := drop_end (by rw [hlen]; exact hlt)
    rw [hd]
    have hg : catGo (nameAt l i) [] = true := by cases nameAt l i <;> rfl
    have hc : ((l.es.length : Int) ≤ 10) = (l.es.length ≤ 10) := by rw [eq_iff_iff]; omega
    simp -implicitDefEqProofs [l1_impl_isCatalogue, hlt, hg, hc]
end Go.Proofs.YtecmolmlojehgaaGreat.T
namespace Go.Proofs.YtecmolmlojehgaaGreat.T
open Go
section
variable {call : Call} {n : Nat}
/-- A loop; frames count by what their head leaves of them. -/
theorem K_loopC {σ : Type} (F : σ → Fr) (G : σ → Option Res) (m : σ → Nat) (I : σ → Prop) {live : List Nat} {c : PC} {K : Kont}
    (h : ∀ s, I s → ∀ k : Fr → Option Res, (∀ s' fr, I s' → m s' < m s → fr.canon live = (F s').canon live → k fr = G s') → runK call n c (kSeq k K) ((F s).canon live) = G s) :
    ∀ s fr, I s → m s < n → fr.canon live = (F s).canon live → runK call n (.loop live c) K fr = G s := by
  have key : ∀ (j : Nat) (s : σ) (fr : Fr), I s → m s < j → fr.canon live = (F s).canon live → iterK (fun K fr => runK call n c K (fr.canon live)) K j fr = G s := by
    intro j
    induction j with
    | zero => intro s fr _ h; omega
    | succ j ih =>
      intro s fr hs hj hc
      show runK call n c (kSeq _ K) (fr.canon live) = G s
      rw [hc]
      exact h s hs _ (fun s' fr' hs' hlt hc' => ih s' fr' hs' (by omega) hc')
  exact fun s fr hs hn hc => key n s fr hs hn hc
/-- Some entries of a list, anew. -/
def over {α : Type} : List (Nat × α) → List (Nat × α) → List (Nat × α)
  | [], _ => []
  | (i, a) :: l, u => (i, (u.lookup i).getD a) :: over l u
theorem over_nil {α : Type} (u : List (Nat × α)) : over [] u = [] := rfl
theorem over_cons {α : Type} (i : Nat) (a : α) (l u : List (Nat × α)) : over ((i, a) :: l) u = (i, (u.lookup i).getD a) :: over l u := rfl
theorem lookup_nil' {α : Type} (i : Nat) : List.lookup i ([] : List (Nat × α)) = none := rfl
theorem lookup_cons' {α : Type} (i j : Nat) (a : α) (l : List (Nat × α)) : List.lookup i ((j, a) :: l) = if i = j then some a else List.lookup i l := by
  simp only [List.lookup_cons]
  by_cases h : i = j
  · subst h; simp
  · rw [if_neg h]
    have : (i == j) = false := by simpa using h
    rw [this]
/-- The same, by the slots and roots that change. -/
theorem K_it {σ : Type} {l : List (Nat × AV)} {r : List (Nat × Root)} {ps : List Nat} {live : List Nat} {c : PC} {K : Kont} (U : σ → List (Nat × AV)) (V : σ → List (Nat × Root)) (G : σ → Option Res) (m : σ → Nat) (I : σ → Prop) (s0 : σ)
    (hI : I s0) (hn : m s0 < n) (hc : Fr.canon ⟨asl l, asl r, ps⟩ live = Fr.canon ⟨asl (over l (U s0)), asl (over r (V s0)), ps⟩ live)
    (h : ∀ s, I s → ∀ k : Fr → Option Res, (∀ s' fr, I s' → m s' < m s → fr.canon live = Fr.canon ⟨asl (over l (U s')), asl (over r (V s')), ps⟩ live → k fr = G s') → runK call n c (kSeq k K) (Fr.canon ⟨asl (over l (U s)), asl (over r (V s)), ps⟩ live) = G s) :
    runK call n (.loop live c) K ⟨asl l, asl r, ps⟩ = G s0 :=
  K_loopC (fun s => ⟨asl (over l (U s)), asl (over r (V s)), ps⟩) G m I h s0 _ hI hn hc
end
section
variable {α β : Type}
theorem take_map_len (f : α → β) (l : List α) : (l.map f).take l.length = l.map f := by rw [← List.length_map (f := f), List.take_length]
theorem drop_map_len (f : α → β) (l : List α) : (l.map f).drop l.length = [] := by rw [← List.length_map (f := f), List.drop_length]
theorem take_snoc_len (f : α → β) (l : List α) (x : β) : (l.map f ++ [x]).take (l.length + 1) = l.map f ++ [x] := List.take_of_length_le (by simp)
theorem drop_snoc_len (f : α → β) (l : List α) (x : β) : (l.map f ++ [x]).drop (l.length + 1) = [] := List.drop_eq_nil_of_le (by simp)
end
abbrev vI (n : Int) : AV := .sv (.v (int n))
abbrev vB (b : Bool) : AV := .sv (.v (.bool b))
abbrev vS (s : ByteArray) : AV := .sv (.v (.string s))
abbrev vC (c : C) : AV := .sv (.c c)
attribute [simp] over_nil over_cons lookup_nil' lookup_cons' take_map_len drop_map_len take_snoc_len drop_snoc_len
theorem if_t {c : Prop} [Decidable c] {γ : Type} {a b : γ} (h : c) : (if c then a else b) = a := if_pos h
theorem if_f {c : Prop} [Decidable c] {γ : Type} {a b : γ} (h : ¬ c) : (if c then a else b) = b := if_neg h
end Go.Proofs.YtecmolmlojehgaaGreat.T
namespace Go.Proofs.YtecmolmlojehgaaGreat.T
open Go
def cmpN (a b : ByteArray) : Int := if lessN a b then -1 else if a.toList == b.toList then 0 else 1
/-- What is proved by hand. -/
def handClone (sz : Nat) : List Arg → Option Res
  | [.imm (.s (.c (.fl s es _)))] => if s = sz ∧ es.length ≤ 1000000 then some ⟨[.s (.mk .deep (.fl s es []))], []⟩ else none
  | _ => none
def handCmp : List Arg → Option Res
  | [.imm (.s (.c (.val (.string a)))), .imm (.s (.c (.val (.string b))))] => some (resI (cmpN a b))
  | _ => none
def handInsert (sz : Nat) : List Arg → Option Res
  | [.arr true (.sl s es []) n, .imm (.s (.c (.val (.int .i64 i)))), .arr true (.sl s' [e] []) 1] => if s = sz ∧ s' = sz ∧ n = es.length ∧ 0 ≤ i ∧ i ≤ es.length ∧ es.length ≤ 1000000 then some ⟨[.s (.mk .deep (.sl s (es.take i.toNat ++ [e] ++ es.drop i.toNat) []))], [none, none]⟩ else none
  | _ => none
end Go.Proofs.YtecmolmlojehgaaGreat.T
namespace Go.Proofs.YtecmolmlojehgaaGreat.T
open Go
def hands : List (Nat × (List Arg → Option Res)) := [(n_slices_Insert_SimplEntryimplEntry, handInsert 8), (n_slices_Clone_SimplTermimplTerm, handClone 4), (n_slices_Clone_Sintint, handClone 1), (n_bytealg_abigen_runtime_cmpstring, handCmp)]
def handF : Call := fun f args => match hands.lookup f with | some g => g args | none => none
end Go.Proofs.YtecmolmlojehgaaGreat.T
namespace Go.Proofs.YtecmolmlojehgaaGreat.T
open Go
set_option maxHeartbeats 2000000
attribute [-simp] List.getElem_cons_drop List.map_drop List.map_take
noncomputable abbrev L0 : Call := L (prog handF)
def bareRow {α : Type} (a : Row α) : Row α := ⟨a.es, [], by have := a.ok; simp; omega⟩
def bareS (s : Sys) : Sys := ⟨s.es.map bareRow, [], by have := s.ok; simp; omega⟩
def bareB (b : BoxV) : BoxV := ⟨b.k, bareRow b.low, bareRow b.high⟩
def bareE (e : EntryV) : EntryV := ⟨e.name, e.nok, bareS e.system, bareB e.box, e.least, e.most, e.version⟩
def bareL (l : Entries) : Entries := ⟨l.es.map bareE, [], by have := l.ok; simp; omega⟩
theorem bareRow_es {α : Type} (a : Row α) : (bareRow a).es = a.es := rfl
theorem bareRow_sp {α : Type} (a : Row α) : (bareRow a).sp = [] := rfl
theorem bareS_es (s : Sys) : (bareS s).es = s.es.map bareRow := rfl
theorem bareS_sp (s : Sys) : (bareS s).sp = [] := rfl
theorem bareL_es (l : Entries) : (bareL l).es = l.es.map bareE := rfl
theorem bareL_sp (l : Entries) : (bareL l).sp = [] := rfl
theorem L_CloneI (a : Ints) (h : a.es.length ≤ 1000000) : L0 n_slices_Clone_Sintint [arg (cI a)] = some ⟨[.s (.mk .deep (cI (bareRow a)))], []⟩ := by
  refine L_hand rfl ?_
  rw [show (prog handF).hand n_slices_Clone_Sintint [arg (cI a)] = handClone 1 [arg (cI a)] from rfl]
  simp [handClone, h, bareRow]
theorem L_CloneP (a : Poly) (h : a.es.length ≤ 1000000) : L0 n_slices_Clone_SimplTermimplTerm [arg (cP a)] = some ⟨[.s (.mk .deep (cP (bareRow a)))], []⟩ := by
  refine L_hand rfl ?_
  rw [show (prog handF).hand n_slices_Clone_SimplTermimplTerm [arg (cP a)] = handClone 4 [arg (cP a)] from rfl]
  simp [handClone, h, bareRow]
theorem L_cmpstring (a b : ByteArray) : L0 n_bytealg_abigen_runtime_cmpstring [argV (.string a), argV (.string b)] = some (resI (cmpN a b)) := by
  refine L_hand rfl ?_
  rw [show (prog handF).hand n_bytealg_abigen_runtime_cmpstring [argV (.string a), argV (.string b)] = handCmp [argV (.string a), argV (.string b)] from rfl]
  simp [handCmp]
theorem L_l1Own (a : Ints) (h : a.es.length ≤ 1000000) : L0 n_spec_l1Own [arg (cI a)] = some ⟨[.s (.mk .deep (cI (bareRow a)))], []⟩ := by
  refine L_body (b := b_spec_l1Own) rfl rfl 0 ?_
  intro fuel _
  have hm : a.es.length * 8 ≤ 140737488355328 := by omega
  have hm2 : a.es.length ≤ 9223372036854775807 := by omega
  have hT : (a.es.map eI).take a.es.length = a.es.map eI := List.take_of_length_le (by simp)
  have hD : (a.es.map eI).drop a.es.length = [] := List.drop_eq_nil_of_le (by simp)
  simp -implicitDefEqProofs [b_spec_l1Own, hm, hm2, bareRow_es, bareRow_sp, hT, hD]
theorem L_spec_caSystem (a : Sys) (h : a.es.length ≤ 1000000) (hp : ∀ p ∈ a.es, p.es.length ≤ 1000000) : L0 n_spec_caSystem [arg (cS a)] = some ⟨[.s (.mk .deep (cS (bareS a)))], []⟩ := by
  refine L_body (b := b_spec_caSystem) rfl rfl a.es.length ?_
  intro fuel hfuel
  obtain ⟨R, hR⟩ : ∃ R : Nat → List (List C), R = fun i => (a.es.take i).map (fun x => eP (bareRow x)) := ⟨_, rfl⟩
  have hR0 : R 0 = [] := by rw [hR]; rfl
  have hRs : ∀ i (h : i < a.es.length), R i ++ [eP (bareRow a.es[i])] = R (i + 1) := by
    intro i h
    rw [hR]
    simp only [List.take_succ_eq_append_getElem h, List.map_append, List.map_cons, List.map_nil]
  have hRl : ∀ i, i ≤ a.es.length → (R i).length = i := by intro i h; rw [hR]; simp; omega
  have hRn : R a.es.length = a.es.map (fun x => eP (bareRow x)) := by rw [hR]; simp
  have hT : (R a.es.length).take a.es.length = R a.es.length := List.take_of_length_le (by rw [hRl _ (Nat.le_refl _)]; exact Nat.le_refl _)
  have hD : (R a.es.length).drop a.es.length = [] := List.drop_eq_nil_of_le (by rw [hRl _ (Nat.le_refl _)]; exact Nat.le_refl _)
  have hres : cS (bareS a) = .sl 1 (R a.es.length) [] := by rw [hRn]; simp [bareS_es, bareS_sp, Function.comp_def]
  rw [hres]
  clear hR hRn hres
  simp -implicitDefEqProofs [b_spec_caSystem]
  rw [K_start (fr' := ⟨asl [(3, .sv (.ref 1000000 [] 0 0)), (6, .sv (.c (cS a))), (7, .sv (.v (int a.es.length))), (8, .sv (.v (int (0 : Nat))))], asl [(1000000, .arr true false (.sl 1 (R 0) []))], []⟩) (by simp [hR0])]
  refine K_for2 (fun i => ⟨asl [(3, .sv (.ref 1000000 [] 0 i)), (6, .sv (.c (cS a))), (7, .sv (.v (int a.es.length))), (8, .sv (.v (int i)))], asl [(1000000, .arr true false (.sl 1 (R i) []))], []⟩) (fun i => ⟨asl [(3, .sv (.ref 65088 [] 0 i)), (6, .sv (.c (cS a))), (7, .sv (.v (int a.es.length))), (8, .sv (.v (int i)))], asl [(65088, .arr true false (.sl 1 (R i) []))], []⟩) 0 a.es.length (by omega) (by omega) (by intro i _ _; simp) ?_ ?_
  · intro i _ hi K
    have hl := hRl i (by omega)
    have hm : (i + 1) * 24 ≤ 140737488355328 := by omega
    have hm2 : i + 1 ≤ 9223372036854775807 := by omega
    have hT2 : (R i).take i = R i := List.take_of_length_le (by omega)
    have hs := hRs i hi
    have hq := hp _ (List.getElem_mem hi)
    have hm3 : a.es[i].es.length * 32 ≤ 140737488355328 := by omega
    have hm4 : a.es[i].es.length ≤ 9223372036854775807 := by omega
    have hT3 : (a.es[i].es.map eT).take a.es[i].es.length = a.es[i].es.map eT := List.take_of_length_le (by simp)
    have hD3 : (a.es[i].es.map eT).drop a.es[i].es.length = [] := List.drop_eq_nil_of_le (by simp)
    have hs : R i ++ [[C.fl 4 (a.es[i].es.map eT) []]] = R (i + 1) := hs
    simp -implicitDefEqProofs [l1_spec_caSystem, hi, hl, hm, hm2, hT2, hm3, hm4, hT3, hD3, hs, wrap_suc (show i < 9223372036854775807 by omega)]
  · intro _
    have hl := hRl a.es.length (Nat.le_refl _)
    simp -implicitDefEqProofs [l1_spec_caSystem, hl, hT, hD]
theorem L_impl_copySystem (a : Sys) (h : a.es.length ≤ 1000000) (hp : ∀ p ∈ a.es, p.es.length ≤ 1000000) : L0 n_impl_copySystem [arg (cS a)] = some ⟨[.s (.mk .deep (cS (bareS a)))], []⟩ := by
  refine L_body (b := b_impl_copySystem) rfl rfl a.es.length ?_
  intro fuel hfuel
  obtain ⟨R, hR⟩ : ∃ R : Nat → List (List C), R = fun i => (a.es.take i).map (fun x => eP (bareRow x)) := ⟨_, rfl⟩
  have hR0 : R 0 = [] := by rw [hR]; rfl
  have hRs : ∀ i (h : i < a.es.length), R i ++ [eP (bareRow a.es[i])] = R (i + 1) := by
    intro i h
    rw [hR]
    simp only [List.take_succ_eq_append_getElem h, List.map_append, List.map_cons, List.map_nil]
  have hRl : ∀ i, i ≤ a.es.length → (R i).length = i := by intro i h; rw [hR]; simp; omega
  have hRn : R a.es.length = a.es.map (fun x => eP (bareRow x)) := by rw [hR]; simp
  have hT : (R a.es.length).take a.es.length = R a.es.length := List.take_of_length_le (by rw [hRl _ (Nat.le_refl _)]; exact Nat.le_refl _)
  have hD : (R a.es.length).drop a.es.length = [] := List.drop_eq_nil_of_le (by rw [hRl _ (Nat.le_refl _)]; exact Nat.le_refl _)
  have hres : cS (bareS a) = .sl 1 (R a.es.length) [] := by rw [hRn]; simp [bareS_es, bareS_sp, Function.comp_def]
  rw [hres]
  clear hR hRn hres
  simp -implicitDefEqProofs [b_impl_copySystem]
  rw [K_start (fr' := ⟨asl [(3, .sv (.ref 1000000 [] 0 0)), (6, .sv (.c (cS a))), (7, .sv (.v (int a.es.length))), (8, .sv (.v (int (0 : Nat))))], asl [(1000000, .arr true false (.sl 1 (R 0) []))], []⟩) (by simp [hR0])]
  refine K_for2 (fun i => ⟨asl [(3, .sv (.ref 1000000 [] 0 i)), (6, .sv (.c (cS a))), (7, .sv (.v (int a.es.length))), (8, .sv (.v (int i)))], asl [(1000000, .arr true false (.sl 1 (R i) []))], []⟩) (fun i => ⟨asl [(3, .sv (.ref 65024 [] 0 i)), (6, .sv (.c (cS a))), (7, .sv (.v (int a.es.length))), (8, .sv (.v (int i)))], asl [(65024, .arr true false (.sl 1 (R i) []))], []⟩) 0 a.es.length (by omega) (by omega) (by intro i _ _; simp) ?_ ?_
  · intro i _ hi K
    have hl := hRl i (by omega)
    have hm : (i + 1) * 24 ≤ 140737488355328 := by omega
    have hm2 : i + 1 ≤ 9223372036854775807 := by omega
    have hT2 : (R i).take i = R i := List.take_of_length_le (by omega)
    have hs := hRs i hi
    have hq := hp _ (List.getElem_mem hi)
    have hC := L_CloneP a.es[i] hq
    have hT3 : (a.es[i].es.map eT).take a.es[i].es.length = a.es[i].es.map eT := List.take_of_length_le (by simp)
    have hD3 : (a.es[i].es.map eT).drop a.es[i].es.length = [] := List.drop_eq_nil_of_le (by simp)
    have hs : R i ++ [[C.fl 4 (a.es[i].es.map eT) []]] = R (i + 1) := hs
    simp -implicitDefEqProofs [l1_impl_copySystem, hi, hl, hm, hm2, hT2, hC, bareRow_es, bareRow_sp, hT3, hD3, hs, wrap_suc (show i < 9223372036854775807 by omega)]
  · intro _
    have hl := hRl a.es.length (Nat.le_refl _)
    simp -implicitDefEqProofs [l1_impl_copySystem, hl, hT, hD]
theorem L_caOwn (e : EntryV) (h : SmallE e) : L0 n_spec_caOwn [argE e] = some ⟨[rE (bareE e)], []⟩ := by
  obtain ⟨⟨h1, h2⟩, h3, h4⟩ := h
  refine L_body (b := b_spec_caOwn) rfl rfl 0 ?_
  intro fuel _
  have hS := L_spec_caSystem e.system h1 h2
  have hl := L_l1Own e.box.low h3
  have hh := L_l1Own e.box.high h4
  have t1 : ((bareS e.system).es.map eP).take (bareS e.system).es.length = (bareS e.system).es.map eP := List.take_of_length_le (by simp)
  have t2 : ((bareS e.system).es.map eP).drop (bareS e.system).es.length = [] := List.drop_eq_nil_of_le (by simp)
  have t3 : (e.box.low.es.map eI).take e.box.low.es.length = e.box.low.es.map eI := List.take_of_length_le (by simp)
  have t4 : (e.box.low.es.map eI).drop e.box.low.es.length = [] := List.drop_eq_nil_of_le (by simp)
  have t5 : (e.box.high.es.map eI).take e.box.high.es.length = e.box.high.es.map eI := List.take_of_length_le (by simp)
  have t6 : (e.box.high.es.map eI).drop e.box.high.es.length = [] := List.drop_eq_nil_of_le (by simp)
  simp -implicitDefEqProofs [b_spec_caOwn, hS, hl, hh, bareS_sp, bareRow_es, bareRow_sp, bareE, bareB, t1, t2, t3, t4, t5, t6]
abbrev Boxes := Row BoxV
abbrev cBs (a : Boxes) : C := .sl 3 (a.es.map eB) (a.sp.map eB)
def bareBs (a : Boxes) : Boxes := ⟨a.es.map bareB, [], by have := a.ok; simp; omega⟩
theorem bareBs_es (a : Boxes) : (bareBs a).es = a.es.map bareB := rfl
theorem bareBs_sp (a : Boxes) : (bareBs a).sp = [] := rfl
theorem L_impl_copyBoxes (a : Boxes) (h : a.es.length ≤ 1000000) (hp : ∀ b ∈ a.es, b.low.es.length ≤ 1000000 ∧ b.high.es.length ≤ 1000000) : L0 n_impl_copyBoxes [arg (cBs a)] = some ⟨[.s (.mk .deep (cBs (bareBs a)))], []⟩ := by
  refine L_body (b := b_impl_copyBoxes) rfl rfl a.es.length ?_
  intro fuel hfuel
  obtain ⟨R, hR⟩ : ∃ R : Nat → List (List C), R = fun i => (a.es.take i).map (fun x => eB (bareB x)) := ⟨_, rfl⟩
  have hR0 : R 0 = [] := by rw [hR]; rfl
  have hRs : ∀ i (h : i < a.es.length), R i ++ [eB (bareB a.es[i])] = R (i + 1) := by
    intro i h
    rw [hR]
    simp only [List.take_succ_eq_append_getElem h, List.map_append, List.map_cons, List.map_nil]
  have hRl : ∀ i, i ≤ a.es.length → (R i).length = i := by intro i h; rw [hR]; simp; omega
  have hRn : R a.es.length = a.es.map (fun x => eB (bareB x)) := by rw [hR]; simp
  have hT : (R a.es.length).take a.es.length = R a.es.length := List.take_of_length_le (by rw [hRl _ (Nat.le_refl _)]; exact Nat.le_refl _)
  have hD : (R a.es.length).drop a.es.length = [] := List.drop_eq_nil_of_le (by rw [hRl _ (Nat.le_refl _)]; exact Nat.le_refl _)
  have hres : cBs (bareBs a) = .sl 3 (R a.es.length) [] := by rw [hRn]; simp [bareBs_es, bareBs_sp, Function.comp_def]
  rw [hres]
  clear hR hRn hres
  simp -implicitDefEqProofs [b_impl_copyBoxes]
  rw [K_start (fr' := ⟨asl [(3, .sv (.ref 1000000 [] 0 0)), (6, .sv (.c (cBs a))), (7, .sv (.v (int a.es.length))), (8, .sv (.v (int (0 : Nat))))], asl [(1000000, .arr true false (.sl 3 (R 0) []))], []⟩) (by simp [hR0])]
  refine K_for2 (fun i => ⟨asl [(3, .sv (.ref 1000000 [] 0 i)), (6, .sv (.c (cBs a))), (7, .sv (.v (int a.es.length))), (8, .sv (.v (int i)))], asl [(1000000, .arr true false (.sl 3 (R i) []))], []⟩) (fun i => ⟨asl [(3, .sv (.ref 65472 [] 0 i)), (6, .sv (.c (cBs a))), (7, .sv (.v (int a.es.length))), (8, .sv (.v (int i)))], asl [(65472, .arr true false (.sl 3 (R i) []))], []⟩) 0 a.es.length (by omega) (by omega) (by intro i _ _; simp) ?_ ?_
  · intro i _ hi K
    have hl := hRl i (by omega)
    have hm : (i + 1) * 56 ≤ 140737488355328 := by omega
    have hm2 : i + 1 ≤ 9223372036854775807 := by omega
    have hT2 : (R i).take i = R i := List.take_of_length_le (by omega)
    have hs := hRs i hi
    obtain ⟨q1, q2⟩ := hp _ (List.getElem_mem hi)
    have hl1 := L_CloneI a.es[i].low q1
    have hh1 := L_CloneI a.es[i].high q2
    have t3 : (a.es[i].low.es.map eI).take a.es[i].low.es.length = a.es[i].low.es.map eI := List.take_of_length_le (by simp)
    have t4 : (a.es[i].low.es.map eI).drop a.es[i].low.es.length = [] := List.drop_eq_nil_of_le (by simp)
    have t5 : (a.es[i].high.es.map eI).take a.es[i].high.es.length = a.es[i].high.es.map eI := List.take_of_length_le (by simp)
    have t6 : (a.es[i].high.es.map eI).drop a.es[i].high.es.length = [] := List.drop_eq_nil_of_le (by simp)
    have hs : R i ++ [[C.val (int a.es[i].k), C.fl 1 (a.es[i].low.es.map eI) [], C.fl 1 (a.es[i].high.es.map eI) []]] = R (i + 1) := hs
    simp -implicitDefEqProofs [l1_impl_copyBoxes, hi, hl, hm, hm2, hT2, hl1, hh1, bareRow_es, bareRow_sp, t3, t4, t5, t6, hs, wrap_suc (show i < 9223372036854775807 by omega)]
  · intro _
    have hl := hRl a.es.length (Nat.le_refl _)
    simp -implicitDefEqProofs [l1_impl_copyBoxes, hl, hT, hD]
theorem L_copyBox1 (b : BoxV) (h1 : b.low.es.length ≤ 1000000) (h2 : b.high.es.length ≤ 1000000) : L0 n_impl_copyBoxes [arg (.sl 3 [[.val (int b.k), .fl 1 (b.low.es.map eI) (b.low.sp.map eI), .fl 1 (b.high.es.map eI) (b.high.sp.map eI)]] [])] = some ⟨[.s (.mk .deep (.sl 3 [[.val (int b.k), .fl 1 (b.low.es.map eI) [], .fl 1 (b.high.es.map eI) []]] []))], []⟩ := by
  have h := L_impl_copyBoxes ⟨[b], [], by simp⟩ (by simp) (fun b' hb => by simp at hb; subst hb; exact ⟨h1, h2⟩)
  exact h
theorem L_copyEntry (e : EntryV) (h : SmallE e) : L0 n_impl_copyEntry [argPE e 0] = some ⟨[rE (bareE e)], []⟩ := by
  obtain ⟨⟨h1, h2⟩, h3, h4⟩ := h
  refine L_body (b := b_impl_copyEntry) rfl rfl 0 ?_
  intro fuel _
  have hS := L_impl_copySystem e.system h1 h2
  have hB := L_copyBox1 e.box h3 h4
  have t1 : ((bareS e.system).es.map eP).take (bareS e.system).es.length = (bareS e.system).es.map eP := List.take_of_length_le (by simp)
  have t2 : ((bareS e.system).es.map eP).drop (bareS e.system).es.length = [] := List.drop_eq_nil_of_le (by simp)
  have t3 : (e.box.low.es.map eI).take e.box.low.es.length = e.box.low.es.map eI := List.take_of_length_le (by simp)
  have t4 : (e.box.low.es.map eI).drop e.box.low.es.length = [] := List.drop_eq_nil_of_le (by simp)
  have t5 : (e.box.high.es.map eI).take e.box.high.es.length = e.box.high.es.map eI := List.take_of_length_le (by simp)
  have t6 : (e.box.high.es.map eI).drop e.box.high.es.length = [] := List.drop_eq_nil_of_le (by simp)
  simp -implicitDefEqProofs [b_impl_copyEntry, hS, hB, bareS_sp, bareRow_es, bareRow_sp, bareE, bareB, t1, t2, t3, t4, t5, t6]
theorem L_spec_caOwnAll (a : Entries) (h : a.es.length ≤ 1000000) (hp : ∀ e ∈ a.es, SmallE e) : L0 n_spec_caOwnAll [arg (cE a)] = some ⟨[.s (.mk .deep (cE (bareL a)))], []⟩ := by
  refine L_body (b := b_spec_caOwnAll) rfl rfl a.es.length ?_
  intro fuel hfuel
  obtain ⟨R, hR⟩ : ∃ R : Nat → List (List C), R = fun i => (a.es.take i).map (fun x => eE (bareE x)) := ⟨_, rfl⟩
  have hR0 : R 0 = [] := by rw [hR]; rfl
  have hRs : ∀ i (h : i < a.es.length), R i ++ [eE (bareE a.es[i])] = R (i + 1) := by
    intro i h
    rw [hR]
    simp only [List.take_succ_eq_append_getElem h, List.map_append, List.map_cons, List.map_nil]
  have hRl : ∀ i, i ≤ a.es.length → (R i).length = i := by intro i h; rw [hR]; simp; omega
  have hRn : R a.es.length = a.es.map (fun x => eE (bareE x)) := by rw [hR]; simp
  have hT : (R a.es.length).take a.es.length = R a.es.length := List.take_of_length_le (by rw [hRl _ (Nat.le_refl _)]; exact Nat.le_refl _)
  have hD : (R a.es.length).drop a.es.length = [] := List.drop_eq_nil_of_le (by rw [hRl _ (Nat.le_refl _)]; exact Nat.le_refl _)
  have hres : cE (bareL a) = .sl 8 (R a.es.length) [] := by rw [hRn]; simp [bareL_es, bareL_sp, Function.comp_def]
  rw [hres]
  clear hR hRn hres
  simp -implicitDefEqProofs [b_spec_caOwnAll]
  rw [K_start (fr' := ⟨asl [(3, .sv (.ref 1000000 [] 0 0)), (6, .sv (.c (cE a))), (7, .sv (.v (int a.es.length))), (8, .sv (.v (int (0 : Nat))))], asl [(1000000, .arr true false (.sl 8 (R 0) []))], []⟩) (by simp [hR0])]
  refine K_for2 (fun i => ⟨asl [(3, .sv (.ref 1000000 [] 0 i)), (6, .sv (.c (cE a))), (7, .sv (.v (int a.es.length))), (8, .sv (.v (int i)))], asl [(1000000, .arr true false (.sl 8 (R i) []))], []⟩) (fun i => ⟨asl [(3, .sv (.ref 65024 [] 0 i)), (6, .sv (.c (cE a))), (7, .sv (.v (int a.es.length))), (8, .sv (.v (int i)))], asl [(65024, .arr true false (.sl 8 (R i) []))], []⟩) 0 a.es.length (by omega) (by omega) (by intro i _ _; simp) ?_ ?_
  · intro i _ hi K
    have hl := hRl i (by omega)
    have hm : (i + 1) * 120 ≤ 140737488355328 := by omega
    have hm2 : i + 1 ≤ 9223372036854775807 := by omega
    have hT2 : (R i).take i = R i := List.take_of_length_le (by omega)
    have hs := hRs i hi
    have hq := hp _ (List.getElem_mem hi)
    have hC := L_caOwn a.es[i] hq
    have t1 : ((bareS a.es[i].system).es.map eP).take (bareS a.es[i].system).es.length = (bareS a.es[i].system).es.map eP := List.take_of_length_le (by simp)
    have t2 : ((bareS a.es[i].system).es.map eP).drop (bareS a.es[i].system).es.length = [] := List.drop_eq_nil_of_le (by simp)
    have t3 : (a.es[i].box.low.es.map eI).take a.es[i].box.low.es.length = a.es[i].box.low.es.map eI := List.take_of_length_le (by simp)
    have t4 : (a.es[i].box.low.es.map eI).drop a.es[i].box.low.es.length = [] := List.drop_eq_nil_of_le (by simp)
    have t5 : (a.es[i].box.high.es.map eI).take a.es[i].box.high.es.length = a.es[i].box.high.es.map eI := List.take_of_length_le (by simp)
    have t6 : (a.es[i].box.high.es.map eI).drop a.es[i].box.high.es.length = [] := List.drop_eq_nil_of_le (by simp)
    have hs : R i ++ [[C.val (.string a.es[i].name), C.sl 1 ((bareS a.es[i].system).es.map eP) [], C.val (int a.es[i].box.k), C.fl 1 (a.es[i].box.low.es.map eI) [], C.fl 1 (a.es[i].box.high.es.map eI) [], C.val (int a.es[i].least), C.val (int a.es[i].most), C.val (int a.es[i].version)]] = R (i + 1) := hs
    simp -implicitDefEqProofs [l1_spec_caOwnAll, hi, hl, hm, hm2, hT2, hC, bareS_sp, bareRow_es, bareRow_sp, bareE, bareB, t1, t2, t3, t4, t5, t6, hs, wrap_suc (show i < 9223372036854775807 by omega)]
  · intro _
    have hl := hRl a.es.length (Nat.le_refl _)
    simp -implicitDefEqProofs [l1_spec_caOwnAll, hl, hT, hD]
theorem L_impl_copyEntries (a : Entries) (h : a.es.length ≤ 1000000) (hp : ∀ e ∈ a.es, SmallE e) : L0 n_impl_copyEntries [arg (cE a)] = some ⟨[.s (.mk .deep (cE (bareL a)))], []⟩ := by
  refine L_body (b := b_impl_copyEntries) rfl rfl a.es.length ?_
  intro fuel hfuel
  obtain ⟨R, hR⟩ : ∃ R : Nat → List (List C), R = fun i => (a.es.take i).map (fun x => eE (bareE x)) := ⟨_, rfl⟩
  have hR0 : R 0 = [] := by rw [hR]; rfl
  have hRs : ∀ i (h : i < a.es.length), R i ++ [eE (bareE a.es[i])] = R (i + 1) := by
    intro i h
    rw [hR]
    simp only [List.take_succ_eq_append_getElem h, List.map_append, List.map_cons, List.map_nil]
  have hRl : ∀ i, i ≤ a.es.length → (R i).length = i := by intro i h; rw [hR]; simp; omega
  have hRn : R a.es.length = a.es.map (fun x => eE (bareE x)) := by rw [hR]; simp
  have hT : (R a.es.length).take a.es.length = R a.es.length := List.take_of_length_le (by rw [hRl _ (Nat.le_refl _)]; exact Nat.le_refl _)
  have hD : (R a.es.length).drop a.es.length = [] := List.drop_eq_nil_of_le (by rw [hRl _ (Nat.le_refl _)]; exact Nat.le_refl _)
  have hres : cE (bareL a) = .sl 8 (R a.es.length) [] := by rw [hRn]; simp [bareL_es, bareL_sp, Function.comp_def]
  rw [hres]
  clear hR hRn hres
  simp -implicitDefEqProofs [b_impl_copyEntries]
  rw [K_start (fr' := ⟨asl [(0, .sv (.c (cE a))), (3, .sv (.ref 1000000 [] 0 0)), (6, .sv (.v (int a.es.length))), (7, .sv (.v (int (0 : Nat))))], asl [(1000000, .arr true false (.sl 8 (R 0) []))], []⟩) (by simp [hR0])]
  refine K_for2 (fun i => ⟨asl [(0, .sv (.c (cE a))), (3, .sv (.ref 1000000 [] 0 i)), (6, .sv (.v (int a.es.length))), (7, .sv (.v (int i)))], asl [(1000000, .arr true false (.sl 8 (R i) []))], []⟩) (fun i => ⟨asl [(0, .sv (.c (cE a))), (3, .sv (.ref 65024 [] 0 i)), (6, .sv (.v (int a.es.length))), (7, .sv (.v (int i)))], asl [(65024, .arr true false (.sl 8 (R i) []))], []⟩) 0 a.es.length (by omega) (by omega) (by intro i _ _; simp) ?_ ?_
  · intro i _ hi K
    have hl := hRl i (by omega)
    have hm : (i + 1) * 120 ≤ 140737488355328 := by omega
    have hm2 : i + 1 ≤ 9223372036854775807 := by omega
    have hT2 : (R i).take i = R i := List.take_of_length_le (by omega)
    have hs := hRs i hi
    have hq := hp _ (List.getElem_mem hi)
    have hC := L_copyEntry a.es[i] hq
    have t1 : ((bareS a.es[i].system).es.map eP).take (bareS a.es[i].system).es.length = (bareS a.es[i].system).es.map eP := List.take_of_length_le (by simp)
    have t2 : ((bareS a.es[i].system).es.map eP).drop (bareS a.es[i].system).es.length = [] := List.drop_eq_nil_of_le (by simp)
    have t3 : (a.es[i].box.low.es.map eI).take a.es[i].box.low.es.length = a.es[i].box.low.es.map eI := List.take_of_length_le (by simp)
    have t4 : (a.es[i].box.low.es.map eI).drop a.es[i].box.low.es.length = [] := List.drop_eq_nil_of_le (by simp)
    have t5 : (a.es[i].box.high.es.map eI).take a.es[i].box.high.es.length = a.es[i].box.high.es.map eI := List.take_of_length_le (by simp)
    have t6 : (a.es[i].box.high.es.map eI).drop a.es[i].box.high.es.length = [] := List.drop_eq_nil_of_le (by simp)
    have hs : R i ++ [[C.val (.string a.es[i].name), C.sl 1 ((bareS a.es[i].system).es.map eP) [], C.val (int a.es[i].box.k), C.fl 1 (a.es[i].box.low.es.map eI) [], C.fl 1 (a.es[i].box.high.es.map eI) [], C.val (int a.es[i].least), C.val (int a.es[i].most), C.val (int a.es[i].version)]] = R (i + 1) := hs
    simp -implicitDefEqProofs [l1_impl_copyEntries, hi, hl, hm, hm2, hT2, hC, bareS_sp, bareRow_es, bareRow_sp, bareE, bareB, t1, t2, t3, t4, t5, t6, hs, wrap_suc (show i < 9223372036854775807 by omega)]
  · intro _
    have hl := hRl a.es.length (Nat.le_refl _)
    simp -implicitDefEqProofs [l1_impl_copyEntries, hl, hT, hD]
end Go.Proofs.YtecmolmlojehgaaGreat.T
namespace Go.Proofs.YtecmolmlojehgaaGreat.T
open Go
set_option maxHeartbeats 2000000
attribute [-simp] List.getElem_cons_drop List.map_drop List.map_take
def eqN (a b : ByteArray) : Bool := a.toList == b.toList
def placeGo (n : ByteArray) : List EntryV → Nat
  | [] => 0
  | e :: r => if lessN e.name n then placeGo n r + 1 else 0
theorem placeGo_le (n : ByteArray) : ∀ l, placeGo n l ≤ l.length
  | [] => Nat.le_refl _
  | e :: r => by
    have := placeGo_le n r
    simp only [placeGo]
    split <;> simp <;> omega
theorem L_caPlace (l : Entries) (n : ByteArray) : L0 n_spec_caPlace [arg (cE l), argV (.string n)] = some (resI (placeGo n l.es : Nat)) := by
  have hok := l.ok
  refine L_body (b := b_spec_caPlace) rfl rfl l.es.length ?_
  intro fuel hfuel
  simp -implicitDefEqProofs [b_spec_caPlace]
  refine (K_loop (fun (i : Nat) => ⟨asl [(0, .sv (.c (cE l))), (1, .sv (.v (.string n))), (5, .sv (.v (int i)))], asl [], []⟩) (fun i => some (resI ((i + placeGo n (l.es.drop i) : Nat) : Int))) (fun i => l.es.length - i) (fun i => i ≤ l.es.length) ?_ 0 (by simp) (by omega)).trans (by simp)
  intro i hi k hk
  by_cases hlt : i < l.es.length
  · rw [drop_cons hlt]
    cases h : lessN l.es[i].name n
    · have h' : Op.bytesLess l.es[i].name.toList n.toList = false := h
      simp -implicitDefEqProofs [l1_spec_caPlace, hlt, h, h', placeGo]
    · have h' : Op.bytesLess l.es[i].name.toList n.toList = true := h
      have hgo := hk (i + 1) (by omega) (by omega)
      have e : i + placeGo n (l.es[i] :: l.es.drop (i + 1)) = i + 1 + placeGo n (l.es.drop (i + 1)) := by simp [placeGo, h]; omega
      rw [e, ← hgo]
      simp -implicitDefEqProofs [l1_spec_caPlace, hlt, h', wrap_suc (show i < 9223372036854775807 by omega)]
  · rw [drop_end hlt]
    simp -implicitDefEqProofs [l1_spec_caPlace, hlt, placeGo]
def atB (l : List EntryV) (k : Nat) (n : ByteArray) : Bool :=
  match l[k]? with
  | some e => eqN e.name n
  | none => false
theorem L_caAt (l : Entries) (k : Nat) (n : ByteArray) : L0 n_spec_caAt [arg (cE l), argI k, argV (.string n)] = some (resB (atB l.es k n)) := by
  refine L_body (b := b_spec_caAt) rfl rfl 0 ?_
  intro fuel _
  by_cases hlt : k < l.es.length
  · have e : atB l.es k n = (l.es[k].name.toList == n.toList) := by simp [atB, hlt, eqN]
    rw [e]
    simp -implicitDefEqProofs [b_spec_caAt, hlt]
  · have e : atB l.es k n = false := by simp [atB, List.getElem?_eq_none (Nat.le_of_not_lt hlt)]
    rw [e]
    simp -implicitDefEqProofs [b_spec_caAt, hlt]
theorem L_CompareString (a b : ByteArray) : L0 n_bytealg_CompareString [argV (.string a), argV (.string b)] = some (resI (cmpN a b)) := by
  refine L_body (b := b_bytealg_CompareString) rfl rfl 0 ?_
  intro fuel _
  simp -implicitDefEqProofs [b_bytealg_CompareString, L_cmpstring]
theorem L_Compare (a b : ByteArray) : L0 n_strings_Compare [argV (.string a), argV (.string b)] = some (resI (cmpN a b)) := by
  refine L_body (b := b_strings_Compare) rfl rfl 0 ?_
  intro fuel _
  simp -implicitDefEqProofs [b_strings_Compare, L_CompareString]
theorem L_entryCmp (e : EntryV) (n : ByteArray) : L0 n_impl_entryPlace_in1 [argE e, argV (.string n)] = some (resI (cmpN e.name n)) := by
  refine L_body (b := b_impl_entryPlace_in1) rfl rfl 0 ?_
  intro fuel _
  simp -implicitDefEqProofs [b_impl_entryPlace_in1, L_Compare]
/-- All that comes before is in front. -/
def Mono (l : List EntryV) (n : ByteArray) : Prop := ∀ (i : Nat) (h : i < l.length), lessN l[i].name n = decide (i < placeGo n l)
theorem cmpN_neg (a b : ByteArray) : cmpN a b < 0 ↔ lessN a b = true := by
  unfold cmpN
  split
  · rename_i h; simp [h]
  · rename_i h
    split <;> simp [h]
theorem L_binarySearch (l : Entries) (n : ByteArray) (hl : l.es.length ≤ 1000000) (hm : Mono l.es n) : L0 n_slices_BinarySearchFunc_SimplEntryimplEntrystring [arg (cE l), argV (.string n), .imm (.fn 46 [])] = some ⟨[.s (.mk .imm (.val (int (placeGo n l.es : Nat)))), .s (.mk .imm (.val (.bool (atB l.es (placeGo n l.es) n))))], []⟩ := by
  have hple := placeGo_le n l.es
  refine L_body (b := b_slices_BinarySearchFunc_SimplEntryimplEntrystring) rfl rfl l.es.length ?_
  intro fuel hfuel
  simp -implicitDefEqProofs [b_slices_BinarySearchFunc_SimplEntryimplEntrystring]
  refine (K_loop (fun (s : Nat × Nat) => ⟨asl [(0, .sv (.c (cE l))), (1, .sv (.v (.string n))), (2, .v (.fn 46 [])), (8, .sv (.v (int l.es.length))), (9, .sv (.v (int s.1))), (10, .sv (.v (int s.2)))], asl [], []⟩) (fun _ => some ⟨[.s (.mk .imm (.val (int (placeGo n l.es : Nat)))), .s (.mk .imm (.val (.bool (atB l.es (placeGo n l.es) n))))], []⟩) (fun s => s.2 - s.1) (fun s => s.1 ≤ placeGo n l.es ∧ placeGo n l.es ≤ s.2 ∧ s.2 ≤ l.es.length) ?_ (0, l.es.length) ⟨by simp, by simpa using hple, by simp⟩ (by simpa using hfuel)).trans (by simp)
  rintro ⟨i, j⟩ ⟨h1, h2, h3⟩ k hk
  simp only at h1 h2 h3
  by_cases hlt : i < j
  · obtain ⟨h, hh⟩ : ∃ h, h = (i + j) / 2 := ⟨_, rfl⟩
    have hhl : h < l.es.length := by omega
    have w0 : IntKind.i64.wrap ((i : Int) + (j : Int)) = (i : Int) + (j : Int) := wrap64 (by omega) (by omega)
    have w1 : IntKind.u64.wrap ((i : Int) + (j : Int)) = (i : Int) + (j : Int) := by
      simp [IntKind.wrap, IntKind.bits, IntKind.signed]
      omega
    have hm1 : (2 : Int) ^ min 1 IntKind.u64.bits = 2 := by decide
    have hH : IntKind.i64.wrap ((IntKind.u64.wrap (IntKind.i64.wrap ((i : Int) + (j : Int)))).fdiv (2 ^ min 1 IntKind.u64.bits)) = (h : Int) := by
      rw [w0, w1, hm1, Int.fdiv_eq_ediv_of_nonneg _ (by omega), wrap64 (by omega) (by omega)]
      omega
    have hC := L_entryCmp l.es[h] n
    have hmh := hm h hhl
    have hws := wrap_suc (show h < 9223372036854775807 by omega)
    by_cases hp : h < placeGo n l.es
    · have hneg : cmpN l.es[h].name n < 0 := (cmpN_neg _ _).2 (by rw [hmh]; simpa using hp)
      have hgo := hk (h + 1, j) ⟨by simp; omega, by simp; omega, by simp; omega⟩ (by simp; omega)
      rw [← hgo]
      simp -implicitDefEqProofs [l1_slices_BinarySearchFunc_SimplEntryimplEntrystring, hlt, hH, hhl, hC, hneg, hws]
    · have hneg : ¬ (cmpN l.es[h].name n < 0) := by rw [cmpN_neg, hmh]; simpa using hp
      have hgo := hk (i, h) ⟨by simp; omega, by simp; omega, by simp; omega⟩ (by simp; omega)
      rw [← hgo]
      simp -implicitDefEqProofs [l1_slices_BinarySearchFunc_SimplEntryimplEntrystring, hlt, hH, hhl, hC, hneg]
  · have hij : i = placeGo n l.es := by omega
    by_cases hend : i < l.es.length
    · have hC := L_entryCmp l.es[i] n
      have hmi := hm i hend
      have hless : lessN l.es[i].name n = false := by rw [hmi]; simp [hij]
      have hat : atB l.es (placeGo n l.es) n = (cmpN l.es[i].name n == 0) := by
        rw [← hij]
        simp only [atB, hend, List.getElem?_eq_getElem, cmpN, hless, eqN]
        cases h : (l.es[i].name.toList == n.toList) <;> simp
      rw [hat, ← hij]
      simp -implicitDefEqProofs [l1_slices_BinarySearchFunc_SimplEntryimplEntrystring, hlt, hend, hC]
    · have hat : atB l.es (placeGo n l.es) n = false := by rw [← hij]; simp [atB, List.getElem?_eq_none (Nat.le_of_not_lt hend)]
      rw [hat, ← hij]
      simp -implicitDefEqProofs [l1_slices_BinarySearchFunc_SimplEntryimplEntrystring, hlt, hend]
theorem L_entryPlace (l : Entries) (n : ByteArray) (hl : l.es.length ≤ 1000000) (hm : Mono l.es n) : L0 n_impl_entryPlace [arg (cE l), argV (.string n)] = some ⟨[.s (.mk .imm (.val (int (placeGo n l.es : Nat)))), .s (.mk .imm (.val (.bool (atB l.es (placeGo n l.es) n))))], []⟩ := by
  have hB := L_binarySearch l n hl hm
  refine L_body (b := b_impl_entryPlace) rfl rfl 0 ?_
  intro fuel _
  simp -implicitDefEqProofs [b_impl_entryPlace, hB]
end Go.Proofs.YtecmolmlojehgaaGreat.T
namespace Go.Proofs.YtecmolmlojehgaaGreat.T
open Go
variable {hand : Call}
set_option maxHeartbeats 1000000
attribute [-simp] List.getElem_cons_drop List.map_drop
theorem L_eqIntS (a b : Ints) : L (prog hand) n_laws_eqIntS [arg (cI a), arg (cI b)] = some (resB (a.es == b.es)) := by
  have ha := a.ok
  refine L_body (b := b_laws_eqIntS) rfl rfl a.es.length ?_
  intro fuel hfuel
  by_cases h : a.es.length = b.es.length
  · simp [b_laws_eqIntS, h]
    refine K_loop (fun (i : Nat) => ⟨asl [(0, .sv (.c (cI a))), (1, .sv (.c (cI b))), (5, .sv (.v (int i)))], asl [], []⟩) (fun i => some (resB ((a.es.drop i) == (b.es.drop i)))) (fun i => a.es.length - i) (fun i => i ≤ a.es.length) ?_ 0 (by simp) (by simp; omega)
    intro i hi k hk
    by_cases hlt : i < a.es.length
    · have hlt2 : i < b.es.length := by omega
      simp [l1_laws_eqIntS, hlt, hlt2]
      rw [wrap_succ (by omega), drop_cons hlt, drop_cons hlt2]
      split
      · rename_i he
        rw [hk (i + 1) (by omega) (by omega)]
        simp [he]
      · rename_i he
        simp [he]
    · simp [l1_laws_eqIntS, hlt]
      rw [drop_end hlt, drop_end (by omega)]
      try rfl
  · simp [b_laws_eqIntS, h]
    try exact fun e => h (by simpa using congrArg List.length e)
theorem L_eqTerm (a b : TermV) : L (prog hand) n_laws_eqTerm [argT a, argT b] = some (resB (a == b)) := by
  refine L_body (b := b_laws_eqTerm) rfl rfl 0 ?_
  intro fuel hfuel
  obtain ⟨c, x, y, z⟩ := a
  obtain ⟨c', x', y', z'⟩ := b
  simp [b_laws_eqTerm]
  repeat' split
  all_goals simp_all
theorem L_eqTermS (a b : Poly) : L (prog hand) n_laws_eqTermS [arg (cP a), arg (cP b)] = some (resB (a.es == b.es)) := by
  have ha := a.ok
  refine L_body (b := b_laws_eqTermS) rfl rfl a.es.length ?_
  intro fuel hfuel
  by_cases h : a.es.length = b.es.length
  · simp [b_laws_eqTermS, h]
    refine K_loop (fun (i : Nat) => ⟨asl [(0, .sv (.c (cP a))), (1, .sv (.c (cP b))), (5, .sv (.v (int i)))], asl [], []⟩) (fun i => some (resB ((a.es.drop i) == (b.es.drop i)))) (fun i => a.es.length - i) (fun i => i ≤ a.es.length) ?_ 0 (by simp) (by simp; omega)
    intro i hi k hk
    by_cases hlt : i < a.es.length
    · have hlt2 : i < b.es.length := by omega
      simp [l1_laws_eqTermS, hlt, hlt2, L_eqTerm]
      rw [wrap_succ (by omega), drop_cons hlt, drop_cons hlt2]
      split
      · rename_i he
        rw [hk (i + 1) (by omega) (by omega)]
        simp [he]
      · rename_i he
        simp [he]
    · simp [l1_laws_eqTermS, hlt]
      rw [drop_end hlt, drop_end (by omega)]
      try rfl
  · simp [b_laws_eqTermS, h]
    try exact fun e => h (by simpa using congrArg List.length e)
theorem L_eqTermSS (a b : Sys) : L (prog hand) n_laws_eqTermSS [arg (cS a), arg (cS b)] = some (resB (a.es.map (·.es) == b.es.map (·.es))) := by
  have ha := a.ok
  refine L_body (b := b_laws_eqTermSS) rfl rfl a.es.length ?_
  intro fuel hfuel
  by_cases h : a.es.length = b.es.length
  · simp [b_laws_eqTermSS, h]
    refine K_loop (fun (i : Nat) => ⟨asl [(0, .sv (.c (cS a))), (1, .sv (.c (cS b))), (5, .sv (.v (int i)))], asl [], []⟩) (fun i => some (resB ((a.es.drop i).map (·.es) == (b.es.drop i).map (·.es)))) (fun i => a.es.length - i) (fun i => i ≤ a.es.length) ?_ 0 (by simp) (by simp; omega)
    intro i hi k hk
    by_cases hlt : i < a.es.length
    · have hlt2 : i < b.es.length := by omega
      simp [l1_laws_eqTermSS, hlt, hlt2, L_eqTermS]
      rw [wrap_succ (by omega), drop_cons hlt, drop_cons hlt2]
      split
      · rename_i he
        rw [hk (i + 1) (by omega) (by omega)]
        simp [he]
      · rename_i he
        simp [he]
    · simp [l1_laws_eqTermSS, hlt]
      rw [drop_end hlt, drop_end (by omega)]
      try rfl
  · simp [b_laws_eqTermSS, h]
    try exact fun e => h (by simpa using congrArg List.length e)
theorem L_eqBox (a b : BoxV) : L (prog hand) n_laws_eqBox [argB a, argB b] = some (resB (pB a == pB b)) := by
  refine L_body (b := b_laws_eqBox) rfl rfl 0 ?_
  intro fuel hfuel
  simp [b_laws_eqBox, L_eqIntS, pB]
  repeat' split
  all_goals simp_all
theorem L_eqEntry (a b : EntryV) : L (prog hand) n_laws_eqEntry [argE a, argE b] = some (resB (pE a == pE b)) := by
  refine L_body (b := b_laws_eqEntry) rfl rfl 0 ?_
  intro fuel hfuel
  simp [b_laws_eqEntry, L_eqIntS, L_eqTermSS, L_eqBox, pE, pB, pS]
  repeat' split
  all_goals simp_all
theorem L_eqEntryS (a b : Entries) : L (prog hand) n_laws_eqEntryS [arg (cE a), arg (cE b)] = some (resB (a.es.map pE == b.es.map pE)) := by
  have ha := a.ok
  refine L_body (b := b_laws_eqEntryS) rfl rfl a.es.length ?_
  intro fuel hfuel
  by_cases h : a.es.length = b.es.length
  · simp [b_laws_eqEntryS, h]
    refine K_loop (fun (i : Nat) => ⟨asl [(0, .sv (.c (cE a))), (1, .sv (.c (cE b))), (5, .sv (.v (int i)))], asl [], []⟩) (fun i => some (resB ((a.es.drop i).map pE == (b.es.drop i).map pE))) (fun i => a.es.length - i) (fun i => i ≤ a.es.length) ?_ 0 (by simp) (by simp; omega)
    intro i hi k hk
    by_cases hlt : i < a.es.length
    · have hlt2 : i < b.es.length := by omega
      simp [l1_laws_eqEntryS, hlt, hlt2, L_eqEntry]
      rw [wrap_succ (by omega), drop_cons hlt, drop_cons hlt2]
      split
      · rename_i he
        rw [hk (i + 1) (by omega) (by omega)]
        simp [he]
      · rename_i he
        simp [he]
    · simp [l1_laws_eqEntryS, hlt]
      rw [drop_end hlt, drop_end (by omega)]
      try rfl
  · simp [b_laws_eqEntryS, h]
    try exact fun e => h (by simpa using congrArg List.length e)
end Go.Proofs.YtecmolmlojehgaaGreat.T
namespace Go.Proofs.YtecmolmlojehgaaGreat.T
open Go
variable {hand : Call}
set_option maxHeartbeats 2000000
attribute [-simp] List.getElem_cons_drop List.map_drop
def Row.full {α : Type} (a : Row α) : Row α := ⟨a.es ++ a.sp, [], by have := a.ok; simp; omega⟩
def Row.rest {α : Type} (a : Row α) : Row α := ⟨a.sp, [], by have := a.ok; simp; omega⟩
theorem full_I (a : Ints) : C.fl 1 (a.es.map eI ++ a.sp.map eI) [] = cI a.full := by simp [Row.full]
theorem full_P (a : Poly) : C.fl 4 (a.es.map eT ++ a.sp.map eT) [] = cP a.full := by simp [Row.full]
theorem rest_S (a : Sys) : C.sl 1 (a.sp.map eP) [] = cS a.rest := by simp [Row.rest]
theorem rest_E (a : Entries) : C.sl 8 (a.sp.map eE) [] = cE a.rest := by simp [Row.rest]
/-- As the copies are made: so much room behind, few elements. -/
def Roomy {α : Type} (a : Row α) : Prop := a.sp.length = room a.es.length ∧ a.es.length ≤ 1000000
def RoomyS (s : Sys) : Prop := Roomy s ∧ ∀ p ∈ s.es, Roomy p
def RoomyB (b : BoxV) : Prop := Roomy b.low ∧ Roomy b.high
def RoomyE (e : EntryV) : Prop := RoomyS e.system ∧ RoomyB e.box
def RoomyL (l : Entries) : Prop := Roomy l ∧ ∀ e ∈ l.es, RoomyE e
theorem L_intactIntS (a : Ints) (h : Roomy a) : L (prog hand) n_laws_intactIntS [arg (cI a), arg (cI a)] = some (resB true) := by
  obtain ⟨h, h1⟩ := h
  have hr := room_le a.es.length
  refine L_body (b := b_laws_intactIntS) rfl rfl 0 ?_
  intro fuel hfuel
  have hw := wrap64 (n := (a.es.length : Int) + (room a.es.length : Int)) (by omega) (by omega)
  have hm0 : 0 ≤ ((a.es.length : Int) + (room a.es.length : Int)) := by omega
  have hN : ((a.es.length : Int) + (room a.es.length : Int)).toNat = a.es.length + room a.es.length := by omega
  have hle : ((a.es.length : Int) + (room a.es.length : Int)) ≤ ((a.es.length : Int) + (a.sp.length : Int)) := by omega
  have hT : (a.es.map eI ++ a.sp.map eI).take (a.es.length + room a.es.length) = a.es.map eI ++ a.sp.map eI := List.take_of_length_le (by simp; omega)
  have hD : (a.es.map eI ++ a.sp.map eI).drop (a.es.length + room a.es.length) = [] := List.drop_eq_nil_of_le (by simp; omega)
  have hE : L (prog hand) n_laws_eqIntS [arg (.fl 1 ((a.es.map eI ++ a.sp.map eI).take (a.es.length + room a.es.length)) ((a.es.map eI ++ a.sp.map eI).drop (a.es.length + room a.es.length))), arg (.fl 1 ((a.es.map eI ++ a.sp.map eI).take (a.es.length + room a.es.length)) ((a.es.map eI ++ a.sp.map eI).drop (a.es.length + room a.es.length)))] = some (resB true) := by
    rw [hT, hD, full_I, L_eqIntS]
    simp
  simp [b_laws_intactIntS, L_roomBehind, hw, hm0, hN, hle, hE]
theorem L_intactTermS (a : Poly) (h : Roomy a) : L (prog hand) n_laws_intactTermS [arg (cP a), arg (cP a)] = some (resB true) := by
  obtain ⟨h, h1⟩ := h
  have hr := room_le a.es.length
  refine L_body (b := b_laws_intactTermS) rfl rfl 0 ?_
  intro fuel hfuel
  have hw := wrap64 (n := (a.es.length : Int) + (room a.es.length : Int)) (by omega) (by omega)
  have hm0 : 0 ≤ ((a.es.length : Int) + (room a.es.length : Int)) := by omega
  have hN : ((a.es.length : Int) + (room a.es.length : Int)).toNat = a.es.length + room a.es.length := by omega
  have hle : ((a.es.length : Int) + (room a.es.length : Int)) ≤ ((a.es.length : Int) + (a.sp.length : Int)) := by omega
  have hT : (a.es.map eT ++ a.sp.map eT).take (a.es.length + room a.es.length) = a.es.map eT ++ a.sp.map eT := List.take_of_length_le (by simp; omega)
  have hD : (a.es.map eT ++ a.sp.map eT).drop (a.es.length + room a.es.length) = [] := List.drop_eq_nil_of_le (by simp; omega)
  have hE : L (prog hand) n_laws_eqTermS [arg (.fl 4 ((a.es.map eT ++ a.sp.map eT).take (a.es.length + room a.es.length)) ((a.es.map eT ++ a.sp.map eT).drop (a.es.length + room a.es.length))), arg (.fl 4 ((a.es.map eT ++ a.sp.map eT).take (a.es.length + room a.es.length)) ((a.es.map eT ++ a.sp.map eT).drop (a.es.length + room a.es.length)))] = some (resB true) := by
    rw [hT, hD, full_P, L_eqTermS]
    simp
  simp [b_laws_intactTermS, L_roomBehind, hw, hm0, hN, hle, hE]
theorem L_intactTermSS (a : Sys) (h : RoomyS a) : L (prog hand) n_laws_intactTermSS [arg (cS a), arg (cS a)] = some (resB true) := by
  obtain ⟨⟨h, h1⟩, hq⟩ := h
  have hr := room_le a.es.length
  refine L_body (b := b_laws_intactTermSS) rfl rfl a.es.length ?_
  intro fuel hfuel
  have hw := wrap64 (n := (a.es.length : Int) + (room a.es.length : Int)) (by omega) (by omega)
  have hm0 : 0 ≤ ((a.es.length : Int) + (room a.es.length : Int)) := by omega
  have hN : ((a.es.length : Int) + (room a.es.length : Int)).toNat = a.es.length + room a.es.length := by omega
  have hle : ((a.es.length : Int) + (room a.es.length : Int)) ≤ ((a.es.length : Int) + (a.sp.length : Int)) := by omega
  have hsub : a.es.length + room a.es.length - a.es.length = room a.es.length := by omega
  have hT : (a.sp.map eP).take (room a.es.length) = a.sp.map eP := List.take_of_length_le (by simp; omega)
  have hle0 : (a.es.length : Int) ≤ (a.es.length : Int) + (room a.es.length : Int) := by omega
  have hD : (a.es.map eP ++ a.sp.map eP).drop (a.es.length + room a.es.length) = [] := List.drop_eq_nil_of_le (by simp; omega)
  have hE : L (prog hand) n_laws_eqTermSS [arg (.sl 1 (a.sp.map eP) []), arg (.sl 1 (a.sp.map eP) [])] = some (resB true) := by
    rw [rest_S, L_eqTermSS]
    simp
  simp [b_laws_intactTermSS, L_roomBehind, hw]
  refine K_for (fun i => ⟨asl [(0, .sv (.c (cS a))), (1, .sv (.c (cS a))), (5, .sv (.v (int ((a.es.length : Int) + (room a.es.length : Int))))), (6, .sv (.v (int i)))], asl [], []⟩) 0 a.es.length (by omega) (by omega) ?_ ?_
  · intro i _ hi K
    have hp := hq _ (List.getElem_mem hi)
    simp [l1_laws_intactTermSS, hi, L_intactTermS _ hp, wrap_suc (show i < 9223372036854775807 by omega)]
  · intro k
    simp [l1_laws_intactTermSS, hm0, hN, hle, hle0, hsub, hT, hD, hE]
theorem L_intactBox (b : BoxV) (h : RoomyB b) : L (prog hand) n_laws_intactBox [argB b, argB b] = some (resB true) := by
  refine L_body (b := b_laws_intactBox) rfl rfl 0 ?_
  intro fuel hfuel
  simp [b_laws_intactBox, L_intactIntS _ h.1, L_intactIntS _ h.2]
theorem L_intactEntry (e : EntryV) (h : RoomyE e) : L (prog hand) n_laws_intactEntry [argE e, argE e] = some (resB true) := by
  refine L_body (b := b_laws_intactEntry) rfl rfl 0 ?_
  intro fuel hfuel
  simp [b_laws_intactEntry, L_intactTermSS _ h.1, L_intactBox _ h.2]
theorem L_intactEntryS (a : Entries) (h : RoomyL a) : L (prog hand) n_laws_intactEntryS [arg (cE a), arg (cE a)] = some (resB true) := by
  obtain ⟨⟨h, h1⟩, hq⟩ := h
  have hr := room_le a.es.length
  refine L_body (b := b_laws_intactEntryS) rfl rfl a.es.length ?_
  intro fuel hfuel
  have hw := wrap64 (n := (a.es.length : Int) + (room a.es.length : Int)) (by omega) (by omega)
  have hm0 : 0 ≤ ((a.es.length : Int) + (room a.es.length : Int)) := by omega
  have hN : ((a.es.length : Int) + (room a.es.length : Int)).toNat = a.es.length + room a.es.length := by omega
  have hle : ((a.es.length : Int) + (room a.es.length : Int)) ≤ ((a.es.length : Int) + (a.sp.length : Int)) := by omega
  have hsub : a.es.length + room a.es.length - a.es.length = room a.es.length := by omega
  have hT : (a.sp.map eE).take (room a.es.length) = a.sp.map eE := List.take_of_length_le (by simp; omega)
  have hle0 : (a.es.length : Int) ≤ (a.es.length : Int) + (room a.es.length : Int) := by omega
  have hD : (a.es.map eE ++ a.sp.map eE).drop (a.es.length + room a.es.length) = [] := List.drop_eq_nil_of_le (by simp; omega)
  have hE : L (prog hand) n_laws_eqEntryS [arg (.sl 8 (a.sp.map eE) []), arg (.sl 8 (a.sp.map eE) [])] = some (resB true) := by
    rw [rest_E, L_eqEntryS]
    simp
  simp [b_laws_intactEntryS, L_roomBehind, hw]
  refine K_for (fun i => ⟨asl [(0, .sv (.c (cE a))), (1, .sv (.c (cE a))), (5, .sv (.v (int ((a.es.length : Int) + (room a.es.length : Int))))), (6, .sv (.v (int i)))], asl [], []⟩) 0 a.es.length (by omega) (by omega) ?_ ?_
  · intro i _ hi K
    have hp := hq _ (List.getElem_mem hi)
    simp [l1_laws_intactEntryS, hi, L_intactEntry _ hp, wrap_suc (show i < 9223372036854775807 by omega)]
  · intro k
    simp [l1_laws_intactEntryS, hm0, hN, hle, hle0, hsub, hT, hD, hE]
end Go.Proofs.YtecmolmlojehgaaGreat.T
namespace Go.Proofs.YtecmolmlojehgaaGreat.T
open Go
variable {hand : Call}
set_option maxHeartbeats 2000000
attribute [-simp] List.getElem_cons_drop List.map_drop
/-! ### A row of which the first places are new -/
def mixRow {α : Type} (X Y : List α) (i : Nat) : List α := X.take i ++ Y.drop i
section
variable {α : Type} {X Y : List α} {i : Nat}
theorem mix_length (h : X.length = Y.length) : (mixRow X Y i).length = Y.length := by simp [mixRow]; omega
theorem mix_zero : mixRow X Y 0 = Y := by simp [mixRow]
theorem mix_all (h : X.length = Y.length) : mixRow X Y X.length = X := by simp [mixRow, List.drop_eq_nil_of_le (show Y.length ≤ X.length by omega)]
theorem mix_get (h : X.length = Y.length) (hi : i < Y.length) : (mixRow X Y i)[i]? = some Y[i] := by
  unfold mixRow
  rw [List.getElem?_append_right (by simp; omega), List.length_take, Nat.min_eq_left (by omega), Nat.sub_self, List.getElem?_drop, Nat.add_zero, List.getElem?_eq_getElem hi]
theorem mix_at (h : X.length = Y.length) (hi : i < (mixRow X Y i).length) : (mixRow X Y i)[i] = Y[i]'(by rw [mix_length h] at hi; exact hi) := by
  have h2 : i < Y.length := by rw [mix_length h] at hi; exact hi
  have h3 := mix_get h h2
  rw [List.getElem?_eq_getElem hi] at h3
  exact Option.some.inj h3
theorem mix_set {v : α} (h : X.length = Y.length) (hv : X[i]? = some v) : (mixRow X Y i).set i v = mixRow X Y (i + 1) := by
  obtain ⟨hlt, hv'⟩ := List.getElem?_eq_some_iff.1 hv
  unfold mixRow
  apply List.ext_getElem?
  intro j
  rw [List.getElem?_set]
  by_cases e : i = j
  · subst e
    rw [if_pos rfl, if_pos (by simp; omega)]
    rw [List.getElem?_append_left (by simp; omega), List.getElem?_take_of_lt (by omega), hv]
  · rw [if_neg e]
    by_cases hj : j < i
    · rw [List.getElem?_append_left (by simp; omega), List.getElem?_append_left (by simp; omega), List.getElem?_take_of_lt hj, List.getElem?_take_of_lt (by omega)]
    · rw [List.getElem?_append_right (by simp; omega), List.getElem?_append_right (by simp; omega), List.length_take, List.length_take, Nat.min_eq_left (by omega), Nat.min_eq_left (by omega), List.getElem?_drop, List.getElem?_drop]
      congr 1; omega
end
/-! ### Texts -/
abbrev dig (k : Nat) : ByteArray := ⟨#[UInt8.ofNat (IntKind.u8.wrap (IntKind.i64.wrap (48 + (k : Int).tmod 10))).toNat]⟩
def digs (k : Nat) (out : ByteArray) : ByteArray := if h : k = 0 then out else digs (k / 10) (dig k ++ out)
termination_by k
decreasing_by omega
theorem digs_zero (out : ByteArray) : digs 0 out = out := by rw [digs]; simp
theorem digs_pos {k : Nat} (h : k ≠ 0) (out : ByteArray) : digs k out = digs (k / 10) (dig k ++ out) := by rw [digs, dif_neg h]
theorem digs_size (k : Nat) : ∀ out : ByteArray, (digs k out).size ≤ out.size + k := by
  induction k using Nat.strongRecOn with
  | ind k ih =>
    intro out
    by_cases h : k = 0
    · subst h; rw [digs_zero]; omega
    · rw [digs_pos h]
      have := ih (k / 10) (by omega) (dig k ++ out)
      have e : (dig k ++ out).size = 1 + out.size := by rw [ByteArray.size_append]; rfl
      omega
abbrev bM : ByteArray := ⟨#[109]⟩
def mText (k : Nat) : ByteArray := bM ++ digs k ⟨#[]⟩
theorem L_markText (k : Nat) (h0 : 0 < k) (h1 : k < 4611686018427387904) : L (prog hand) n_laws_markText [argI k] = some (resV (.string (mText k))) := by
  refine L_body (b := b_laws_markText) rfl rfl k ?_
  intro fuel hfuel
  have e0 : ¬ ((k : Int) ≤ 0) := by omega
  have e1 : k ≠ 0 := by omega
  simp -implicitDefEqProofs [b_laws_markText, e0, e1]
  refine (K_loop (fun (s : Nat × ByteArray) => ⟨asl [(0, .sv (.v (int s.1))), (3, .sv (.v (.string s.2)))], asl [], []⟩) (fun s => some (resV (.string (bM ++ digs s.1 s.2)))) (fun s => s.1) (fun s => s.1 + s.2.size < 4611686018427387904) ?_ (k, ⟨#[]⟩) (by show k + 0 < _; omega) (by simpa using hfuel))
  rintro ⟨k, out⟩ hI K hK
  simp only at hI
  by_cases hk : k = 0
  · subst hk
    have hs : bM.size + out.size ≤ 9223372036854775807 := by have : bM.size = 1 := rfl; omega
    simp -implicitDefEqProofs [l1_laws_markText, digs_zero, hs]
  · have hk' : 0 < k := by omega
    have hd : IntKind.i64.wrap ((k : Int) / 10) = (k : Int) / 10 := wrap64 (by omega) (by omega)
    have hs : (dig k).size + out.size ≤ 9223372036854775807 := by have : (dig k).size = 1 := rfl; omega
    simp -implicitDefEqProofs [l1_laws_markText, hk', digs_pos hk, hd, hs]
    refine (hK (k / 10, dig k ++ out) ?_ ?_).trans rfl
    · show k / 10 + (dig k ++ out).size < _
      rw [ByteArray.size_append]
      have : (dig k).size = 1 := rfl
      omega
    · show k / 10 < k
      omega
/-! ### What is written -/
def mInts (k n : Nat) : List Int := (List.range n).map (fun i => ((k + i : Nat) : Int))
abbrev mTerm (k : Nat) : TermV := ⟨k, (k + 1 : Nat), (k + 2 : Nat), (k + 3 : Nat)⟩
def mTerms (k n : Nat) : List TermV := (List.range n).map (fun i => mTerm (k + 4 * i))
def markI (k : Nat) (a : Ints) : Ints := ⟨mInts k a.es.length, a.sp, by have := a.ok; simpa [mInts] using this⟩
def markP (k : Nat) (a : Poly) : Poly := ⟨mTerms k a.es.length, a.sp, by have := a.ok; simpa [mTerms] using this⟩
theorem mInts_length (k n : Nat) : (mInts k n).length = n := by simp [mInts]
theorem mTerms_length (k n : Nat) : (mTerms k n).length = n := by simp [mTerms]
theorem mInts_get {k n i : Nat} (h : i < n) : (mInts k n)[i]? = some ((k + i : Nat) : Int) := by simp [mInts, h]
theorem mTerms_get {k n i : Nat} (h : i < n) : (mTerms k n)[i]? = some (mTerm (k + 4 * i)) := by simp [mTerms, h]
theorem markI_es (k : Nat) (a : Ints) : (markI k a).es = mInts k a.es.length := rfl
theorem markI_sp (k : Nat) (a : Ints) : (markI k a).sp = a.sp := rfl
theorem markP_es (k : Nat) (a : Poly) : (markP k a).es = mTerms k a.es.length := rfl
theorem markP_sp (k : Nat) (a : Poly) : (markP k a).sp = a.sp := rfl
/-- A row that is handed over: all of it, its length. -/
abbrev own (c : C) (n : Nat) : Arg := .arr true c n
abbrev backI (k : Nat) (c : C) : Res := ⟨[.s (.mk .imm (.val (int k)))], [some (.arr true false c)]⟩
abbrev wI (a : Ints) : C := .fl 1 (a.es.map eI ++ a.sp.map eI) []
abbrev wP (a : Poly) : C := .fl 4 (a.es.map eT ++ a.sp.map eT) []
theorem L_markIntS (a : Ints) (k : Nat) (h1 : a.es.length ≤ 1000000) (hk : k + a.es.length < 4611686018427387904) : L (prog hand) n_laws_markIntS [own (wI a) a.es.length, argI k] = some (backI (k + a.es.length) (wI (markI k a))) := by
  refine L_body (b := b_laws_markIntS) rfl rfl a.es.length ?_
  intro fuel hfuel
  obtain ⟨Y, hY⟩ : ∃ Y, Y = a.es.map eI ++ a.sp.map eI := ⟨_, rfl⟩
  obtain ⟨X, hX⟩ : ∃ X, X = (markI k a).es.map eI ++ (markI k a).sp.map eI := ⟨_, rfl⟩
  have hl : X.length = Y.length := by rw [hX, hY]; simp [markI_es, markI_sp, mInts_length]
  have hn : a.es.length ≤ Y.length := by rw [hY]; simp
  have hXi : ∀ i, i < a.es.length → X[i]? = some (eI ((k + i : Nat) : Int)) := by
    intro i hi
    rw [hX, List.getElem?_append_left (by simpa [markI_es, mInts_length] using hi), List.getElem?_map, markI_es, mInts_get hi]
    rfl
  have hYi : ∀ (i : Nat) (h : i < Y.length), ∃ y, Y[i] = eI y := by
    intro i h
    have : Y[i] ∈ Y := List.getElem_mem h
    subst hY
    simp only [List.mem_append, List.mem_map] at this
    rcases this with ⟨x, _, e⟩ | ⟨x, _, e⟩ <;> exact ⟨x, e.symm⟩
  have hrest : mixRow X Y a.es.length = X := by
    unfold mixRow
    rw [hX, hY, List.take_left' (by simp [markI_es, mInts_length]), List.drop_left' (by simp), markI_sp]
  have e1 : wI a = .fl 1 Y [] := by rw [hY]
  have e2 : wI (markI k a) = .fl 1 X [] := by rw [hX]
  rw [e1, e2]
  clear e1 e2 hX hY
  simp -implicitDefEqProofs [b_laws_markIntS]
  rw [K_start (fr' := ⟨asl [(0, .sv (.ref 0 [] 0 a.es.length)), (1, .sv (.v (int ((k + 0 : Nat) : Int)))), (5, .sv (.v (int (0 : Nat))))], asl [(0, .arr true false (.fl 1 (mixRow X Y 0) []))], [0]⟩) (by simp [mix_zero])]
  refine K_for (fun i => ⟨asl [(0, .sv (.ref 0 [] 0 a.es.length)), (1, .sv (.v (int ((k + i : Nat) : Int)))), (5, .sv (.v (int i)))], asl [(0, .arr true false (.fl 1 (mixRow X Y i) []))], [0]⟩) 0 a.es.length (by omega) (by omega) ?_ ?_
  · intro i _ hi K
    have h2 : i < Y.length := by omega
    have hs := mix_set (Y := Y) hl (hXi i hi)
    obtain ⟨y, hy⟩ := hYi i h2
    have hw := wrap64 (n := ((k : Int) + (i : Int)) + 1) (by omega) (by omega)
    have ha : (k : Int) + ((i : Int) + 1) = ((k : Int) + (i : Int)) + 1 := by omega
    simp only [Int.natCast_add] at hs
    simp -implicitDefEqProofs [l1_laws_markIntS, hi, h2, hn, hy, mix_at hl, mix_length hl, hs, hw, ha, wrap_suc (show i < 9223372036854775807 by omega)]
  · intro k
    simp -implicitDefEqProofs [l1_laws_markIntS, hrest]
theorem L_markTermS (a : Poly) (k : Nat) (h1 : a.es.length ≤ 1000000) (hk : k + 4 * a.es.length < 4611686018427387904) : L (prog hand) n_laws_markTermS [own (wP a) a.es.length, argI k] = some (backI (k + 4 * a.es.length) (wP (markP k a))) := by
  refine L_body (b := b_laws_markTermS) rfl rfl a.es.length ?_
  intro fuel hfuel
  obtain ⟨Y, hY⟩ : ∃ Y, Y = a.es.map eT ++ a.sp.map eT := ⟨_, rfl⟩
  obtain ⟨X, hX⟩ : ∃ X, X = (markP k a).es.map eT ++ (markP k a).sp.map eT := ⟨_, rfl⟩
  have hl : X.length = Y.length := by rw [hX, hY]; simp [markP_es, markP_sp, mTerms_length]
  have hn : a.es.length ≤ Y.length := by rw [hY]; simp
  have hXi : ∀ i, i < a.es.length → X[i]? = some (eT (mTerm (k + 4 * i))) := by
    intro i hi
    rw [hX, List.getElem?_append_left (by simpa [markP_es, mTerms_length] using hi), List.getElem?_map, markP_es, mTerms_get hi]
    rfl
  have hYi : ∀ (i : Nat) (h : i < Y.length), ∃ y, Y[i] = eT y := by
    intro i h
    have : Y[i] ∈ Y := List.getElem_mem h
    subst hY
    simp only [List.mem_append, List.mem_map] at this
    rcases this with ⟨x, _, e⟩ | ⟨x, _, e⟩ <;> exact ⟨x, e.symm⟩
  have hrest : mixRow X Y a.es.length = X := by
    unfold mixRow
    rw [hX, hY, List.take_left' (by simp [markP_es, mTerms_length]), List.drop_left' (by simp), markP_sp]
  have e1 : wP a = .fl 4 Y [] := by rw [hY]
  have e2 : wP (markP k a) = .fl 4 X [] := by rw [hX]
  rw [e1, e2]
  clear e1 e2 hX hY
  simp -implicitDefEqProofs [b_laws_markTermS]
  rw [K_start (fr' := ⟨asl [(0, .sv (.ref 0 [] 0 a.es.length)), (1, .sv (.v (int ((k + 4 * 0 : Nat) : Int)))), (5, .sv (.v (int (0 : Nat))))], asl [(0, .arr true false (.fl 4 (mixRow X Y 0) []))], [0]⟩) (by simp [mix_zero])]
  refine K_for (fun i => ⟨asl [(0, .sv (.ref 0 [] 0 a.es.length)), (1, .sv (.v (int ((k + 4 * i : Nat) : Int)))), (5, .sv (.v (int i)))], asl [(0, .arr true false (.fl 4 (mixRow X Y i) []))], [0]⟩) 0 a.es.length (by omega) (by omega) ?_ ?_
  · intro i _ hi K
    have h2 : i < Y.length := by omega
    have hs := mix_set (Y := Y) hl (hXi i hi)
    obtain ⟨y, hy⟩ := hYi i h2
    have hF : k + 4 * (i + 1) = (k + 4 * i) + 4 := by omega
    have hb : k + 4 * i < 4611686018427387904 := by omega
    simp only [hF]
    generalize k + 4 * i = b at hs hb
    have hw1 := wrap64 (n := (b : Int) + 1) (by omega) (by omega)
    have hw2 : IntKind.i64.wrap ((b : Int) + 1 + 1) = (b : Int) + 2 := by rw [wrap64 (by omega) (by omega)]; omega
    have hw3 : IntKind.i64.wrap ((b : Int) + 2 + 1) = (b : Int) + 3 := by rw [wrap64 (by omega) (by omega)]; omega
    have hw4 : IntKind.i64.wrap ((b : Int) + 3 + 1) = (b : Int) + 4 := by rw [wrap64 (by omega) (by omega)]; omega
    have hs : (mixRow X Y i).set i [int b, int ((b : Int) + 1), int ((b : Int) + 2), int ((b : Int) + 3)] = mixRow X Y (i + 1) := hs
    simp -implicitDefEqProofs [l1_laws_markTermS, hi, h2, hn, hy, mix_at hl, mix_length hl, hs, hw1, hw2, hw3, hw4, wrap_suc (show i < 9223372036854775807 by omega)]
  · intro k
    simp -implicitDefEqProofs [l1_laws_markTermS, hrest]
theorem L_heldIntS (a : Ints) (k : Nat) (h1 : a.es.length ≤ 1000000) (hk : k + a.es.length < 4611686018427387904) : L (prog hand) n_laws_heldIntS [arg (cI (markI k a)), argI k] = some (resI ((k + a.es.length : Nat) : Int)) := by
  refine L_body (b := b_laws_heldIntS) rfl rfl a.es.length ?_
  intro fuel hfuel
  have hl : (markI k a).es.length = a.es.length := mInts_length _ _
  have hg : ∀ (i : Nat) (h : i < (markI k a).es.length), (markI k a).es[i] = ((k + i : Nat) : Int) := by
    intro i h
    have := mInts_get (k := k) (n := a.es.length) (i := i) (by rw [← hl]; exact h)
    rw [← markI_es, List.getElem?_eq_getElem h] at this
    exact Option.some.inj this
  generalize markI k a = m at hl hg
  simp -implicitDefEqProofs [b_laws_heldIntS]
  rw [K_start (fr' := ⟨asl [(0, .sv (.c (cI m))), (1, .sv (.v (int ((k + 0 : Nat) : Int)))), (5, .sv (.v (int (0 : Nat))))], asl [], []⟩) (by simp)]
  refine K_for (fun i => ⟨asl [(0, .sv (.c (cI m))), (1, .sv (.v (int ((k + i : Nat) : Int)))), (5, .sv (.v (int i)))], asl [], []⟩) 0 m.es.length (by omega) (by omega) ?_ ?_
  · intro i _ hi K
    have hw := wrap64 (n := ((k : Int) + (i : Int)) + 1) (by omega) (by omega)
    have ha : (k : Int) + ((i : Int) + 1) = ((k : Int) + (i : Int)) + 1 := by omega
    have hgi := hg i hi
    simp only [Int.natCast_add] at hgi
    simp -implicitDefEqProofs [l1_laws_heldIntS, hi, hgi, hw, ha, wrap_suc (show i < 9223372036854775807 by omega)]
  · intro k
    simp -implicitDefEqProofs [l1_laws_heldIntS, hl]
theorem L_heldTermS (a : Poly) (k : Nat) (h1 : a.es.length ≤ 1000000) (hk : k + 4 * a.es.length < 4611686018427387904) : L (prog hand) n_laws_heldTermS [arg (cP (markP k a)), argI k] = some (resI ((k + 4 * a.es.length : Nat) : Int)) := by
  refine L_body (b := b_laws_heldTermS) rfl rfl a.es.length ?_
  intro fuel hfuel
  have hl : (markP k a).es.length = a.es.length := mTerms_length _ _
  have hg : ∀ (i : Nat) (h : i < (markP k a).es.length), (markP k a).es[i] = mTerm (k + 4 * i) := by
    intro i h
    have := mTerms_get (k := k) (n := a.es.length) (i := i) (by rw [← hl]; exact h)
    rw [← markP_es, List.getElem?_eq_getElem h] at this
    exact Option.some.inj this
  generalize markP k a = m at hl hg
  simp -implicitDefEqProofs [b_laws_heldTermS]
  rw [K_start (fr' := ⟨asl [(0, .sv (.c (cP m))), (1, .sv (.v (int ((k + 4 * 0 : Nat) : Int)))), (5, .sv (.v (int (0 : Nat))))], asl [], []⟩) (by simp)]
  refine K_for (fun i => ⟨asl [(0, .sv (.c (cP m))), (1, .sv (.v (int ((k + 4 * i : Nat) : Int)))), (5, .sv (.v (int i)))], asl [], []⟩) 0 m.es.length (by omega) (by omega) ?_ ?_
  · intro i _ hi K
    have hgi := hg i hi
    have hF : k + 4 * (i + 1) = (k + 4 * i) + 4 := by omega
    have hb : k + 4 * i < 4611686018427387904 := by omega
    simp only [hF]
    generalize k + 4 * i = b at hgi hb
    have hw1 := wrap64 (n := (b : Int) + 1) (by omega) (by omega)
    have hw2 : IntKind.i64.wrap ((b : Int) + 1 + 1) = (b : Int) + 2 := by rw [wrap64 (by omega) (by omega)]; omega
    have hw3 : IntKind.i64.wrap ((b : Int) + 2 + 1) = (b : Int) + 3 := by rw [wrap64 (by omega) (by omega)]; omega
    have hw4 : IntKind.i64.wrap ((b : Int) + 3 + 1) = (b : Int) + 4 := by rw [wrap64 (by omega) (by omega)]; omega
    simp -implicitDefEqProofs [l1_laws_heldTermS, hi, hgi, hw1, hw2, hw3, hw4, wrap_suc (show i < 9223372036854775807 by omega)]
  · intro k
    simp -implicitDefEqProofs [l1_laws_heldTermS, hl]
end Go.Proofs.YtecmolmlojehgaaGreat.T
namespace Go.Proofs.YtecmolmlojehgaaGreat.T
open Go
variable {hand : Call}
set_option maxHeartbeats 2000000
attribute [-simp] List.getElem_cons_drop List.map_drop
section
variable {α : Type} (m : Nat → α → α) (cnt : α → Nat)
/-- Marks one behind the other. -/
def markL : Nat → List α → List α
  | _, [] => []
  | k, x :: xs => m k x :: markL (k + cnt x) xs
def endL (k : Nat) (l : List α) : Nat := k + (l.map cnt).sum
theorem markL_length : ∀ (l : List α) (k : Nat), (markL m cnt k l).length = l.length
  | [], _ => rfl
  | x :: xs, k => by simp [markL, markL_length xs]
theorem markL_get : ∀ (l : List α) (k i : Nat) (h : i < l.length), (markL m cnt k l)[i]? = some (m (endL cnt k (l.take i)) l[i])
  | [], _, _, h => by simp at h
  | x :: xs, k, 0, _ => by simp [markL, endL]
  | x :: xs, k, i + 1, h => by
    have := markL_get xs (k + cnt x) i (by simpa using h)
    simp only [markL, List.getElem?_cons_succ, this, List.getElem_cons_succ, List.take_succ_cons]
    congr 2
    simp [endL]; omega
theorem endL_succ {l : List α} {k i : Nat} (h : i < l.length) : endL cnt k (l.take (i + 1)) = endL cnt k (l.take i) + cnt l[i] := by
  rw [List.take_succ_eq_append_getElem h]
  unfold endL
  rw [List.map_append, List.sum_append]
  simp only [List.map_cons, List.map_nil, List.sum_cons, List.sum_nil]; omega
theorem endL_le {l : List α} {k i : Nat} : endL cnt k (l.take i) ≤ endL cnt k l := by
  have e : endL cnt k l = endL cnt k (l.take i) + ((l.drop i).map cnt).sum := by
    conv => lhs; rw [← List.take_append_drop i l]
    simp only [endL, List.map_append, List.sum_append]; omega
  omega
end
def cntP (p : Poly) : Nat := 4 * p.es.length
def markS (k : Nat) (s : Sys) : Sys := ⟨markL markP cntP k s.es, s.sp, by have := s.ok; rw [markL_length]; exact this⟩
theorem markS_es (k : Nat) (s : Sys) : (markS k s).es = markL markP cntP k s.es := rfl
theorem markS_sp (k : Nat) (s : Sys) : (markS k s).sp = s.sp := rfl
abbrev wS (s : Sys) : C := .sl 1 (s.es.map eP ++ s.sp.map eP) []
theorem sub_markP (k : Nat) (p : Poly) : C.fl 4 (((markP k p).es.map eT ++ p.sp.map eT).take p.es.length) (((markP k p).es.map eT ++ p.sp.map eT).drop p.es.length) = cP (markP k p) := by
  rw [List.take_left' (by simp [markP_es, mTerms_length]), List.drop_left' (by simp [markP_es, mTerms_length])]
  rfl
theorem L_markTermSS (a : Sys) (k : Nat) (h1 : a.es.length ≤ 1000000) (hp : ∀ p ∈ a.es, p.es.length ≤ 1000000) (hk : endL cntP k a.es < 4611686018427387904) : L (prog hand) n_laws_markTermSS [own (wS a) a.es.length, argI k] = some (backI (endL cntP k a.es) (wS (markS k a))) := by
  refine L_body (b := b_laws_markTermSS) rfl rfl a.es.length ?_
  intro fuel hfuel
  obtain ⟨Y, hY⟩ : ∃ Y, Y = a.es.map eP ++ a.sp.map eP := ⟨_, rfl⟩
  obtain ⟨X, hX⟩ : ∃ X, X = (markS k a).es.map eP ++ (markS k a).sp.map eP := ⟨_, rfl⟩
  have hl : X.length = Y.length := by rw [hX, hY]; simp [markS_es, markS_sp, markL_length]
  have hn : a.es.length ≤ Y.length := by rw [hY]; simp
  have hXi : ∀ i (h : i < a.es.length), X[i]? = some (eP (markP (endL cntP k (a.es.take i)) a.es[i])) := by
    intro i hi
    rw [hX, List.getElem?_append_left (by simpa [markS_es, markL_length] using hi), List.getElem?_map, markS_es, markL_get markP cntP _ _ _ hi]
    rfl
  have hYi : ∀ (i : Nat) (h : i < a.es.length), Y[i]'(by omega) = eP a.es[i] := by
    intro i h
    subst hY
    rw [List.getElem_append_left (by simpa using h)]
    simp
  have hrest : mixRow X Y a.es.length = X := by
    unfold mixRow
    rw [hX, hY, List.take_left' (by simp [markS_es, markL_length]), List.drop_left' (by simp), markS_sp]
  have e1 : wS a = .sl 1 Y [] := by rw [hY]
  have e2 : wS (markS k a) = .sl 1 X [] := by rw [hX]
  rw [e1, e2]
  clear e1 e2 hX hY
  simp -implicitDefEqProofs [b_laws_markTermSS]
  rw [K_start (fr' := ⟨asl [(0, .sv (.ref 0 [] 0 a.es.length)), (1, .sv (.v (int ((endL cntP k (a.es.take 0) : Nat) : Int)))), (5, .sv (.v (int (0 : Nat))))], asl [(0, .arr true false (.sl 1 (mixRow X Y 0) []))], [0]⟩) (by simp [mix_zero, endL])]
  refine K_for (fun i => ⟨asl [(0, .sv (.ref 0 [] 0 a.es.length)), (1, .sv (.v (int ((endL cntP k (a.es.take i) : Nat) : Int)))), (5, .sv (.v (int i)))], asl [(0, .arr true false (.sl 1 (mixRow X Y i) []))], [0]⟩) 0 a.es.length (by omega) (by omega) ?_ ?_
  · intro i _ hi K
    have h2 : i < Y.length := by omega
    have hs := mix_set (Y := Y) hl (hXi i hi)
    have hb : endL cntP k (a.es.take i) + cntP a.es[i] < 4611686018427387904 := by
      rw [← endL_succ cntP hi]
      exact Nat.lt_of_le_of_lt (endL_le cntP) hk
    have hq := hp _ (List.getElem_mem hi)
    rw [endL_succ cntP hi]
    generalize endL cntP k (a.es.take i) = b at hs hb
    have hL := L_markTermS (hand := hand) a.es[i] b hq hb
    have hm : (markP b a.es[i]).es.length = a.es[i].es.length := mTerms_length _ _
    have hs : (mixRow X Y i).set i [C.fl 4 ((markP b a.es[i]).es.map eT) (a.es[i].sp.map eT)] = mixRow X Y (i + 1) := hs
    simp -implicitDefEqProofs [l1_laws_markTermSS, hi, hm, cntP, h2, hn, hYi i hi, mix_at hl, mix_length hl, hL, sub_markP, hs, markP_sp, wrap_suc (show i < 9223372036854775807 by omega)]
  · intro _
    simp -implicitDefEqProofs [l1_laws_markTermSS, hrest]
theorem L_heldTermSS (a : Sys) (k : Nat) (h1 : a.es.length ≤ 1000000) (hp : ∀ p ∈ a.es, p.es.length ≤ 1000000) (hk : endL cntP k a.es < 4611686018427387904) : L (prog hand) n_laws_heldTermSS [arg (cS (markS k a)), argI k] = some (resI ((endL cntP k a.es : Nat) : Int)) := by
  refine L_body (b := b_laws_heldTermSS) rfl rfl a.es.length ?_
  intro fuel hfuel
  have hl : (markS k a).es.length = a.es.length := markL_length _ _ _ _
  have hg : ∀ (i : Nat) (h : i < (markS k a).es.length), (markS k a).es[i] = markP (endL cntP k (a.es.take i)) (a.es[i]'(by rw [← hl]; exact h)) := by
    intro i h
    have := markL_get markP cntP a.es k i (by rw [← hl]; exact h)
    rw [← markS_es, List.getElem?_eq_getElem h] at this
    exact Option.some.inj this
  generalize markS k a = m at hl hg
  simp -implicitDefEqProofs [b_laws_heldTermSS]
  rw [K_start (fr' := ⟨asl [(0, .sv (.c (cS m))), (1, .sv (.v (int ((endL cntP k (a.es.take 0) : Nat) : Int)))), (5, .sv (.v (int (0 : Nat))))], asl [], []⟩) (by simp [endL])]
  refine K_for (fun i => ⟨asl [(0, .sv (.c (cS m))), (1, .sv (.v (int ((endL cntP k (a.es.take i) : Nat) : Int)))), (5, .sv (.v (int i)))], asl [], []⟩) 0 m.es.length (by omega) (by omega) ?_ ?_
  · intro i _ hi K
    have hi' : i < a.es.length := by omega
    have hgi := hg i hi
    have hb : endL cntP k (a.es.take i) + cntP a.es[i] < 4611686018427387904 := by
      rw [← endL_succ cntP hi']
      exact Nat.lt_of_le_of_lt (endL_le cntP) hk
    have hq := hp _ (List.getElem_mem hi')
    rw [endL_succ cntP hi']
    generalize endL cntP k (a.es.take i) = b at hgi hb
    have hL := L_heldTermS (hand := hand) a.es[i] b hq hb
    have hnn : ¬ ((b : Int) + 4 * (a.es[i].es.length : Int) < 0) := by omega
    simp -implicitDefEqProofs [l1_laws_heldTermSS, hi, hgi, hL, cntP, hnn, wrap_suc (show i < 9223372036854775807 by omega)]
  · intro _
    have ht : a.es.take m.es.length = a.es := List.take_of_length_le (by omega)
    simp -implicitDefEqProofs [l1_laws_heldTermSS, ht]
/-! ### Entries -/
def cntE (e : EntryV) : Nat := 1 + (e.system.es.map cntP).sum + 1 + e.box.low.es.length + e.box.high.es.length + 3
theorem mText_size (k : Nat) : (mText k).size ≤ 1 + k := by
  unfold mText
  rw [ByteArray.size_append]
  have h1 := digs_size k ⟨#[]⟩
  have h2 : bM.size = 1 := rfl
  have h3 : (⟨#[]⟩ : ByteArray).size = 0 := rfl
  omega
def mName (k : Nat) : ByteArray := if k < 4611686018427387904 then mText k else ⟨#[]⟩
theorem mName_size (k : Nat) : (mName k).size ≤ 9223372036854775807 := by
  unfold mName
  split
  · have := mText_size k; omega
  · exact Nat.zero_le _
def boxAt (k : Nat) (e : EntryV) : Nat := endL cntP (k + 1) e.system.es
def lastAt (k : Nat) (e : EntryV) : Nat := boxAt k e + 1 + e.box.low.es.length + e.box.high.es.length
def markE (k : Nat) (e : EntryV) : EntryV := ⟨mName k, mName_size k, markS (k + 1) e.system, ⟨boxAt k e, markI (boxAt k e + 1) e.box.low, markI (boxAt k e + 1 + e.box.low.es.length) e.box.high⟩, lastAt k e, (lastAt k e + 1 : Nat), (lastAt k e + 2 : Nat)⟩
theorem cntE_eq (k : Nat) (e : EntryV) : lastAt k e + 3 = k + cntE e := by
  simp only [lastAt, boxAt, cntE, endL]; omega
def markEs (k : Nat) (l : Entries) : Entries := ⟨markL markE cntE k l.es, l.sp, by have := l.ok; rw [markL_length]; exact this⟩
theorem markEs_es (k : Nat) (l : Entries) : (markEs k l).es = markL markE cntE k l.es := rfl
theorem markEs_sp (k : Nat) (l : Entries) : (markEs k l).sp = l.sp := rfl
abbrev wE (l : Entries) : C := .sl 8 (l.es.map eE ++ l.sp.map eE) []
theorem L_markEntryS (a : Entries) (k : Nat) (h0 : 0 < k) (h1 : a.es.length ≤ 1000000) (hp : ∀ e ∈ a.es, SmallE e) (hk : endL cntE k a.es < 4611686018427387904) : L (prog hand) n_laws_markEntryS [own (wE a) a.es.length, argI k] = some (backI (endL cntE k a.es) (wE (markEs k a))) := by
  refine L_body (b := b_laws_markEntryS) rfl rfl a.es.length ?_
  intro fuel hfuel
  obtain ⟨Y, hY⟩ : ∃ Y, Y = a.es.map eE ++ a.sp.map eE := ⟨_, rfl⟩
  obtain ⟨X, hX⟩ : ∃ X, X = (markEs k a).es.map eE ++ (markEs k a).sp.map eE := ⟨_, rfl⟩
  have hl : X.length = Y.length := by rw [hX, hY]; simp [markEs_es, markEs_sp, markL_length]
  have hn : a.es.length ≤ Y.length := by rw [hY]; simp
  have hXi : ∀ i (h : i < a.es.length), X[i]? = some (eE (markE (endL cntE k (a.es.take i)) a.es[i])) := by
    intro i hi
    rw [hX, List.getElem?_append_left (by simpa [markEs_es, markL_length] using hi), List.getElem?_map, markEs_es, markL_get markE cntE _ _ _ hi]
    rfl
  have hYi : ∀ (i : Nat) (h : i < a.es.length), Y[i]'(by omega) = eE a.es[i] := by
    intro i h
    subst hY
    rw [List.getElem_append_left (by simpa using h)]
    simp
  have hrest : mixRow X Y a.es.length = X := by
    unfold mixRow
    rw [hX, hY, List.take_left' (by simp [markEs_es, markL_length]), List.drop_left' (by simp), markEs_sp]
  have e1 : wE a = .sl 8 Y [] := by rw [hY]
  have e2 : wE (markEs k a) = .sl 8 X [] := by rw [hX]
  rw [e1, e2]
  clear e1 e2 hX hY
  simp -implicitDefEqProofs [b_laws_markEntryS]
  rw [K_start (fr' := ⟨asl [(0, .sv (.ref 0 [] 0 a.es.length)), (1, .sv (.v (int ((endL cntE k (a.es.take 0) : Nat) : Int)))), (5, .sv (.v (int (0 : Nat))))], asl [(0, .arr true false (.sl 8 (mixRow X Y 0) []))], [0]⟩) (by simp [mix_zero, endL])]
  refine K_for (fun i => ⟨asl [(0, .sv (.ref 0 [] 0 a.es.length)), (1, .sv (.v (int ((endL cntE k (a.es.take i) : Nat) : Int)))), (5, .sv (.v (int i)))], asl [(0, .arr true false (.sl 8 (mixRow X Y i) []))], [0]⟩) 0 a.es.length (by omega) (by omega) ?_ ?_
  · intro i _ hi K
    have h2 : i < Y.length := by omega
    have hs := mix_set (Y := Y) hl (hXi i hi)
    have hb : endL cntE k (a.es.take i) + cntE a.es[i] < 4611686018427387904 := by
      rw [← endL_succ cntE hi]
      exact Nat.lt_of_le_of_lt (endL_le cntE) hk
    have hb0 : 0 < endL cntE k (a.es.take i) := by unfold endL; omega
    obtain ⟨⟨q1, q2⟩, q3, q4⟩ := hp _ (List.getElem_mem hi)
    rw [endL_succ cntE hi]
    generalize endL cntE k (a.es.take i) = b at hs hb hb0
    have hYe := hYi i hi
    generalize a.es[i] = e at hs hb hYe q1 q2 q3 q4
    have hc := cntE_eq b e
    have hmn : mName b = mText b := by unfold mName; rw [if_pos (by omega)]
    have hx : lastAt b e = boxAt b e + 1 + e.box.low.es.length + e.box.high.es.length := rfl
    have hT := L_markText (hand := hand) b hb0 (by omega)
    have hS := L_markTermSS (hand := hand) e.system (b + 1) q1 q2 (show boxAt b e < _ by omega)
    have hI1 := L_markIntS (hand := hand) e.box.low (boxAt b e + 1) q3 (by omega)
    have hI2 := L_markIntS (hand := hand) e.box.high (boxAt b e + 1 + e.box.low.es.length) q4 (by omega)
    have hS : L (prog hand) n_laws_markTermSS [own (wS e.system) e.system.es.length, argI ((b : Int) + 1)] = some (backI (boxAt b e) (wS (markS (b + 1) e.system))) := hS
    have hI1 : L (prog hand) n_laws_markIntS [own (wI e.box.low) e.box.low.es.length, argI ((boxAt b e : Int) + 1)] = some (backI (boxAt b e + 1 + e.box.low.es.length) (wI (markI (boxAt b e + 1) e.box.low))) := hI1
    have hI2 : L (prog hand) n_laws_markIntS [own (wI e.box.high) e.box.high.es.length, argI ((boxAt b e : Int) + 1 + (e.box.low.es.length : Int))] = some (backI (lastAt b e) (wI (markI (boxAt b e + 1 + e.box.low.es.length) e.box.high))) := hI2
    have hs : (mixRow X Y i).set i [.val (.string (mText b)), .sl 1 ((markS (b + 1) e.system).es.map eP) (e.system.sp.map eP), .val (int (boxAt b e : Nat)), .fl 1 ((markI (boxAt b e + 1) e.box.low).es.map eI) (e.box.low.sp.map eI), .fl 1 ((markI (boxAt b e + 1 + e.box.low.es.length) e.box.high).es.map eI) (e.box.high.sp.map eI), .val (int (lastAt b e : Nat)), .val (int ((lastAt b e : Int) + 1)), .val (int ((lastAt b e : Int) + 2))] = mixRow X Y (i + 1) := by rw [← hmn]; exact hs
    have m1 : (markS (b + 1) e.system).es.length = e.system.es.length := markL_length _ _ _ _
    have m2 : (markI (boxAt b e + 1) e.box.low).es.length = e.box.low.es.length := mInts_length _ _
    have m3 : (markI (boxAt b e + 1 + e.box.low.es.length) e.box.high).es.length = e.box.high.es.length := mInts_length _ _
    have w1 := wrap64 (n := (b : Int) + 1) (by omega) (by omega)
    have w2 := wrap64 (n := (boxAt b e : Int) + 1) (by omega) (by omega)
    have w3 := wrap64 (n := (lastAt b e : Int) + 1) (by omega) (by omega)
    have w4 : IntKind.i64.wrap ((lastAt b e : Int) + 1 + 1) = (lastAt b e : Int) + 2 := by rw [wrap64 (by omega) (by omega)]; omega
    have w5 : IntKind.i64.wrap ((lastAt b e : Int) + 2 + 1) = (lastAt b e : Int) + 3 := by rw [wrap64 (by omega) (by omega)]; omega
    have ha : (b : Int) + (cntE e : Int) = (lastAt b e : Int) + 3 := by omega
    simp -implicitDefEqProofs [l1_laws_markEntryS, hi, h2, hn, hYe, mix_at hl, mix_length hl, hT, hS, hI1, hI2, hs, m1, m2, m3, markS_sp, markI_sp, w1, w2, w3, w4, w5, ha, wrap_suc (show i < 9223372036854775807 by omega)]
  · intro _
    simp -implicitDefEqProofs [l1_laws_markEntryS, hrest]
theorem L_heldEntryS (a : Entries) (k : Nat) (h0 : 0 < k) (h1 : a.es.length ≤ 1000000) (hp : ∀ e ∈ a.es, SmallE e) (hk : endL cntE k a.es < 4611686018427387904) : L (prog hand) n_laws_heldEntryS [arg (cE (markEs k a)), argI k] = some (resI ((endL cntE k a.es : Nat) : Int)) := by
  refine L_body (b := b_laws_heldEntryS) rfl rfl a.es.length ?_
  intro fuel hfuel
  have hl : (markEs k a).es.length = a.es.length := markL_length _ _ _ _
  have hg : ∀ (i : Nat) (h : i < (markEs k a).es.length), (markEs k a).es[i] = markE (endL cntE k (a.es.take i)) (a.es[i]'(by rw [← hl]; exact h)) := by
    intro i h
    have := markL_get markE cntE a.es k i (by rw [← hl]; exact h)
    rw [← markEs_es, List.getElem?_eq_getElem h] at this
    exact Option.some.inj this
  generalize markEs k a = m at hl hg
  simp -implicitDefEqProofs [b_laws_heldEntryS]
  rw [K_start (fr' := ⟨asl [(0, .sv (.c (cE m))), (1, .sv (.v (int ((endL cntE k (a.es.take 0) : Nat) : Int)))), (5, .sv (.v (int (0 : Nat))))], asl [], []⟩) (by simp [endL])]
  refine K_for (fun i => ⟨asl [(0, .sv (.c (cE m))), (1, .sv (.v (int ((endL cntE k (a.es.take i) : Nat) : Int)))), (5, .sv (.v (int i)))], asl [], []⟩) 0 m.es.length (by omega) (by omega) ?_ ?_
  · intro i _ hi K
    have hi' : i < a.es.length := by omega
    have hgi := hg i hi
    have hb : endL cntE k (a.es.take i) + cntE a.es[i] < 4611686018427387904 := by
      rw [← endL_succ cntE hi']
      exact Nat.lt_of_le_of_lt (endL_le cntE) hk
    have hb0 : 0 < endL cntE k (a.es.take i) := by unfold endL; omega
    obtain ⟨⟨q1, q2⟩, q3, q4⟩ := hp _ (List.getElem_mem hi')
    rw [endL_succ cntE hi']
    generalize endL cntE k (a.es.take i) = b at hgi hb hb0
    generalize a.es[i] = e at hgi hb q1 q2 q3 q4
    have hc := cntE_eq b e
    have hmn : mName b = mText b := by unfold mName; rw [if_pos (by omega)]
    have hx : lastAt b e = boxAt b e + 1 + e.box.low.es.length + e.box.high.es.length := rfl
    have hT := L_markText (hand := hand) b hb0 (by omega)
    have hS := L_heldTermSS (hand := hand) e.system (b + 1) q1 q2 (show boxAt b e < _ by omega)
    have hI1 := L_heldIntS (hand := hand) e.box.low (boxAt b e + 1) q3 (by omega)
    have hI2 := L_heldIntS (hand := hand) e.box.high (boxAt b e + 1 + e.box.low.es.length) q4 (by omega)
    have hS : L (prog hand) n_laws_heldTermSS [arg (cS (markS (b + 1) e.system)), argI ((b : Int) + 1)] = some (resI ((boxAt b e : Nat) : Int)) := hS
    have hI1 : L (prog hand) n_laws_heldIntS [arg (cI (markI (boxAt b e + 1) e.box.low)), argI ((boxAt b e : Int) + 1)] = some (resI ((boxAt b e : Int) + 1 + (e.box.low.es.length : Int))) := hI1
    have hI2 : L (prog hand) n_laws_heldIntS [arg (cI (markI (boxAt b e + 1 + e.box.low.es.length) e.box.high)), argI ((boxAt b e : Int) + 1 + (e.box.low.es.length : Int))] = some (resI ((lastAt b e : Nat) : Int)) := hI2
    have g0 : m.es[i].name = mText b := by rw [hgi]; exact hmn
    have g1 : m.es[i].system = markS (b + 1) e.system := by rw [hgi]; rfl
    have g2 : m.es[i].box = ⟨boxAt b e, markI (boxAt b e + 1) e.box.low, markI (boxAt b e + 1 + e.box.low.es.length) e.box.high⟩ := by rw [hgi]; rfl
    have g3 : m.es[i].least = (lastAt b e : Int) := by rw [hgi]; rfl
    have g4 : m.es[i].most = (lastAt b e : Int) + 1 := by rw [hgi]; rfl
    have g5 : m.es[i].version = (lastAt b e : Int) + 2 := by rw [hgi]; rfl
    clear hgi
    have w1 := wrap64 (n := (b : Int) + 1) (by omega) (by omega)
    have w2 := wrap64 (n := (boxAt b e : Int) + 1) (by omega) (by omega)
    have w3 := wrap64 (n := (lastAt b e : Int) + 1) (by omega) (by omega)
    have w4 : IntKind.i64.wrap ((lastAt b e : Int) + 1 + 1) = (lastAt b e : Int) + 2 := by rw [wrap64 (by omega) (by omega)]; omega
    have w5 : IntKind.i64.wrap ((lastAt b e : Int) + 2 + 1) = (lastAt b e : Int) + 3 := by rw [wrap64 (by omega) (by omega)]; omega
    have ha : (b : Int) + (cntE e : Int) = (lastAt b e : Int) + 3 := by omega
    have n1 : ¬ ((boxAt b e : Int) < 0) := by omega
    have n2 : ¬ ((boxAt b e : Int) + 1 + (e.box.low.es.length : Int) < 0) := by omega
    have n3 : ¬ ((lastAt b e : Int) < 0) := by omega
    simp -implicitDefEqProofs [l1_laws_heldEntryS, hi, hT, hS, hI1, hI2, g0, g1, g2, g3, g4, g5, w1, w2, w3, w4, w5, ha, n1, n2, n3, wrap_suc (show i < 9223372036854775807 by omega)]
  · intro _
    have ht : a.es.take m.es.length = a.es := List.take_of_length_le (by omega)
    simp -implicitDefEqProofs [l1_laws_heldEntryS, ht]
end Go.Proofs.YtecmolmlojehgaaGreat.T
namespace Go.Proofs.YtecmolmlojehgaaGreat.T
open Go
set_option maxHeartbeats 4000000
attribute [-simp] List.getElem_cons_drop List.map_drop List.map_take
def setRow {α : Type} (l : Row α) (k : Nat) (e : α) : Row α := ⟨l.es.set k e, l.sp, by have := l.ok; simpa using this⟩
def preRow {α : Type} (l : Row α) (k : Nat) : Row α := ⟨l.es.take k, l.es.drop k ++ l.sp, by have := l.ok; simp; omega⟩
def postRow {α : Type} (l : Row α) (k : Nat) : Row α := ⟨l.es.drop k, l.sp, by have := l.ok; simp; omega⟩
theorem L_caPut (l : Entries) (e : EntryV) (k : Nat) (hl : l.es.length ≤ 1000000) (hp : ∀ x ∈ l.es, SmallE x) (he : SmallE e) (hk : placeGo e.name l.es = k) (hat : atB l.es k e.name = true) : L0 n_spec_caPut [arg (cE l), argE e] = some ⟨[.s (.mk .deep (cE (bareL (setRow l k e))))], []⟩ := by
  have hlt : k < l.es.length := by
    apply Nat.lt_of_not_le
    intro h
    simp [atB, List.getElem?_eq_none h] at hat
  refine L_body (b := b_spec_caPut) rfl rfl 0 ?_
  intro fuel _
  have hP := L_caPlace l e.name
  rw [hk] at hP
  have hA := L_caAt l k e.name
  rw [hat] at hA
  have hO := L_caOwn e he
  have hkl : k ≤ l.es.length := Nat.le_of_lt hlt
  have e1 : C.sl 8 (List.take k (List.map eE l.es ++ List.map eE l.sp)) (List.drop k (List.map eE l.es ++ List.map eE l.sp)) = cE (preRow l k) := by
    rw [List.take_append_of_le_length (by simpa using hkl), List.drop_append_of_le_length (by simpa using hkl)]
    simp [preRow, List.map_take, List.map_drop]
  have e2 : C.sl 8 (List.take (l.es.length - (k + 1)) (List.drop (k + 1) (List.map eE l.es ++ List.map eE l.sp))) (List.drop (k + 1 + (l.es.length - (k + 1))) (List.map eE l.es ++ List.map eE l.sp)) = cE (postRow l (k + 1)) := by
    rw [List.drop_append_of_le_length (by simp; omega), List.take_left' (by simp), show k + 1 + (l.es.length - (k + 1)) = l.es.length by omega, List.drop_left' (by simp)]
    simp [postRow, List.map_drop]
  have h1 := L_spec_caOwnAll (preRow l k) (by simp [preRow]; omega) (fun x hx => hp x (List.mem_of_mem_take hx))
  have h2 := L_spec_caOwnAll (postRow l (k + 1)) (by simp [postRow]; omega) (fun x hx => hp x (List.mem_of_mem_drop hx))
  have hws := wrap_suc (show k < 9223372036854775807 by omega)
  obtain ⟨P, hPd⟩ : ∃ P, P = (bareL (preRow l k)).es.map eE := ⟨_, rfl⟩
  obtain ⟨Q, hQd⟩ : ∃ Q, Q = (bareL (postRow l (k + 1))).es.map eE := ⟨_, rfl⟩
  have hPl : P.length = k := by rw [hPd]; simp [bareL, preRow]; omega
  have hQl : Q.length = l.es.length - (k + 1) := by rw [hQd]; simp [bareL, postRow]
  have h1' : L0 n_spec_caOwnAll [arg (C.sl 8 (List.take k (List.map eE l.es ++ List.map eE l.sp)) (List.drop k (List.map eE l.es ++ List.map eE l.sp)))] = some ⟨[.s (.mk .deep (.sl 8 P []))], []⟩ := by
    rw [e1, h1, hPd]; rfl
  have h2' : L0 n_spec_caOwnAll [arg (C.sl 8 (List.take (l.es.length - (k + 1)) (List.drop (k + 1) (List.map eE l.es ++ List.map eE l.sp))) (List.drop (k + 1 + (l.es.length - (k + 1))) (List.map eE l.es ++ List.map eE l.sp)))] = some ⟨[.s (.mk .deep (.sl 8 Q []))], []⟩ := by
    rw [e2, h2, hQd]; rfl
  have hres : cE (bareL (setRow l k e)) = .sl 8 (P ++ [eE (bareE e)] ++ Q) [] := by
    rw [hPd, hQd]
    simp only [cE, bareL, setRow, preRow, postRow, List.map_nil]
    rw [List.set_eq_take_append_cons_drop, if_pos hlt]
    simp [List.map_take, List.map_drop]
  rw [hres]
  clear hres hPd hQd h1 h2 e1 e2
  have hb : (k : Int) ≤ (l.es.length : Int) + (l.sp.length : Int) := by omega
  have hb2 : (k : Int) + 1 ≤ (l.es.length : Int) := by omega
  have hb3 : (l.es.length : Int) ≤ (l.es.length : Int) + (l.sp.length : Int) := by omega
  have hb4 : (0 : Int) ≤ (k : Int) + 1 := by omega
  have hm1 : (k + 1) * 120 ≤ 140737488355328 := by omega
  have hm2 : k + 1 ≤ 9223372036854775807 := by omega
  have hm3 : (k + 1 + (l.es.length - (k + 1))) * 120 ≤ 140737488355328 := by omega
  have hm4 : k + 1 + (l.es.length - (k + 1)) ≤ 9223372036854775807 := by omega
  have hT1 : P.take k = P := List.take_of_length_le (by omega)
  have hT2 : Q.take (l.es.length - (k + 1)) = Q := List.take_of_length_le (by omega)
  have hcast : ((k : Int) + 1).toNat = k + 1 := by omega
  simp -implicitDefEqProofs [b_spec_caPut, hP, hA, hO, h1', h2', hPl, hQl, hws, hlt, hkl, hb, hb2, hb3, hb4, hm1, hm2, hm3, hm4, hT1, hT2, hcast]
  have hx : ∀ x : List C, (P ++ [x]).take (k + 1) = P ++ [x] := fun x => List.take_of_length_le (by simp [hPl])
  rw [hx, List.take_of_length_le (by simp [hPl, hQl]; omega)]
  simp
abbrev resL (ok : Bool) (l : Entries) : Res := ⟨[.s (.mk .deep (if ok then cE l else .sl 8 [] [])), .s (.mk .imm (.val (.bool ok)))], []⟩
theorem lessN_congr {a b : ByteArray} (h : a.toList = b.toList) (c : ByteArray) : lessN c a = lessN c b := by unfold lessN; rw [h]
theorem placeGo_congr {a b : ByteArray} (h : a.toList = b.toList) : ∀ l, placeGo a l = placeGo b l
  | [] => rfl
  | e :: r => by simp only [placeGo, lessN_congr h, placeGo_congr h r]
theorem L_catalogueResult (r : Entries) (hsp : r.sp = []) : L0 n_impl_catalogueResult [own (.sl 8 (r.es.map eE) []) r.es.length] = some (if catOk (qL r) then ⟨[.s (.mk .deep (cE r)), .s (.mk .imm (.val (.bool true)))], [none]⟩ else ⟨[.s (.mk .deep (.sl 8 [] [])), .s (.mk .imm (.val (.bool false)))], [some (.arr true false (.sl 8 (r.es.map eE) []))]⟩) := by
  refine L_body (b := b_impl_catalogueResult) rfl rfl 0 ?_
  intro fuel _
  have hC := L_isCatalogue (hand := handF) r
  have hT : (r.es.map eE).take r.es.length = r.es.map eE := List.take_of_length_le (by simp)
  have hD : (r.es.map eE).drop r.es.length = [] := List.drop_eq_nil_of_le (by simp)
  have hC : L0 n_impl_isCatalogue [arg (.sl 8 (r.es.map eE) [])] = some (resB (catOk (qL r))) := by
    have e : cE r = .sl 8 (r.es.map eE) [] := by unfold cE; rw [hsp]; rfl
    rw [← e]; exact hC
  cases c : catOk (qL r)
  · rw [c] at hC
    simp -implicitDefEqProofs [b_impl_catalogueResult, hC, hT, hD]
  · rw [c] at hC
    simp -implicitDefEqProofs [b_impl_catalogueResult, hC, hT, hD, hsp]
end Go.Proofs.YtecmolmlojehgaaGreat.T
namespace Go.Proofs.YtecmolmlojehgaaGreat.T
open Go
set_option maxHeartbeats 2000000
attribute [-simp] List.getElem_cons_drop List.map_drop List.map_take
theorem bytesLess_trans : ∀ {a b c : List UInt8}, Op.bytesLess a b = true → Op.bytesLess b c = true → Op.bytesLess a c = true
  | _, _, [], _, h => by cases ‹List UInt8› <;> simp [Op.bytesLess] at h
  | [], b, z :: c, _, _ => by simp [Op.bytesLess]
  | x :: a, [], z :: c, h, _ => by simp [Op.bytesLess] at h
  | x :: a, y :: b, z :: c, h1, h2 => by
    simp only [Op.bytesLess, Bool.or_eq_true, decide_eq_true_eq, Bool.and_eq_true, beq_iff_eq] at h1 h2 ⊢
    rcases h1 with h1 | ⟨rfl, h1⟩
    · rcases h2 with h2 | ⟨rfl, h2⟩
      · exact Or.inl (UInt8.lt_trans h1 h2)
      · exact Or.inl h1
    · rcases h2 with h2 | ⟨rfl, h2⟩
      · exact Or.inl h2
      · exact Or.inr ⟨rfl, bytesLess_trans h1 h2⟩
theorem lessN_trans {a b c : ByteArray} (h1 : lessN a b = true) (h2 : lessN b c = true) : lessN a c = true := bytesLess_trans h1 h2
theorem catGo_sorted : ∀ {l : List QEntry} {prev : Option ByteArray}, catGo prev l = true → (∀ p, prev = some p → ∀ e ∈ l, lessN p e.name = true) ∧ l.Pairwise (fun a b => lessN a.name b.name = true)
  | [], prev, _ => ⟨fun _ _ e he => by simp at he, List.Pairwise.nil⟩
  | e :: r, none, h => by
    simp only [catGo, Bool.and_eq_true] at h
    obtain ⟨h1, h2⟩ := catGo_sorted h.2
    exact ⟨fun p hp => (by cases hp), List.Pairwise.cons (fun x hx => h1 _ rfl x hx) h2⟩
  | e :: r, some p, h => by
    simp only [catGo, Bool.and_eq_true] at h
    obtain ⟨_, h3, h4⟩ := h
    obtain ⟨h1, h2⟩ := catGo_sorted h4
    refine ⟨fun p' hp x hx => ?_, List.Pairwise.cons (fun x hx => h1 _ rfl x hx) h2⟩
    injection hp with hp
    subst hp
    simp only [List.mem_cons] at hx
    rcases hx with rfl | hx
    · exact h3
    · exact lessN_trans h3 (h1 _ rfl x hx)
theorem place_iff (n : ByteArray) : ∀ {l : List EntryV}, l.Pairwise (fun a b => lessN a.name b.name = true) → ∀ (i : Nat) (h : i < l.length), lessN l[i].name n = true ↔ i < placeGo n l
  | [], _, i, h => by simp at h
  | e :: r, hp, i, h => by
    obtain ⟨h1, h2⟩ := List.pairwise_cons.1 hp
    by_cases c : lessN e.name n = true
    · have hpl : placeGo n (e :: r) = placeGo n r + 1 := by rw [placeGo, if_pos c]
      rw [hpl]
      cases i with
      | zero => simp [c]
      | succ i =>
        have := place_iff n h2 i (by simpa using h)
        simp only [List.getElem_cons_succ, this]
        omega
    · have hpl : placeGo n (e :: r) = 0 := by rw [placeGo, if_neg c]
      rw [hpl]
      refine ⟨fun hx => ?_, fun hx => absurd hx (Nat.not_lt_zero _)⟩
      exfalso
      have hm := List.getElem_mem h
      simp only [List.mem_cons] at hm
      rcases hm with hm | hm
      · rw [hm] at hx; exact c hx
      · exact c (lessN_trans (h1 _ hm) hx)
theorem place_mono (n : ByteArray) {l : List EntryV} (hp : l.Pairwise (fun a b => lessN a.name b.name = true)) (i : Nat) (h : i < l.length) : lessN l[i].name n = decide (i < placeGo n l) := by
  rw [Bool.eq_iff_iff, decide_eq_true_iff]
  exact place_iff n hp i h
theorem mono_of {l : Entries} (h : catOk (qL l) = true) (n : ByteArray) : Mono l.es n := by
  simp only [catOk, Bool.and_eq_true] at h
  have := (catGo_sorted h.1).2
  unfold qL at this
  rw [List.pairwise_map] at this
  exact place_mono n this
theorem catGo_set : ∀ {l : List QEntry} {prev : Option ByteArray} {k : Nat} {a b : QEntry}, catGo prev l = true → l[k]? = some a → b.name = a.name → catGo prev (l.set k b) = entryOk b
  | [], _, k, a, b, _, h, _ => by simp at h
  | e :: r, none, 0, a, b, hc, h, hn => by
    simp only [List.getElem?_cons_zero, Option.some.injEq] at h
    subst h
    simp only [catGo, Bool.and_eq_true] at hc
    simp only [List.set_cons_zero, catGo, hn, hc.2, Bool.and_true]
  | e :: r, some p, 0, a, b, hc, h, hn => by
    simp only [List.getElem?_cons_zero, Option.some.injEq] at h
    subst h
    simp only [catGo, Bool.and_eq_true] at hc
    simp only [List.set_cons_zero, catGo, hn, hc.2.1, hc.2.2, Bool.and_true]
  | e :: r, none, k + 1, a, b, hc, h, hn => by
    simp only [catGo, Bool.and_eq_true] at hc
    simp only [List.set_cons_succ, catGo, hc.1, Bool.true_and]
    exact catGo_set hc.2 (by simpa using h) hn
  | e :: r, some p, k + 1, a, b, hc, h, hn => by
    simp only [catGo, Bool.and_eq_true] at hc
    simp only [List.set_cons_succ, catGo, hc.1, hc.2.1, Bool.true_and]
    exact catGo_set hc.2.2 (by simpa using h) hn
theorem qE_bare (e : EntryV) : qE (bareE e) = qE e := by
  have h1 : pS (bareS e.system) = pS e.system := by simp [pS, bareS, bareRow, Function.comp_def]
  simp only [qE, bareE, h1]
  rfl
theorem qL_bareL (l : Entries) : qL (bareL l) = qL l := by
  simp only [qL, bareL, List.map_map, Function.comp_def, qE_bare]
theorem qL_set (l : Entries) (k : Nat) (e : EntryV) : qL (setRow l k e) = (qL l).set k (qE e) := by
  simp only [qL, setRow, List.map_set]
/-! ### What can be read of entries decides -/
theorem placeGo_q (n : ByteArray) : ∀ {a b : List EntryV}, a.map qE = b.map qE → placeGo n a = placeGo n b
  | [], [], _ => rfl
  | [], _ :: _, h => by simp at h
  | _ :: _, [], h => by simp at h
  | x :: a, y :: b, h => by
    simp only [List.map_cons, List.cons.injEq] at h
    have hn : x.name = y.name := congrArg QEntry.name h.1
    simp only [placeGo, hn, placeGo_q n h.2]
theorem get_q {a b : List EntryV} (h : a.map qE = b.map qE) (k : Nat) : (a[k]?).map qE = (b[k]?).map qE := by
  rw [← List.getElem?_map, ← List.getElem?_map, h]
theorem atB_q {a b : List EntryV} (h : a.map qE = b.map qE) (k : Nat) (n : ByteArray) : atB a k n = atB b k n := by
  have := get_q h k
  unfold atB
  cases ha : a[k]? with
  | none =>
    rw [ha] at this
    cases hb : b[k]? with
    | none => rfl
    | some y => rw [hb] at this; cases this
  | some x =>
    rw [ha] at this
    cases hb : b[k]? with
    | none => rw [hb] at this; cases this
    | some y =>
      rw [hb] at this
      simp only [Option.map_some, Option.some.injEq] at this
      have hn : x.name = y.name := congrArg QEntry.name this
      simp only [hn]
def pQ (q : QEntry) : PEntry := ⟨q.name.toList, q.system, q.box, q.least, q.most, q.version⟩
theorem pE_q (e : EntryV) : pE e = pQ (qE e) := rfl
theorem pL_q (l : Entries) : l.es.map pE = (qL l).map pQ := by simp [qL, Function.comp_def, pE_q]
theorem qE_to (e : EntryV) (b : Bool) (h : SmallE e) : qE (toEntryV e b) = qE e := by
  obtain ⟨⟨h1, h2⟩, h3, h4⟩ := h
  have e1 : pS (toSys e.system b) = pS e.system := by
    unfold pS
    rw [toSys_es _ _ h1, List.map_map]
    apply List.map_congr_left
    intro p hp
    exact toPoly_es p b (h2 p hp)
  have e2 : pB (toBoxV e.box b) = pB e.box := by
    simp only [pB, toBoxV, toInts_es _ _ h3, toInts_es _ _ h4]
  simp only [qE, toEntryV, e1, e2]
theorem toEntries_es (a : Entries) (b : Bool) (h : a.es.length ≤ 1000000) : (toEntries a b).es = a.es.map (fun e => toEntryV e b) := by
  by_cases hb : b = true ∧ a.es.length = 0
  · obtain ⟨rfl, h0⟩ := hb
    rw [(copyRow_bare h0).1]; symm; simpa using h0
  · rw [(copyRow_full hb h).1]
theorem qL_to (a : Entries) (b : Bool) (h : a.es.length ≤ 1000000) (hp : ∀ e ∈ a.es, SmallE e) : qL (toEntries a b) = qL a := by
  unfold qL
  rw [toEntries_es a b h, List.map_map]
  apply List.map_congr_left
  intro e he
  exact qE_to e b (hp e he)
end Go.Proofs.YtecmolmlojehgaaGreat.T
