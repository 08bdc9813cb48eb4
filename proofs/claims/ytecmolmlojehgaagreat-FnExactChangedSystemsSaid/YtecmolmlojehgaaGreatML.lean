/- What is valid: the program's entries and catalogues. Loops by what changes in them. Equality, as the laws ask for it. What is left as it was. Marks that are written, and found again. Marks in rows of rows. How much the arguments hold. -/
import Derived.Test.YtecmolmlojehgaaGreatMK
namespace Go.Proofs.YtecmolmlojehgaaGreat.T
open Go
variable {hand : Call}
set_option maxHeartbeats 2000000
attribute [-simp] List.getElem_cons_drop List.map_drop
theorem L_systemOver (e : EntryV) : L (prog hand) n_impl_systemOver [arg (cS e.system), argPE e 2] = some (resB (bothOk (pS e.system) (pB e.box))) := by
  refine L_body (b := b_impl_systemOver) rfl rfl 0 ?_
  intro fuel _
  have e1 : (pS e.system).length = e.system.es.length := by simp [pS]
  have e2 : (pB e.box).low.length = e.box.low.es.length := rfl
  rw [bothOk, e1, e2]
  cases h1 : sysOk (pS e.system)
  · simp -implicitDefEqProofs [b_impl_systemOver, L_isSystem, h1]
  cases h2 : boxOk (pB e.box)
  · simp -implicitDefEqProofs [b_impl_systemOver, L_isSystem, L_isBox, h1, h2]
  simp -implicitDefEqProofs [b_impl_systemOver, L_isSystem, L_isBox, h1, h2]
  by_cases h3 : e.system.es.length = e.box.low.es.length <;> simp [h3]
theorem L_isEntry (e : EntryV) : L (prog hand) n_impl_isEntry [argPE e 0] = some (resB (entryOk (qE e))) := by
  have hs := e.nok
  refine L_body (b := b_impl_isEntry) rfl rfl e.name.size ?_
  intro fuel hfuel
  have e0 : entryOk (qE e) = (allUp (byteOk e.name) 0 (e.name.size - 0) && (inR e.name.size 1 8 && (bothOk (pS e.system) (pB e.box) && (inR e.most 0 64 && (inR e.least 0 e.most && inR e.version 1 999))))) := by
    rw [entryOk, nameOk, Bool.and_assoc]; rfl
  rw [e0]
  simp -implicitDefEqProofs [b_impl_isEntry]
  refine (K_loop (fun (i : Nat) => ⟨asl [(0, .sv (.pm (eE e) 0)), (8, .sv (.v (int e.name.size))), (9, .sv (.v (int i)))], asl [], []⟩) (fun i => some (resB (allUp (byteOk e.name) i (e.name.size - i) && (inR e.name.size 1 8 && (bothOk (pS e.system) (pB e.box) && (inR e.most 0 64 && (inR e.least 0 e.most && inR e.version 1 999))))))) (fun i => e.name.size - i) (fun i => i ≤ e.name.size) ?_ 0 (by simp) (by omega)).trans (by simp)
  intro i hi k hk
  by_cases hlt : i < e.name.size
  · rw [allUp_step hlt]
    have hb : e.name[i]? = some e.name[i] := by simp [hlt]
    have hbo : byteOk e.name i = (decide (97 ≤ e.name[i].toNat) && decide (e.name[i].toNat ≤ 122)) := by unfold byteOk; rw [hb]
    rw [hbo]
    by_cases h1 : 97 ≤ e.name[i].toNat
    · have h1' : ¬ ((e.name[i].toNat : Int) < 97) := by omega
      have h1z : (97 : Int) ≤ e.name[i].toNat := by omega
      by_cases h2 : e.name[i].toNat ≤ 122
      · have h2' : ¬ ((122 : Int) < e.name[i].toNat) := by omega
        have h2z : (e.name[i].toNat : Int) ≤ 122 := by omega
        have hgo := hk (i + 1) (by omega) (by omega)
        rw [decide_eq_true h1, decide_eq_true h2]
        simp only [Bool.true_and]
        rw [← hgo]
        simp -implicitDefEqProofs [l1_impl_isEntry, hlt, h1, h1', h1z, h2, h2', h2z, wrap_suc (show i < 9223372036854775807 by omega)]
      · have h2' : ((122 : Int) < e.name[i].toNat) := by omega
        rw [decide_eq_false h2]
        simp only [Bool.and_false, Bool.false_and]
        simp -implicitDefEqProofs [l1_impl_isEntry, hlt, h1, h1', h1z, h2, h2']
    · have h1' : ((e.name[i].toNat : Int) < 97) := by omega
      rw [decide_eq_false h1]
      simp only [Bool.false_and]
      simp -implicitDefEqProofs [l1_impl_isEntry, hlt, h1, h1']
  · rw [allUp_end hlt, Bool.true_and]
    cases c1 : inR e.name.size 1 8
    · simp -implicitDefEqProofs [l1_impl_isEntry, hlt, L_inside, c1]
    cases c2 : bothOk (pS e.system) (pB e.box)
    · simp -implicitDefEqProofs [l1_impl_isEntry, hlt, L_inside, L_systemOver, c1, c2]
    cases c3 : inR e.least 0 e.most
    · simp -implicitDefEqProofs [l1_impl_isEntry, hlt, L_inside, L_systemOver, c1, c2, c3]
    have hl := inR_true c3
    by_cases c4 : e.most ≤ 64
    · have c4' : inR e.most 0 64 = true := by simp [inR, c4]; omega
      simp -implicitDefEqProofs [l1_impl_isEntry, hlt, L_inside, L_systemOver, c1, c2, c3, c4, c4']
    · have c4' : inR e.most 0 64 = false := by simp [inR, c4]
      simp -implicitDefEqProofs [l1_impl_isEntry, hlt, L_inside, L_systemOver, c1, c2, c3, c4, c4']
theorem L_isCatalogue (l : Entries) : L (prog hand) n_impl_isCatalogue [arg (cE l)] = some (resB (catOk (qL l))) := by
  have hok := l.ok
  have hlen : (qL l).length = l.es.length := by simp [qL]
  refine L_body (b := b_impl_isCatalogue) rfl rfl l.es.length ?_
  intro fuel hfuel
  rw [catOk, hlen]
  simp -implicitDefEqProofs [b_impl_isCatalogue]
  refine K_loop (fun (i : Nat) => ⟨asl [(0, .sv (.c (cE l))), (5, .sv (.v (int l.es.length))), (6, .sv (.v (int i)))], asl [], []⟩) (fun i => some (resB (catGo (nameAt l i) ((qL l).drop i) && decide (l.es.length ≤ 10)))) (fun i => l.es.length - i) (fun i => i ≤ l.es.length) ?_ 0 (by simp) (by omega)
  intro i hi k hk
  by_cases hlt : i < l.es.length
  · have hk' := hk (i + 1) (by omega) (by omega)
    have hnext : nameAt l (i + 1) = some l.es[i].name := by simp [nameAt, hlt]
    have hd : (qL l).drop i = qE l.es[i] :: (qL l).drop (i + 1) := by
      rw [drop_cons (by rw [hlen]; exact hlt)]
      simp [qL]
    rw [hnext] at hk'
    rw [hd]
    have hqn : (qE l.es[i]).name = l.es[i].name := rfl
    have hws := wrap_suc (show i < 9223372036854775807 by omega)
    by_cases hi0 : i = 0
    · have hz : ¬ (0 < i) := by omega
      have hp0 : nameAt l i = none := by rw [hi0]; rfl
      rw [hp0]
      cases h1 : entryOk (qE l.es[i])
      · simp -implicitDefEqProofs [l1_impl_isCatalogue, hlt, L_isEntry, h1, catGo]
      · simp -implicitDefEqProofs [l1_impl_isCatalogue, hlt, L_isEntry, h1, catGo, hz, hws]
        exact hk'
    · have hz : 0 < i := by omega
      have hj : i - 1 < l.es.length := by omega
      have hp0 : nameAt l i = some l.es[i - 1].name := by
        obtain ⟨j, rfl⟩ : ∃ j, i = j + 1 := ⟨i - 1, by omega⟩
        simp [nameAt, show j < l.es.length by omega]
      rw [hp0]
      have hw := wrap64 (n := (i : Int) - 1) (by omega) (by omega)
      have ht : ((i : Int) - 1).toNat = i - 1 := by omega
      have hb0 : (0 : Int) ≤ (i : Int) - 1 := by omega
      have hb1 : (i : Int) - 1 < (l.es.length : Int) := by omega
      have hb2 : (1 : Int) ≤ (i : Int) := by omega
      have hb3 : 1 ≤ i := by omega
      cases h1 : entryOk (qE l.es[i])
      · simp -implicitDefEqProofs [l1_impl_isCatalogue, hlt, L_isEntry, h1, catGo]
      · cases h3 : lessN l.es[i - 1].name l.es[i].name
        · have h3' : Op.bytesLess l.es[i - 1].name.toList l.es[i].name.toList = false := h3
          simp -implicitDefEqProofs [l1_impl_isCatalogue, hlt, L_isEntry, h1, catGo, hw, hz, hj, ht, hb0, hb1, hb2, hb3, hqn, h3, h3', hws]
        · have h3' : Op.bytesLess l.es[i - 1].name.toList l.es[i].name.toList = true := h3
          simp -implicitDefEqProofs [l1_impl_isCatalogue, hlt, L_isEntry, h1, catGo, hw, hz, hj, ht, hb0, hb1, hb2, hb3, hqn, h3, h3', hws]
          exact hk'
  · have hd : (qL l).drop i = [] := drop_end (by rw [hlen]; exact hlt)
    rw [hd]
    have hg : catGo (nameAt l i) [] = true := by cases nameAt l i <;> rfl
    have hc : ((l.es.length : Int) ≤ 10) = (l.es.length ≤ 10) := by rw [eq_iff_iff]; omega
    simp -implicitDefEqProofs [l1_impl_isCatalogue, hlt, hg, hc]
end Go.Proofs.YtecmolmlojehgaaGreat.T
namespace Go.Proofs.YtecmolmlojehgaaGreat.T
open Go
section
variable {call : Call} {n : Nat}
/-- A loop; frames count by what their head leaves of them. -/
theorem K_loopC {σ : Type} (F : σ → Fr) (G : σ → Option Res) (m : σ → Nat) (I : σ → Prop) {live : List Nat} {c : PC} {K : Kont}
    (h : ∀ s, I s → ∀ k : Fr → Option Res, (∀ s' fr, I s' → m s' < m s → fr.canon live = (F s').canon live → k fr = G s') → runK call n c (kSeq k K) ((F s).canon live) = G s) :
    ∀ s fr, I s → m s < n → fr.canon live = (F s).canon live → runK call n (.loop live c) K fr = G s := by
  have key : ∀ (j : Nat) (s : σ) (fr : Fr), I s → m s < j → fr.canon live = (F s).canon live → iterK (fun K fr => runK call n c K (fr.canon live)) K j fr = G s := by
    intro j
    induction j with
    | zero => intro s fr _ h; omega
    | succ j ih =>
      intro s fr hs hj hc
      show runK call n c (kSeq _ K) (fr.canon live) = G s
      rw [hc]
      exact h s hs _ (fun s' fr' hs' hlt hc' => ih s' fr' hs' (by omega) hc')
  exact fun s fr hs hn hc => key n s fr hs hn hc
/-- Some entries of a list, anew. -/
def over {α : Type} : List (Nat × α) → List (Nat × α) → List (Nat × α)
  | [], _ => []
  | (i, a) :: l, u => (i, (u.lookup i).getD a) :: over l u
theorem over_nil {α : Type} (u : List (Nat × α)) : over [] u = [] := rfl
theorem over_cons {α : Type} (i : Nat) (a : α) (l u : List (Nat × α)) : over ((i, a) :: l) u = (i, (u.lookup i).getD a) :: over l u := rfl
theorem lookup_nil' {α : Type} (i : Nat) : List.lookup i ([] : List (Nat × α)) = none := rfl
theorem lookup_cons' {α : Type} (i j : Nat) (a : α) (l : List (Nat × α)) : List.lookup i ((j, a) :: l) = if i = j then some a else List.lookup i l := by
  simp only [List.lookup_cons]
  by_cases h : i = j
  · subst h; simp
  · rw [if_neg h]
    have : (i == j) = false := by simpa using h
    rw [this]
/-- The same, by the slots and roots that change. -/
theorem K_it {σ : Type} {l : List (Nat × AV)} {r : List (Nat × Root)} {ps : List Nat} {live : List Nat} {c : PC} {K : Kont} (U : σ → List (Nat × AV)) (V : σ → List (Nat × Root)) (G : σ → Option Res) (m : σ → Nat) (I : σ → Prop) (s0 : σ)
    (hI : I s0) (hn : m s0 < n) (hc : Fr.canon ⟨asl l, asl r, ps⟩ live = Fr.canon ⟨asl (over l (U s0)), asl (over r (V s0)), ps⟩ live)
    (h : ∀ s, I s → ∀ k : Fr → Option Res, (∀ s' fr, I s' → m s' < m s → fr.canon live = Fr.canon ⟨asl (over l (U s')), asl (over r (V s')), ps⟩ live → k fr = G s') → runK call n c (kSeq k K) (Fr.canon ⟨asl (over l (U s)), asl (over r (V s)), ps⟩ live) = G s) :
    runK call n (.loop live c) K ⟨asl l, asl r, ps⟩ = G s0 :=
  K_loopC (fun s => ⟨asl (over l (U s)), asl (over r (V s)), ps⟩) G m I h s0 _ hI hn hc
end
section
variable {α β : Type}
theorem take_map_len (f : α → β) (l : List α) : (l.map f).take l.length = l.map f := by rw [← List.length_map (f := f), List.take_length]
theorem drop_map_len (f : α → β) (l : List α) : (l.map f).drop l.length = [] := by rw [← List.length_map (f := f), List.drop_length]
theorem take_snoc_len (f : α → β) (l : List α) (x : β) : (l.map f ++ [x]).take (l.length + 1) = l.map f ++ [x] := List.take_of_length_le (by simp)
theorem drop_snoc_len (f : α → β) (l : List α) (x : β) : (l.map f ++ [x]).drop (l.length + 1) = [] := List.drop_eq_nil_of_le (by simp)
end
abbrev vI (n : Int) : AV := .sv (.v (int n))
abbrev vB (b : Bool) : AV := .sv (.v (.bool b))
abbrev vS (s : ByteArray) : AV := .sv (.v (.string s))
abbrev vC (c : C) : AV := .sv (.c c)
attribute [simp] over_nil over_cons lookup_nil' lookup_cons' take_map_len drop_map_len take_snoc_len drop_snoc_len
theorem if_t {c : Prop} [Decidable c] {γ : Type} {a b : γ} (h : c) : (if c then a else b) = a := if_pos h
theorem if_f {c : Prop} [Decidable c] {γ : Type} {a b : γ} (h : ¬ c) : (if c then a else b) = b := if_neg h
end Go.Proofs.YtecmolmlojehgaaGreat.T
namespace Go.Proofs.YtecmolmlojehgaaGreat.T
open Go
variable {hand : Call}
set_option maxHeartbeats 1000000
attribute [-simp] List.getElem_cons_drop List.map_drop
theorem L_eqIntS (a b : Ints) : L (prog hand) n_laws_eqIntS [arg (cI a), arg (cI b)] = some (resB (a.es == b.es)) := by
  have ha := a.ok
  refine L_body (b := b_laws_eqIntS) rfl rfl a.es.length ?_
  intro fuel hfuel
  by_cases h : a.es.length = b.es.length
  · simp [b_laws_eqIntS, h]
    refine K_loop (fun (i : Nat) => ⟨asl [(0, .sv (.c (cI a))), (1, .sv (.c (cI b))), (5, .sv (.v (int i)))], asl [], []⟩) (fun i => some (resB ((a.es.drop i) == (b.es.drop i)))) (fun i => a.es.length - i) (fun i => i ≤ a.es.length) ?_ 0 (by simp) (by simp; omega)
    intro i hi k hk
    by_cases hlt : i < a.es.length
    · have hlt2 : i < b.es.length := by omega
      simp [l1_laws_eqIntS, hlt, hlt2]
      rw [wrap_succ (by omega), drop_cons hlt, drop_cons hlt2]
      split
      · rename_i he
        rw [hk (i + 1) (by omega) (by omega)]
        simp [he]
      · rename_i he
        simp [he]
    · simp [l1_laws_eqIntS, hlt]
      rw [drop_end hlt, drop_end (by omega)]
      try rfl
  · simp [b_laws_eqIntS, h]
    try exact fun e => h (by simpa using congrArg List.length e)
theorem L_eqTerm (a b : TermV) : L (prog hand) n_laws_eqTerm [argT a, argT b] = some (resB (a == b)) := by
  refine L_body (b := b_laws_eqTerm) rfl rfl 0 ?_
  intro fuel hfuel
  obtain ⟨c, x, y, z⟩ := a
  obtain ⟨c', x', y', z'⟩ := b
  simp [b_laws_eqTerm]
  repeat' split
  all_goals simp_all
theorem L_eqTermS (a b : Poly) : L (prog hand) n_laws_eqTermS [arg (cP a), arg (cP b)] = some (resB (a.es == b.es)) := by
  have ha := a.ok
  refine L_body (b := b_laws_eqTermS) rfl rfl a.es.length ?_
  intro fuel hfuel
  by_cases h : a.es.length = b.es.length
  · simp [b_laws_eqTermS, h]
    refine K_loop (fun (i : Nat) => ⟨asl [(0, .sv (.c (cP a))), (1, .sv (.c (cP b))), (5, .sv (.v (int i)))], asl [], []⟩) (fun i => some (resB ((a.es.drop i) == (b.es.drop i)))) (fun i => a.es.length - i) (fun i => i ≤ a.es.length) ?_ 0 (by simp) (by simp; omega)
    intro i hi k hk
    by_cases hlt : i < a.es.length
    · have hlt2 : i < b.es.length := by omega
      simp [l1_laws_eqTermS, hlt, hlt2, L_eqTerm]
      rw [wrap_succ (by omega), drop_cons hlt, drop_cons hlt2]
      split
      · rename_i he
        rw [hk (i + 1) (by omega) (by omega)]
        simp [he]
      · rename_i he
        simp [he]
    · simp [l1_laws_eqTermS, hlt]
      rw [drop_end hlt, drop_end (by omega)]
      try rfl
  · simp [b_laws_eqTermS, h]
    try exact fun e => h (by simpa using congrArg List.length e)
theorem L_eqTermSS (a b : Sys) : L (prog hand) n_laws_eqTermSS [arg (cS a), arg (cS b)] = some (resB (a.es.map (·.es) == b.es.map (·.es))) := by
  have ha := a.ok
  refine L_body (b := b_laws_eqTermSS) rfl rfl a.es.length ?_
  intro fuel hfuel
  by_cases h : a.es.length = b.es.length
  · simp [b_laws_eqTermSS, h]
    refine K_loop (fun (i : Nat) => ⟨asl [(0, .sv (.c (cS a))), (1, .sv (.c (cS b))), (5, .sv (.v (int i)))], asl [], []⟩) (fun i => some (resB ((a.es.drop i).map (·.es) == (b.es.drop i).map (·.es)))) (fun i => a.es.length - i) (fun i => i ≤ a.es.length) ?_ 0 (by simp) (by simp; omega)
    intro i hi k hk
    by_cases hlt : i < a.es.length
    · have hlt2 : i < b.es.length := by omega
      simp [l1_laws_eqTermSS, hlt, hlt2, L_eqTermS]
      rw [wrap_succ (by omega), drop_cons hlt, drop_cons hlt2]
      split
      · rename_i he
        rw [hk (i + 1) (by omega) (by omega)]
        simp [he]
      · rename_i he
        simp [he]
    · simp [l1_laws_eqTermSS, hlt]
      rw [drop_end hlt, drop_end (by omega)]
      try rfl
  · simp [b_laws_eqTermSS, h]
    try exact fun e => h (by simpa using congrArg List.length e)
theorem L_eqBox (a b : BoxV) : L (prog hand) n_laws_eqBox [argB a, argB b] = some (resB (pB a == pB b)) := by
  refine L_body (b := b_laws_eqBox) rfl rfl 0 ?_
  intro fuel hfuel
  simp [b_laws_eqBox, L_eqIntS, pB]
  repeat' split
  all_goals simp_all
theorem L_eqEntry (a b : EntryV) : L (prog hand) n_laws_eqEntry [argE a, argE b] = some (resB (pE a == pE b)) := by
  refine L_body (b := b_laws_eqEntry) rfl rfl 0 ?_
  intro fuel hfuel
  simp [b_laws_eqEntry, L_eqIntS, L_eqTermSS, L_eqBox, pE, pB, pS]
  repeat' split
  all_goals simp_all
theorem L_eqEntryS (a b : Entries) : L (prog hand) n_laws_eqEntryS [arg (cE a), arg (cE b)] = some (resB (a.es.map pE == b.es.map pE)) := by
  have ha := a.ok
  refine L_body (b := b_laws_eqEntryS) rfl rfl a.es.length ?_
  intro fuel hfuel
  by_cases h : a.es.length = b.es.length
  · simp [b_laws_eqEntryS, h]
    refine K_loop (fun (i : Nat) => ⟨asl [(0, .sv (.c (cE a))), (1, .sv (.c (cE b))), (5, .sv (.v (int i)))], asl [], []⟩) (fun i => some (resB ((a.es.drop i).map pE == (b.es.drop i).map pE))) (fun i => a.es.length - i) (fun i => i ≤ a.es.length) ?_ 0 (by simp) (by simp; omega)
    intro i hi k hk
    by_cases hlt : i < a.es.length
    · have hlt2 : i < b.es.length := by omega
      simp [l1_laws_eqEntryS, hlt, hlt2, L_eqEntry]
      rw [wrap_succ (by omega), drop_cons hlt, drop_cons hlt2]
      split
      · rename_i he
        rw [hk (i + 1) (by omega) (by omega)]
        simp [he]
      · rename_i he
        simp [he]
    · simp [l1_laws_eqEntryS, hlt]
      rw [drop_end hlt, drop_end (by omega)]
      try rfl
  · simp [b_laws_eqEntryS, h]
    try exact fun e => h (by simpa using congrArg List.length e)
end Go.Proofs.YtecmolmlojehgaaGreat.T
namespace Go.Proofs.YtecmolmlojehgaaGreat.T
open Go
variable {hand : Call}
set_option maxHeartbeats 2000000
attribute [-simp] List.getElem_cons_drop List.map_drop
def Row.full {α : Type} (a : Row α) : Row α := ⟨a.es ++ a.sp, [], by have := a.ok; simp; omega⟩
def Row.rest {α : Type} (a : Row α) : Row α := ⟨a.sp, [], by have := a.ok; simp; omega⟩
theorem full_I (a : Ints) : C.fl 1 (a.es.map eI ++ a.sp.map eI) [] = cI a.full := by simp [Row.full]
theorem full_P (a : Poly) : C.fl 4 (a.es.map eT ++ a.sp.map eT) [] = cP a.full := by simp [Row.full]
theorem rest_S (a : Sys) : C.sl 1 (a.sp.map eP) [] = cS a.rest := by simp [Row.rest]
theorem rest_E (a : Entries) : C.sl 8 (a.sp.map eE) [] = cE a.rest := by simp [Row.rest]
/-- As the copies are made: so much room behind, few elements. -/
def Roomy {α : Type} (a : Row α) : Prop := a.sp.length = room a.es.length ∧ a.es.length ≤ 1000000
def RoomyS (s : Sys) : Prop := Roomy s ∧ ∀ p ∈ s.es, Roomy p
def RoomyB (b : BoxV) : Prop := Roomy b.low ∧ Roomy b.high
def RoomyE (e : EntryV) : Prop := RoomyS e.system ∧ RoomyB e.box
def RoomyL (l : Entries) : Prop := Roomy l ∧ ∀ e ∈ l.es, RoomyE e
theorem L_intactIntS (a : Ints) (h : Roomy a) : L (prog hand) n_laws_intactIntS [arg (cI a), arg (cI a)] = some (resB true) := by
  obtain ⟨h, h1⟩ := h
  have hr := room_le a.es.length
  refine L_body (b := b_laws_intactIntS) rfl rfl 0 ?_
  intro fuel hfuel
  have hw := wrap64 (n := (a.es.length : Int) + (room a.es.length : Int)) (by omega) (by omega)
  have hm0 : 0 ≤ ((a.es.length : Int) + (room a.es.length : Int)) := by omega
  have hN : ((a.es.length : Int) + (room a.es.length : Int)).toNat = a.es.length + room a.es.length := by omega
  have hle : ((a.es.length : Int) + (room a.es.length : Int)) ≤ ((a.es.length : Int) + (a.sp.length : Int)) := by omega
  have hT : (a.es.map eI ++ a.sp.map eI).take (a.es.length + room a.es.length) = a.es.map eI ++ a.sp.map eI := List.take_of_length_le (by simp; omega)
  have hD : (a.es.map eI ++ a.sp.map eI).drop (a.es.length + room a.es.length) = [] := List.drop_eq_nil_of_le (by simp; omega)
  have hE : L (prog hand) n_laws_eqIntS [arg (.fl 1 ((a.es.map eI ++ a.sp.map eI).take (a.es.length + room a.es.length)) ((a.es.map eI ++ a.sp.map eI).drop (a.es.length + room a.es.length))), arg (.fl 1 ((a.es.map eI ++ a.sp.map eI).take (a.es.length + room a.es.length)) ((a.es.map eI ++ a.sp.map eI).drop (a.es.length + room a.es.length)))] = some (resB true) := by
    rw [hT, hD, full_I, L_eqIntS]
    simp
  simp [b_laws_intactIntS, L_roomBehind, hw, hm0, hN, hle, hE]
theorem L_intactTermS (a : Poly) (h : Roomy a) : L (prog hand) n_laws_intactTermS [arg (cP a), arg (cP a)] = some (resB true) := by
  obtain ⟨h, h1⟩ := h
  have hr := room_le a.es.length
  refine L_body (b := b_laws_intactTermS) rfl rfl 0 ?_
  intro fuel hfuel
  have hw := wrap64 (n := (a.es.length : Int) + (room a.es.length : Int)) (by omega) (by omega)
  have hm0 : 0 ≤ ((a.es.length : Int) + (room a.es.length : Int)) := by omega
  have hN : ((a.es.length : Int) + (room a.es.length : Int)).toNat = a.es.length + room a.es.length := by omega
  have hle : ((a.es.length : Int) + (room a.es.length : Int)) ≤ ((a.es.length : Int) + (a.sp.length : Int)) := by omega
  have hT : (a.es.map eT ++ a.sp.map eT).take (a.es.length + room a.es.length) = a.es.map eT ++ a.sp.map eT := List.take_of_length_le (by simp; omega)
  have hD : (a.es.map eT ++ a.sp.map eT).drop (a.es.length + room a.es.length) = [] := List.drop_eq_nil_of_le (by simp; omega)
  have hE : L (prog hand) n_laws_eqTermS [arg (.fl 4 ((a.es.map eT ++ a.sp.map eT).take (a.es.length + room a.es.length)) ((a.es.map eT ++ a.sp.map eT).drop (a.es.length + room a.es.length))), arg (.fl 4 ((a.es.map eT ++ a.sp.map eT).take (a.es.length + room a.es.length)) ((a.es.map eT ++ a.sp.map eT).drop (a.es.length + room a.es.length)))] = some (resB true) := by
    rw [hT, hD, full_P, L_eqTermS]
    simp
  simp [b_laws_intactTermS, L_roomBehind, hw, hm0, hN, hle, hE]
theorem L_intactTermSS (a : Sys) (h : RoomyS a) : L (prog hand) n_laws_intactTermSS [arg (cS a), arg (cS a)] = some (resB true) := by
  obtain ⟨⟨h, h1⟩, hq⟩ := h
  have hr := room_le a.es.length
  refine L_body (b := b_laws_intactTermSS) rfl rfl a.es.length ?_
  intro fuel hfuel
  have hw := wrap64 (n := (a.es.length : Int) + (room a.es.length : Int)) (by omega) (by omega)
  have hm0 : 0 ≤ ((a.es.length : Int) + (room a.es.length : Int)) := by omega
  have hN : ((a.es.length : Int) + (room a.es.length : Int)).toNat = a.es.length + room a.es.length := by omega
  have hle : ((a.es.length : Int) + (room a.es.length : Int)) ≤ ((a.es.length : Int) + (a.sp.length : Int)) := by omega
  have hsub : a.es.length + room a.es.length - a.es.length = room a.es.length := by omega
  have hT : (a.sp.map eP).take (room a.es.length) = a.sp.map eP := List.take_of_length_le (by simp; omega)
  have hle0 : (a.es.length : Int) ≤ (a.es.length : Int) + (room a.es.length : Int) := by omega
  have hD : (a.es.map eP ++ a.sp.map eP).drop (a.es.length + room a.es.length) = [] := List.drop_eq_nil_of_le (by simp; omega)
  have hE : L (prog hand) n_laws_eqTermSS [arg (.sl 1 (a.sp.map eP) []), arg (.sl 1 (a.sp.map eP) [])] = some (resB true) := by
    rw [rest_S, L_eqTermSS]
    simp
  simp [b_laws_intactTermSS, L_roomBehind, hw]
  refine K_for (fun i => ⟨asl [(0, .sv (.c (cS a))), (1, .sv (.c (cS a))), (5, .sv (.v (int ((a.es.length : Int) + (room a.es.length : Int))))), (6, .sv (.v (int i)))], asl [], []⟩) 0 a.es.length (by omega) (by omega) ?_ ?_
  · intro i _ hi K
    have hp := hq _ (List.getElem_mem hi)
    simp [l1_laws_intactTermSS, hi, L_intactTermS _ hp, wrap_suc (show i < 9223372036854775807 by omega)]
  · intro k
    simp [l1_laws_intactTermSS, hm0, hN, hle, hle0, hsub, hT, hD, hE]
theorem L_intactBox (b : BoxV) (h : RoomyB b) : L (prog hand) n_laws_intactBox [argB b, argB b] = some (resB true) := by
  refine L_body (b := b_laws_intactBox) rfl rfl 0 ?_
  intro fuel hfuel
  simp [b_laws_intactBox, L_intactIntS _ h.1, L_intactIntS _ h.2]
theorem L_intactEntry (e : EntryV) (h : RoomyE e) : L (prog hand) n_laws_intactEntry [argE e, argE e] = some (resB true) := by
  refine L_body (b := b_laws_intactEntry) rfl rfl 0 ?_
  intro fuel hfuel
  simp [b_laws_intactEntry, L_intactTermSS _ h.1, L_intactBox _ h.2]
theorem L_intactEntryS (a : Entries) (h : RoomyL a) : L (prog hand) n_laws_intactEntryS [arg (cE a), arg (cE a)] = some (resB true) := by
  obtain ⟨⟨h, h1⟩, hq⟩ := h
  have hr := room_le a.es.length
  refine L_body (b := b_laws_intactEntryS) rfl rfl a.es.length ?_
  intro fuel hfuel
  have hw := wrap64 (n := (a.es.length : Int) + (room a.es.length : Int)) (by omega) (by omega)
  have hm0 : 0 ≤ ((a.es.length : Int) + (room a.es.length : Int)) := by omega
  have hN : ((a.es.length : Int) + (room a.es.length : Int)).toNat = a.es.length + room a.es.length := by omega
  have hle : ((a.es.length : Int) + (room a.es.length : Int)) ≤ ((a.es.length : Int) + (a.sp.length : Int)) := by omega
  have hsub : a.es.length + room a.es.length - a.es.length = room a.es.length := by omega
  have hT : (a.sp.map eE).take (room a.es.length) = a.sp.map eE := List.take_of_length_le (by simp; omega)
  have hle0 : (a.es.length : Int) ≤ (a.es.length : Int) + (room a.es.length : Int) := by omega
  have hD : (a.es.map eE ++ a.sp.map eE).drop (a.es.length + room a.es.length) = [] := List.drop_eq_nil_of_le (by simp; omega)
  have hE : L (prog hand) n_laws_eqEntryS [arg (.sl 8 (a.sp.map eE) []), arg (.sl 8 (a.sp.map eE) [])] = some (resB true) := by
    rw [rest_E, L_eqEntryS]
    simp
  simp [b_laws_intactEntryS, L_roomBehind, hw]
  refine K_for (fun i => ⟨asl [(0, .sv (.c (cE a))), (1, .sv (.c (cE a))), (5, .sv (.v (int ((a.es.length : Int) + (room a.es.length : Int))))), (6, .sv (.v (int i)))], asl [], []⟩) 0 a.es.length (by omega) (by omega) ?_ ?_
  · intro i _ hi K
    have hp := hq _ (List.getElem_mem hi)
    simp [l1_laws_intactEntryS, hi, L_intactEntry _ hp, wrap_suc (show i < 9223372036854775807 by omega)]
  · intro k
    simp [l1_laws_intactEntryS, hm0, hN, hle, hle0, hsub, hT, hD, hE]
end Go.Proofs.YtecmolmlojehgaaGreat.T
namespace Go.Proofs.YtecmolmlojehgaaGreat.T
open Go
variable {hand : Call}
set_option maxHeartbeats 2000000
attribute [-simp] List.getElem_cons_drop List.map_drop
/-! ### A row of which the first places are new -/
def mixRow {α : Type} (X Y : List α) (i : Nat) : List α := X.take i ++ Y.drop i
section
variable {α : Type} {X Y : List α} {i : Nat}
theorem mix_length (h : X.length = Y.length) : (mixRow X Y i).length = Y.length := by simp [mixRow]; omega
theorem mix_zero : mixRow X Y 0 = Y := by simp [mixRow]
theorem mix_all (h : X.length = Y.length) : mixRow X Y X.length = X := by simp [mixRow, List.drop_eq_nil_of_le (show Y.length ≤ X.length by omega)]
theorem mix_get (h : X.length = Y.length) (hi : i < Y.length) : (mixRow X Y i)[i]? = some Y[i] := by
  unfold mixRow
  rw [List.getElem?_append_right (by simp; omega), List.length_take, Nat.min_eq_left (by omega), Nat.sub_self, List.getElem?_drop, Nat.add_zero, List.getElem?_eq_getElem hi]
theorem mix_at (h : X.length = Y.length) (hi : i < (mixRow X Y i).length) : (mixRow X Y i)[i] = Y[i]'(by rw [mix_length h] at hi; exact hi) := by
  have h2 : i < Y.length := by rw [mix_length h] at hi; exact hi
  have h3 := mix_get h h2
  rw [List.getElem?_eq_getElem hi] at h3
  exact Option.some.inj h3
theorem mix_set {v : α} (h : X.length = Y.length) (hv : X[i]? = some v) : (mixRow X Y i).set i v = mixRow X Y (i + 1) := by
  obtain ⟨hlt, hv'⟩ := List.getElem?_eq_some_iff.1 hv
  unfold mixRow
  apply List.ext_getElem?
  intro j
  rw [List.getElem?_set]
  by_cases e : i = j
  · subst e
    rw [if_pos rfl, if_pos (by simp; omega)]
    rw [List.getElem?_append_left (by simp; omega), List.getElem?_take_of_lt (by omega), hv]
  · rw [if_neg e]
    by_cases hj : j < i
    · rw [List.getElem?_append_left (by simp; omega), List.getElem?_append_left (by simp; omega), List.getElem?_take_of_lt hj, List.getElem?_take_of_lt (by omega)]
    · rw [List.getElem?_append_right (by simp; omega), List.getElem?_append_right (by simp; omega), List.length_take, List.length_take, Nat.min_eq_left (by omega), Nat.min_eq_left (by omega), List.getElem?_drop, List.getElem?_drop]
      congr 1; omega
end
/-! ### Texts -/
abbrev dig (k : Nat) : ByteArray := ⟨#[UInt8.ofNat (IntKind.u8.wrap (IntKind.i64.wrap (48 + (k : Int).tmod 10))).toNat]⟩
def digs (k : Nat) (out : ByteArray) : ByteArray := if h : k = 0 then out else digs (k / 10) (dig k ++ out)
termination_by k
decreasing_by omega
theorem digs_zero (out : ByteArray) : digs 0 out = out := by rw [digs]; simp
theorem digs_pos {k : Nat} (h : k ≠ 0) (out : ByteArray) : digs k out = digs (k / 10) (dig k ++ out) := by rw [digs, dif_neg h]
theorem digs_size (k : Nat) : ∀ out : ByteArray, (digs k out).size ≤ out.size + k := by
  induction k using Nat.strongRecOn with
  | ind k ih =>
    intro out
    by_cases h : k = 0
    · subst h; rw [digs_zero]; omega
    · rw [digs_pos h]
      have := ih (k / 10) (by omega) (dig k ++ out)
      have e : (dig k ++ out).size = 1 + out.size := by rw [ByteArray.size_append]; rfl
      omega
abbrev bM : ByteArray := ⟨#[109]⟩
def mText (k : Nat) : ByteArray := bM ++ digs k ⟨#[]⟩
theorem L_markText (k : Nat) (h0 : 0 < k) (h1 : k < 4611686018427387904) : L (prog hand) n_laws_markText [argI k] = some (resV (.string (mText k))) := by
  refine L_body (b := b_laws_markText) rfl rfl k ?_
  intro fuel hfuel
  have e0 : ¬ ((k : Int) ≤ 0) := by omega
  have e1 : k ≠ 0 := by omega
  simp -implicitDefEqProofs [b_laws_markText, e0, e1]
  refine (K_loop (fun (s : Nat × ByteArray) => ⟨asl [(0, .sv (.v (int s.1))), (3, .sv (.v (.string s.2)))], asl [], []⟩) (fun s => some (resV (.string (bM ++ digs s.1 s.2)))) (fun s => s.1) (fun s => s.1 + s.2.size < 4611686018427387904) ?_ (k, ⟨#[]⟩) (by show k + 0 < _; omega) (by simpa using hfuel))
  rintro ⟨k, out⟩ hI K hK
  simp only at hI
  by_cases hk : k = 0
  · subst hk
    have hs : bM.size + out.size ≤ 9223372036854775807 := by have : bM.size = 1 := rfl; omega
    simp -implicitDefEqProofs [l1_laws_markText, digs_zero, hs]
  · have hk' : 0 < k := by omega
    have hd : IntKind.i64.wrap ((k : Int) / 10) = (k : Int) / 10 := wrap64 (by omega) (by omega)
    have hs : (dig k).size + out.size ≤ 9223372036854775807 := by have : (dig k).size = 1 := rfl; omega
    simp -implicitDefEqProofs [l1_laws_markText, hk', digs_pos hk, hd, hs]
    refine (hK (k / 10, dig k ++ out) ?_ ?_).trans rfl
    · show k / 10 + (dig k ++ out).size < _
      rw [ByteArray.size_append]
      have : (dig k).size = 1 := rfl
      omega
    · show k / 10 < k
      omega
/-! ### What is written -/
def mInts (k n : Nat) : List Int := (List.range n).map (fun i => ((k + i : Nat) : Int))
abbrev mTerm (k : Nat) : TermV := ⟨k, (k + 1 : Nat), (k + 2 : Nat), (k + 3 : Nat)⟩
def mTerms (k n : Nat) : List TermV := (List.range n).map (fun i => mTerm (k + 4 * i))
def markI (k : Nat) (a : Ints) : Ints := ⟨mInts k a.es.length, a.sp, by have := a.ok; simpa [mInts] using this⟩
def markP (k : Nat) (a : Poly) : Poly := ⟨mTerms k a.es.length, a.sp, by have := a.ok; simpa [mTerms] using this⟩
theorem mInts_length (k n : Nat) : (mInts k n).length = n := by simp [mInts]
theorem mTerms_length (k n : Nat) : (mTerms k n).length = n := by simp [mTerms]
theorem mInts_get {k n i : Nat} (h : i < n) : (mInts k n)[i]? = some ((k + i : Nat) : Int) := by simp [mInts, h]
theorem mTerms_get {k n i : Nat} (h : i < n) : (mTerms k n)[i]? = some (mTerm (k + 4 * i)) := by simp [mTerms, h]
theorem markI_es (k : Nat) (a : Ints) : (markI k a).es = mInts k a.es.length := rfl
theorem markI_sp (k : Nat) (a : Ints) : (markI k a).sp = a.sp := rfl
theorem markP_es (k : Nat) (a : Poly) : (markP k a).es = mTerms k a.es.length := rfl
theorem markP_sp (k : Nat) (a : Poly) : (markP k a).sp = a.sp := rfl
/-- A row that is handed over: all of it, its length. -/
abbrev own (c : C) (n : Nat) : Arg := .arr true c n
abbrev backI (k : Nat) (c : C) : Res := ⟨[.s (.mk .imm (.val (int k)))], [some (.arr true false c)]⟩
abbrev wI (a : Ints) : C := .fl 1 (a.es.map eI ++ a.sp.map eI) []
abbrev wP (a : Poly) : C := .fl 4 (a.es.map eT ++ a.sp.map eT) []
theorem L_markIntS (a : Ints) (k : Nat) (h1 : a.es.length ≤ 1000000) (hk : k + a.es.length < 4611686018427387904) : L (prog hand) n_laws_markIntS [own (wI a) a.es.length, argI k] = some (backI (k + a.es.length) (wI (markI k a))) := by
  refine L_body (b := b_laws_markIntS) rfl rfl a.es.length ?_
  intro fuel hfuel
  obtain ⟨Y, hY⟩ : ∃ Y, Y = a.es.map eI ++ a.sp.map eI := ⟨_, rfl⟩
  obtain ⟨X, hX⟩ : ∃ X, X = (markI k a).es.map eI ++ (markI k a).sp.map eI := ⟨_, rfl⟩
  have hl : X.length = Y.length := by rw [hX, hY]; simp [markI_es, markI_sp, mInts_length]
  have hn : a.es.length ≤ Y.length := by rw [hY]; simp
  have hXi : ∀ i, i < a.es.length → X[i]? = some (eI ((k + i : Nat) : Int)) := by
    intro i hi
    rw [hX, List.getElem?_append_left (by simpa [markI_es, mInts_length] using hi), List.getElem?_map, markI_es, mInts_get hi]
    rfl
  have hYi : ∀ (i : Nat) (h : i < Y.length), ∃ y, Y[i] = eI y := by
    intro i h
    have : Y[i] ∈ Y := List.getElem_mem h
    subst hY
    simp only [List.mem_append, List.mem_map] at this
    rcases this with ⟨x, _, e⟩ | ⟨x, _, e⟩ <;> exact ⟨x, e.symm⟩
  have hrest : mixRow X Y a.es.length = X := by
    unfold mixRow
    rw [hX, hY, List.take_left' (by simp [markI_es, mInts_length]), List.drop_left' (by simp), markI_sp]
  have e1 : wI a = .fl 1 Y [] := by rw [hY]
  have e2 : wI (markI k a) = .fl 1 X [] := by rw [hX]
  rw [e1, e2]
  clear e1 e2 hX hY
  simp -implicitDefEqProofs [b_laws_markIntS]
  rw [K_start (fr' := ⟨asl [(0, .sv (.ref 0 [] 0 a.es.length)), (1, .sv (.v (int ((k + 0 : Nat) : Int)))), (5, .sv (.v (int (0 : Nat))))], asl [(0, .arr true false (.fl 1 (mixRow X Y 0) []))], [0]⟩) (by simp [mix_zero])]
  refine K_for (fun i => ⟨asl [(0, .sv (.ref 0 [] 0 a.es.length)), (1, .sv (.v (int ((k + i : Nat) : Int)))), (5, .sv (.v (int i)))], asl [(0, .arr true false (.fl 1 (mixRow X Y i) []))], [0]⟩) 0 a.es.length (by omega) (by omega) ?_ ?_
  · intro i _ hi K
    have h2 : i < Y.length := by omega
    have hs := mix_set (Y := Y) hl (hXi i hi)
    obtain ⟨y, hy⟩ := hYi i h2
    have hw := wrap64 (n := ((k : Int) + (i : Int)) + 1) (by omega) (by omega)
    have ha : (k : Int) + ((i : Int) + 1) = ((k : Int) + (i : Int)) + 1 := by omega
    simp only [Int.natCast_add] at hs
    simp -implicitDefEqProofs [l1_laws_markIntS, hi, h2, hn, hy, mix_at hl, mix_length hl, hs, hw, ha, wrap_suc (show i < 9223372036854775807 by omega)]
  · intro k
    simp -implicitDefEqProofs [l1_laws_markIntS, hrest]
theorem L_markTermS (a : Poly) (k : Nat) (h1 : a.es.length ≤ 1000000) (hk : k + 4 * a.es.length < 4611686018427387904) : L (prog hand) n_laws_markTermS [own (wP a) a.es.length, argI k] = some (backI (k + 4 * a.es.length) (wP (markP k a))) := by
  refine L_body (b := b_laws_markTermS) rfl rfl a.es.length ?_
  intro fuel hfuel
  obtain ⟨Y, hY⟩ : ∃ Y, Y = a.es.map eT ++ a.sp.map eT := ⟨_, rfl⟩
  obtain ⟨X, hX⟩ : ∃ X, X = (markP k a).es.map eT ++ (markP k a).sp.map eT := ⟨_, rfl⟩
  have hl : X.length = Y.length := by rw [hX, hY]; simp [markP_es, markP_sp, mTerms_length]
  have hn : a.es.length ≤ Y.length := by rw [hY]; simp
  have hXi : ∀ i, i < a.es.length → X[i]? = some (eT (mTerm (k + 4 * i))) := by
    intro i hi
    rw [hX, List.getElem?_append_left (by simpa [markP_es, mTerms_length] using hi), List.getElem?_map, markP_es, mTerms_get hi]
    rfl
  have hYi : ∀ (i : Nat) (h : i < Y.length), ∃ y, Y[i] = eT y := by
    intro i h
    have : Y[i] ∈ Y := List.getElem_mem h
    subst hY
    simp only [List.mem_append, List.mem_map] at this
    rcases this with ⟨x, _, e⟩ | ⟨x, _, e⟩ <;> exact ⟨x, e.symm⟩
  have hrest : mixRow X Y a.es.length = X := by
    unfold mixRow
    rw [hX, hY, List.take_left' (by simp [markP_es, mTerms_length]), List.drop_left' (by simp), markP_sp]
  have e1 : wP a = .fl 4 Y [] := by rw [hY]
  have e2 : wP (markP k a) = .fl 4 X [] := by rw [hX]
  rw [e1, e2]
  clear e1 e2 hX hY
  simp -implicitDefEqProofs [b_laws_markTermS]
  rw [K_start (fr' := ⟨asl [(0, .sv (.ref 0 [] 0 a.es.length)), (1, .sv (.v (int ((k + 4 * 0 : Nat) : Int)))), (5, .sv (.v (int (0 : Nat))))], asl [(0, .arr true false (.fl 4 (mixRow X Y 0) []))], [0]⟩) (by simp [mix_zero])]
  refine K_for (fun i => ⟨asl [(0, .sv (.ref 0 [] 0 a.es.length)), (1, .sv (.v (int ((k + 4 * i : Nat) : Int)))), (5, .sv (.v (int i)))], asl [(0, .arr true false (.fl 4 (mixRow X Y i) []))], [0]⟩) 0 a.es.length (by omega) (by omega) ?_ ?_
  · intro i _ hi K
    have h2 : i < Y.length := by omega
    have hs := mix_set (Y := Y) hl (hXi i hi)
    obtain ⟨y, hy⟩ := hYi i h2
    have hF : k + 4 * (i + 1) = (k + 4 * i) + 4 := by omega
    have hb : k + 4 * i < 4611686018427387904 := by omega
    simp only [hF]
    generalize k + 4 * i = b at hs hb
    have hw1 := wrap64 (n := (b : Int) + 1) (by omega) (by omega)
    have hw2 : IntKind.i64.wrap ((b : Int) + 1 + 1) = (b : Int) + 2 := by rw [wrap64 (by omega) (by omega)]; omega
    have hw3 : IntKind.i64.wrap ((b : Int) + 2 + 1) = (b : Int) + 3 := by rw [wrap64 (by omega) (by omega)]; omega
    have hw4 : IntKind.i64.wrap ((b : Int) + 3 + 1) = (b : Int) + 4 := by rw [wrap64 (by omega) (by omega)]; omega
    have hs : (mixRow X Y i).set i [int b, int ((b : Int) + 1), int ((b : Int) + 2), int ((b : Int) + 3)] = mixRow X Y (i + 1) := hs
    simp -implicitDefEqProofs [l1_laws_markTermS, hi, h2, hn, hy, mix_at hl, mix_length hl, hs, hw1, hw2, hw3, hw4, wrap_suc (show i < 9223372036854775807 by omega)]
  · intro k
    simp -implicitDefEqProofs [l1_laws_markTermS, hrest]
theorem L_heldIntS (a : Ints) (k : Nat) (h1 : a.es.length ≤ 1000000) (hk : k + a.es.length < 4611686018427387904) : L (prog hand) n_laws_heldIntS [arg (cI (markI k a)), argI k] = some (resI ((k + a.es.length : Nat) : Int)) := by
  refine L_body (b := b_laws_heldIntS) rfl rfl a.es.length ?_
  intro fuel hfuel
  have hl : (markI k a).es.length = a.es.length := mInts_length _ _
  have hg : ∀ (i : Nat) (h : i < (markI k a).es.length), (markI k a).es[i] = ((k + i : Nat) : Int) := by
    intro i h
    have := mInts_get (k := k) (n := a.es.length) (i := i) (by rw [← hl]; exact h)
    rw [← markI_es, List.getElem?_eq_getElem h] at this
    exact Option.some.inj this
  generalize markI k a = m at hl hg
  simp -implicitDefEqProofs [b_laws_heldIntS]
  rw [K_start (fr' := ⟨asl [(0, .sv (.c (cI m))), (1, .sv (.v (int ((k + 0 : Nat) : Int)))), (5, .sv (.v (int (0 : Nat))))], asl [], []⟩) (by simp)]
  refine K_for (fun i => ⟨asl [(0, .sv (.c (cI m))), (1, .sv (.v (int ((k + i : Nat) : Int)))), (5, .sv (.v (int i)))], asl [], []⟩) 0 m.es.length (by omega) (by omega) ?_ ?_
  · intro i _ hi K
    have hw := wrap64 (n := ((k : Int) + (i : Int)) + 1) (by omega) (by omega)
    have ha : (k : Int) + ((i : Int) + 1) = ((k : Int) + (i : Int)) + 1 := by omega
    have hgi := hg i hi
    simp only [Int.natCast_add] at hgi
    simp -implicitDefEqProofs [l1_laws_heldIntS, hi, hgi, hw, ha, wrap_suc (show i < 9223372036854775807 by omega)]
  · intro k
    simp -implicitDefEqProofs [l1_laws_heldIntS, hl]
theorem L_heldTermS (a : Poly) (k : Nat) (h1 : a.es.length ≤ 1000000) (hk : k + 4 * a.es.length < 4611686018427387904) : L (prog hand) n_laws_heldTermS [arg (cP (markP k a)), argI k] = some (resI ((k + 4 * a.es.length : Nat) : Int)) := by
  refine L_body (b := b_laws_heldTermS) rfl rfl a.es.length ?_
  intro fuel hfuel
  have hl : (markP k a).es.length = a.es.length := mTerms_length _ _
  have hg : ∀ (i : Nat) (h : i < (markP k a).es.length), (markP k a).es[i] = mTerm (k + 4 * i) := by
    intro i h
    have := mTerms_get (k := k) (n := a.es.length) (i := i) (by rw [← hl]; exact h)
    rw [← markP_es, List.getElem?_eq_getElem h] at this
    exact Option.some.inj this
  generalize markP k a = m at hl hg
  simp -implicitDefEqProofs [b_laws_heldTermS]
  rw [K_start (fr' := ⟨asl [(0, .sv (.c (cP m))), (1, .sv (.v (int ((k + 4 * 0 : Nat) : Int)))), (5, .sv (.v (int (0 : Nat))))], asl [], []⟩) (by simp)]
  refine K_for (fun i => ⟨asl [(0, .sv (.c (cP m))), (1, .sv (.v (int ((k + 4 * i : Nat) : Int)))), (5, .sv (.v (int i)))], asl [], []⟩) 0 m.es.length (by omega) (by omega) ?_ ?_
  · intro i _ hi K
    have hgi := hg i hi
    have hF : k + 4 * (i + 1) = (k + 4 * i) + 4 := by omega
    have hb : k + 4 * i < 4611686018427387904 := by omega
    simp only [hF]
    generalize k + 4 * i = b at hgi hb
    have hw1 := wrap64 (n := (b : Int) + 1) (by omega) (by omega)
    have hw2 : IntKind.i64.wrap ((b : Int) + 1 + 1) = (b : Int) + 2 := by rw [wrap64 (by omega) (by omega)]; omega
    have hw3 : IntKind.i64.wrap ((b : Int) + 2 + 1) = (b : Int) + 3 := by rw [wrap64 (by omega) (by omega)]; omega
    have hw4 : IntKind.i64.wrap ((b : Int) + 3 + 1) = (b : Int) + 4 := by rw [wrap64 (by omega) (by omega)]; omega
    simp -implicitDefEqProofs [l1_laws_heldTermS, hi, hgi, hw1, hw2, hw3, hw4, wrap_suc (show i < 9223372036854775807 by omega)]
  · intro k
    simp -implicitDefEqProofs [l1_laws_heldTermS, hl]
end Go.Proofs.YtecmolmlojehgaaGreat.T
namespace Go.Proofs.YtecmolmlojehgaaGreat.T
open Go
variable {hand : Call}
set_option maxHeartbeats 2000000
attribute [-simp] List.getElem_cons_drop List.map_drop
section
variable {α : Type} (m : Nat → α → α) (cnt : α → Nat)
/-- Marks one behind the other. -/
def markL : Nat → List α → List α
  | _, [] => []
  | k, x :: xs => m k x :: markL (k + cnt x) xs
def endL (k : Nat) (l : List α) : Nat := k + (l.map cnt).sum
theorem markL_length : ∀ (l : List α) (k : Nat), (markL m cnt k l).length = l.length
  | [], _ => rfl
  | x :: xs, k => by simp [markL, markL_length xs]
theorem markL_get : ∀ (l : List α) (k i : Nat) (h : i < l.length), (markL m cnt k l)[i]? = some (m (endL cnt k (l.take i)) l[i])
  | [], _, _, h => by simp at h
  | x :: xs, k, 0, _ => by simp [markL, endL]
  | x :: xs, k, i + 1, h => by
    have := markL_get xs (k + cnt x) i (by simpa using h)
    simp only [markL, List.getElem?_cons_succ, this, List.getElem_cons_succ, List.take_succ_cons]
    congr 2
    simp [endL]; omega
theorem endL_succ {l : List α} {k i : Nat} (h : i < l.length) : endL cnt k (l.take (i + 1)) = endL cnt k (l.take i) + cnt l[i] := by
  rw [List.take_succ_eq_append_getElem h]
  unfold endL
  rw [List.map_append, List.sum_append]
  simp only [List.map_cons, List.map_nil, List.sum_cons, List.sum_nil]; omega
theorem endL_le {l : List α} {k i : Nat} : endL cnt k (l.take i) ≤ endL cnt k l := by
  have e : endL cnt k l = endL cnt k (l.take i) + ((l.drop i).map cnt).sum := by
    conv => lhs; rw [← List.take_append_drop i l]
    simp only [endL, List.map_append, List.sum_append]; omega
  omega
end
def cntP (p : Poly) : Nat := 4 * p.es.length
def markS (k : Nat) (s : Sys) : Sys := ⟨markL markP cntP k s.es, s.sp, by have := s.ok; rw [markL_length]; exact this⟩
theorem markS_es (k : Nat) (s : Sys) : (markS k s).es = markL markP cntP k s.es := rfl
theorem markS_sp (k : Nat) (s : Sys) : (markS k s).sp = s.sp := rfl
abbrev wS (s : Sys) : C := .sl 1 (s.es.map eP ++ s.sp.map eP) []
theorem sub_markP (k : Nat) (p : Poly) : C.fl 4 (((markP k p).es.map eT ++ p.sp.map eT).take p.es.length) (((markP k p).es.map eT ++ p.sp.map eT).drop p.es.length) = cP (markP k p) := by
  rw [List.take_left' (by simp [markP_es, mTerms_length]), List.drop_left' (by simp [markP_es, mTerms_length])]
  rfl
theorem L_markTermSS (a : Sys) (k : Nat) (h1 : a.es.length ≤ 1000000) (hp : ∀ p ∈ a.es, p.es.length ≤ 1000000) (hk : endL cntP k a.es < 4611686018427387904) : L (prog hand) n_laws_markTermSS [own (wS a) a.es.length, argI k] = some (backI (endL cntP k a.es) (wS (markS k a))) := by
  refine L_body (b := b_laws_markTermSS) rfl rfl a.es.length ?_
  intro fuel hfuel
  obtain ⟨Y, hY⟩ : ∃ Y, Y = a.es.map eP ++ a.sp.map eP := ⟨_, rfl⟩
  obtain ⟨X, hX⟩ : ∃ X, X = (markS k a).es.map eP ++ (markS k a).sp.map eP := ⟨_, rfl⟩
  have hl : X.length = Y.length := by rw [hX, hY]; simp [markS_es, markS_sp, markL_length]
  have hn : a.es.length ≤ Y.length := by rw [hY]; simp
  have hXi : ∀ i (h : i < a.es.length), X[i]? = some (eP (markP (endL cntP k (a.es.take i)) a.es[i])) := by
    intro i hi
    rw [hX, List.getElem?_append_left (by simpa [markS_es, markL_length] using hi), List.getElem?_map, markS_es, markL_get markP cntP _ _ _ hi]
    rfl
  have hYi : ∀ (i : Nat) (h : i < a.es.length), Y[i]'(by omega) = eP a.es[i] := by
    intro i h
    subst hY
    rw [List.getElem_append_left (by simpa using h)]
    simp
  have hrest : mixRow X Y a.es.length = X := by
    unfold mixRow
    rw [hX, hY, List.take_left' (by simp [markS_es, markL_length]), List.drop_left' (by simp), markS_sp]
  have e1 : wS a = .sl 1 Y [] := by rw [hY]
  have e2 : wS (markS k a) = .sl 1 X [] := by rw [hX]
  rw [e1, e2]
  clear e1 e2 hX hY
  simp -implicitDefEqProofs [b_laws_markTermSS]
  rw [K_start (fr' := ⟨asl [(0, .sv (.ref 0 [] 0 a.es.length)), (1, .sv (.v (int ((endL cntP k (a.es.take 0) : Nat) : Int)))), (5, .sv (.v (int (0 : Nat))))], asl [(0, .arr true false (.sl 1 (mixRow X Y 0) []))], [0]⟩) (by simp [mix_zero, endL])]
  refine K_for (fun i => ⟨asl [(0, .sv (.ref 0 [] 0 a.es.length)), (1, .sv (.v (int ((endL cntP k (a.es.take i) : Nat) : Int)))), (5, .sv (.v (int i)))], asl [(0, .arr true false (.sl 1 (mixRow X Y i) []))], [0]⟩) 0 a.es.length (by omega) (by omega) ?_ ?_
  · intro i _ hi K
    have h2 : i < Y.length := by omega
    have hs := mix_set (Y := Y) hl (hXi i hi)
    have hb : endL cntP k (a.es.take i) + cntP a.es[i] < 4611686018427387904 := by
      rw [← endL_succ cntP hi]
      exact Nat.lt_of_le_of_lt (endL_le cntP) hk
    have hq := hp _ (List.getElem_mem hi)
    rw [endL_succ cntP hi]
    generalize endL cntP k (a.es.take i) = b at hs hb
    have hL := L_markTermS (hand := hand) a.es[i] b hq hb
    have hm : (markP b a.es[i]).es.length = a.es[i].es.length := mTerms_length _ _
    have hs : (mixRow X Y i).set i [C.fl 4 ((markP b a.es[i]).es.map eT) (a.es[i].sp.map eT)] = mixRow X Y (i + 1) := hs
    simp -implicitDefEqProofs [l1_laws_markTermSS, hi, hm, cntP, h2, hn, hYi i hi, mix_at hl, mix_length hl, hL, sub_markP, hs, markP_sp, wrap_suc (show i < 9223372036854775807 by omega)]
  · intro _
    simp -implicitDefEqProofs [l1_laws_markTermSS, hrest]
theorem L_heldTermSS (a : Sys) (k : Nat) (h1 : a.es.length ≤ 1000000) (hp : ∀ p ∈ a.es, p.es.length ≤ 1000000) (hk : endL cntP k a.es < 4611686018427387904) : L (prog hand) n_laws_heldTermSS [arg (cS (markS k a)), argI k] = some (resI ((endL cntP k a.es : Nat) : Int)) := by
  refine L_body (b := b_laws_heldTermSS) rfl rfl a.es.length ?_
  intro fuel hfuel
  have hl : (markS k a).es.length = a.es.length := markL_length _ _ _ _
  have hg : ∀ (i : Nat) (h : i < (markS k a).es.length), (markS k a).es[i] = markP (endL cntP k (a.es.take i)) (a.es[i]'(by rw [← hl]; exact h)) := by
    intro i h
    have := markL_get markP cntP a.es k i (by rw [← hl]; exact h)
    rw [← markS_es, List.getElem?_eq_getElem h] at this
    exact Option.some.inj this
  generalize markS k a = m at hl hg
  simp -implicitDefEqProofs [b_laws_heldTermSS]
  rw [K_start (fr' := ⟨asl [(0, .sv (.c (cS m))), (1, .sv (.v (int ((endL cntP k (a.es.take 0) : Nat) : Int)))), (5, .sv (.v (int (0 : Nat))))], asl [], []⟩) (by simp [endL])]
  refine K_for (fun i => ⟨asl [(0, .sv (.c (cS m))), (1, .sv (.v (int ((endL cntP k (a.es.take i) : Nat) : Int)))), (5, .sv (.v (int i)))], asl [], []⟩) 0 m.es.length (by omega) (by omega) ?_ ?_
  · intro i _ hi K
    have hi' : i < a.es.length := by omega
    have hgi := hg i hi
    have hb : endL cntP k (a.es.take i) + cntP a.es[i] < 4611686018427387904 := by
      rw [← endL_succ cntP hi']
      exact Nat.lt_of_le_of_lt (endL_le cntP) hk
    have hq := hp _ (List.getElem_mem hi')
    rw [endL_succ cntP hi']
    generalize endL cntP k (a.es.take i) = b at hgi hb
    have hL := L_heldTermS (hand := hand) a.es[i] b hq hb
    have hnn : ¬ ((b : Int) + 4 * (a.es[i].es.length : Int) < 0) := by omega
    simp -implicitDefEqProofs [l1_laws_heldTermSS, hi, hgi, hL, cntP, hnn, wrap_suc (show i < 9223372036854775807 by omega)]
  · intro _
    have ht : a.es.take m.es.length = a.es := List.take_of_length_le (by omega)
    simp -implicitDefEqProofs [l1_laws_heldTermSS, ht]
/-! ### Entries -/
def cntE (e : EntryV) : Nat := 1 + (e.system.es.map cntP).sum + 1 + e.box.low.es.length + e.box.high.es.length + 3
theorem mText_size (k : Nat) : (mText k).size ≤ 1 + k := by
  unfold mText
  rw [ByteArray.size_append]
  have h1 := digs_size k ⟨#[]⟩
  have h2 : bM.size = 1 := rfl
  have h3 : (⟨#[]⟩ : ByteArray).size = 0 := rfl
  omega
def mName (k : Nat) : ByteArray := if k < 4611686018427387904 then mText k else ⟨#[]⟩
theorem mName_size (k : Nat) : (mName k).size ≤ 9223372036854775807 := by
  unfold mName
  split
  · have := mText_size k; omega
  · exact Nat.zero_le _
def boxAt (k : Nat) (e : EntryV) : Nat := endL cntP (k + 1) e.system.es
def lastAt (k : Nat) (e : EntryV) : Nat := boxAt k e + 1 + e.box.low.es.length + e.box.high.es.length
def markE (k : Nat) (e : EntryV) : EntryV := ⟨mName k, mName_size k, markS (k + 1) e.system, ⟨boxAt k e, markI (boxAt k e + 1) e.box.low, markI (boxAt k e + 1 + e.box.low.es.length) e.box.high⟩, lastAt k e, (lastAt k e + 1 : Nat), (lastAt k e + 2 : Nat)⟩
theorem cntE_eq (k : Nat) (e : EntryV) : lastAt k e + 3 = k + cntE e := by
  simp only [lastAt, boxAt, cntE, endL]; omega
def markEs (k : Nat) (l : Entries) : Entries := ⟨markL markE cntE k l.es, l.sp, by have := l.ok; rw [markL_length]; exact this⟩
theorem markEs_es (k : Nat) (l : Entries) : (markEs k l).es = markL markE cntE k l.es := rfl
theorem markEs_sp (k : Nat) (l : Entries) : (markEs k l).sp = l.sp := rfl
abbrev wE (l : Entries) : C := .sl 8 (l.es.map eE ++ l.sp.map eE) []
theorem L_markEntryS (a : Entries) (k : Nat) (h0 : 0 < k) (h1 : a.es.length ≤ 1000000) (hp : ∀ e ∈ a.es, SmallE e) (hk : endL cntE k a.es < 4611686018427387904) : L (prog hand) n_laws_markEntryS [own (wE a) a.es.length, argI k] = some (backI (endL cntE k a.es) (wE (markEs k a))) := by
  refine L_body (b := b_laws_markEntryS) rfl rfl a.es.length ?_
  intro fuel hfuel
  obtain ⟨Y, hY⟩ : ∃ Y, Y = a.es.map eE ++ a.sp.map eE := ⟨_, rfl⟩
  obtain ⟨X, hX⟩ : ∃ X, X = (markEs k a).es.map eE ++ (markEs k a).sp.map eE := ⟨_, rfl⟩
  have hl : X.length = Y.length := by rw [hX, hY]; simp [markEs_es, markEs_sp, markL_length]
  have hn : a.es.length ≤ Y.length := by rw [hY]; simp
  have hXi : ∀ i (h : i < a.es.length), X[i]? = some (eE (markE (endL cntE k (a.es.take i)) a.es[i])) := by
    intro i hi
    rw [hX, List.getElem?_append_left (by simpa [markEs_es, markL_length] using hi), List.getElem?_map, markEs_es, markL_get markE cntE _ _ _ hi]
    rfl
  have hYi : ∀ (i : Nat) (h : i < a.es.length), Y[i]'(by omega) = eE a.es[i] := by
    intro i h
    subst hY
    rw [List.getElem_append_left (by simpa using h)]
    simp
  have hrest : mixRow X Y a.es.length = X := by
    unfold mixRow
    rw [hX, hY, List.take_left' (by simp [markEs_es, markL_length]), List.drop_left' (by simp), markEs_sp]
  have e1 : wE a = .sl 8 Y [] := by rw [hY]
  have e2 : wE (markEs k a) = .sl 8 X [] := by rw [hX]
  rw [e1, e2]
  clear e1 e2 hX hY
  simp -implicitDefEqProofs [b_laws_markEntryS]
  rw [K_start (fr' := ⟨asl [(0, .sv (.ref 0 [] 0 a.es.length)), (1, .sv (.v (int ((endL cntE k (a.es.take 0) : Nat) : Int)))), (5, .sv (.v (int (0 : Nat))))], asl [(0, .arr true false (.sl 8 (mixRow X Y 0) []))], [0]⟩) (by simp [mix_zero, endL])]
  refine K_for (fun i => ⟨asl [(0, .sv (.ref 0 [] 0 a.es.length)), (1, .sv (.v (int ((endL cntE k (a.es.take i) : Nat) : Int)))), (5, .sv (.v (int i)))], asl [(0, .arr true false (.sl 8 (mixRow X Y i) []))], [0]⟩) 0 a.es.length (by omega) (by omega) ?_ ?_
  · intro i _ hi K
    have h2 : i < Y.length := by omega
    have hs := mix_set (Y := Y) hl (hXi i hi)
    have hb : endL cntE k (a.es.take i) + cntE a.es[i] < 4611686018427387904 := by
      rw [← endL_succ cntE hi]
      exact Nat.lt_of_le_of_lt (endL_le cntE) hk
    have hb0 : 0 < endL cntE k (a.es.take i) := by unfold endL; omega
    obtain ⟨⟨q1, q2⟩, q3, q4⟩ := hp _ (List.getElem_mem hi)
    rw [endL_succ cntE hi]
    generalize endL cntE k (a.es.take i) = b at hs hb hb0
    have hYe := hYi i hi
    generalize a.es[i] = e at hs hb hYe q1 q2 q3 q4
    have hc := cntE_eq b e
    have hmn : mName b = mText b := by unfold mName; rw [if_pos (by omega)]
    have hx : lastAt b e = boxAt b e + 1 + e.box.low.es.length + e.box.high.es.length := rfl
    have hT := L_markText (hand := hand) b hb0 (by omega)
    have hS := L_markTermSS (hand := hand) e.system (b + 1) q1 q2 (show boxAt b e < _ by omega)
    have hI1 := L_markIntS (hand := hand) e.box.low (boxAt b e + 1) q3 (by omega)
    have hI2 := L_markIntS (hand := hand) e.box.high (boxAt b e + 1 + e.box.low.es.length) q4 (by omega)
    have hS : L (prog hand) n_laws_markTermSS [own (wS e.system) e.system.es.length, argI ((b : Int) + 1)] = some (backI (boxAt b e) (wS (markS (b + 1) e.system))) := hS
    have hI1 : L (prog hand) n_laws_markIntS [own (wI e.box.low) e.box.low.es.length, argI ((boxAt b e : Int) + 1)] = some (backI (boxAt b e + 1 + e.box.low.es.length) (wI (markI (boxAt b e + 1) e.box.low))) := hI1
    have hI2 : L (prog hand) n_laws_markIntS [own (wI e.box.high) e.box.high.es.length, argI ((boxAt b e : Int) + 1 + (e.box.low.es.length : Int))] = some (backI (lastAt b e) (wI (markI (boxAt b e + 1 + e.box.low.es.length) e.box.high))) := hI2
    have hs : (mixRow X Y i).set i [.val (.string (mText b)), .sl 1 ((markS (b + 1) e.system).es.map eP) (e.system.sp.map eP), .val (int (boxAt b e : Nat)), .fl 1 ((markI (boxAt b e + 1) e.box.low).es.map eI) (e.box.low.sp.map eI), .fl 1 ((markI (boxAt b e + 1 + e.box.low.es.length) e.box.high).es.map eI) (e.box.high.sp.map eI), .val (int (lastAt b e : Nat)), .val (int ((lastAt b e : Int) + 1)), .val (int ((lastAt b e : Int) + 2))] = mixRow X Y (i + 1) := by rw [← hmn]; exact hs
    have m1 : (markS (b + 1) e.system).es.length = e.system.es.length := markL_length _ _ _ _
    have m2 : (markI (boxAt b e + 1) e.box.low).es.length = e.box.low.es.length := mInts_length _ _
    have m3 : (markI (boxAt b e + 1 + e.box.low.es.length) e.box.high).es.length = e.box.high.es.length := mInts_length _ _
    have w1 := wrap64 (n := (b : Int) + 1) (by omega) (by omega)
    have w2 := wrap64 (n := (boxAt b e : Int) + 1) (by omega) (by omega)
    have w3 := wrap64 (n := (lastAt b e : Int) + 1) (by omega) (by omega)
    have w4 : IntKind.i64.wrap ((lastAt b e : Int) + 1 + 1) = (lastAt b e : Int) + 2 := by rw [wrap64 (by omega) (by omega)]; omega
    have w5 : IntKind.i64.wrap ((lastAt b e : Int) + 2 + 1) = (lastAt b e : Int) + 3 := by rw [wrap64 (by omega) (by omega)]; omega
    have ha : (b : Int) + (cntE e : Int) = (lastAt b e : Int) + 3 := by omega
    simp -implicitDefEqProofs [l1_laws_markEntryS, hi, h2, hn, hYe, mix_at hl, mix_length hl, hT, hS, hI1, hI2, hs, m1, m2, m3, markS_sp, markI_sp, w1, w2, w3, w4, w5, ha, wrap_suc (show i < 9223372036854775807 by omega)]
  · intro _
    simp -implicitDefEqProofs [l1_laws_markEntryS, hrest]
theorem L_heldEntryS (a : Entries) (k : Nat) (h0 : 0 < k) (h1 : a.es.length ≤ 1000000) (hp : ∀ e ∈ a.es, SmallE e) (hk : endL cntE k a.es < 4611686018427387904) : L (prog hand) n_laws_heldEntryS [arg (cE (markEs k a)), argI k] = some (resI ((endL cntE k a.es : Nat) : Int)) := by
  refine L_body (b := b_laws_heldEntryS) rfl rfl a.es.length ?_
  intro fuel hfuel
  have hl : (markEs k a).es.length = a.es.length := markL_length _ _ _ _
  have hg : ∀ (i : Nat) (h : i < (markEs k a).es.length), (markEs k a).es[i] = markE (endL cntE k (a.es.take i)) (a.es[i]'(by rw [← hl]; exact h)) := by
    intro i h
    have := markL_get markE cntE a.es k i (by rw [← hl]; exact h)
    rw [← markEs_es, List.getElem?_eq_getElem h] at this
    exact Option.some.inj this
  generalize markEs k a = m at hl hg
  simp -implicitDefEqProofs [b_laws_heldEntryS]
  rw [K_start (fr' := ⟨asl [(0, .sv (.c (cE m))), (1, .sv (.v (int ((endL cntE k (a.es.take 0) : Nat) : Int)))), (5, .sv (.v (int (0 : Nat))))], asl [], []⟩) (by simp [endL])]
  refine K_for (fun i => ⟨asl [(0, .sv (.c (cE m))), (1, .sv (.v (int ((endL cntE k (a.es.take i) : Nat) : Int)))), (5, .sv (.v (int i)))], asl [], []⟩) 0 m.es.length (by omega) (by omega) ?_ ?_
  · intro i _ hi K
    have hi' : i < a.es.length := by omega
    have hgi := hg i hi
    have hb : endL cntE k (a.es.take i) + cntE a.es[i] < 4611686018427387904 := by
      rw [← endL_succ cntE hi']
      exact Nat.lt_of_le_of_lt (endL_le cntE) hk
    have hb0 : 0 < endL cntE k (a.es.take i) := by unfold endL; omega
    obtain ⟨⟨q1, q2⟩, q3, q4⟩ := hp _ (List.getElem_mem hi')
    rw [endL_succ cntE hi']
    generalize endL cntE k (a.es.take i) = b at hgi hb hb0
    generalize a.es[i] = e at hgi hb q1 q2 q3 q4
    have hc := cntE_eq b e
    have hmn : mName b = mText b := by unfold mName; rw [if_pos (by omega)]
    have hx : lastAt b e = boxAt b e + 1 + e.box.low.es.length + e.box.high.es.length := rfl
    have hT := L_markText (hand := hand) b hb0 (by omega)
    have hS := L_heldTermSS (hand := hand) e.system (b + 1) q1 q2 (show boxAt b e < _ by omega)
    have hI1 := L_heldIntS (hand := hand) e.box.low (boxAt b e + 1) q3 (by omega)
    have hI2 := L_heldIntS (hand := hand) e.box.high (boxAt b e + 1 + e.box.low.es.length) q4 (by omega)
    have hS : L (prog hand) n_laws_heldTermSS [arg (cS (markS (b + 1) e.system)), argI ((b : Int) + 1)] = some (resI ((boxAt b e : Nat) : Int)) := hS
    have hI1 : L (prog hand) n_laws_heldIntS [arg (cI (markI (boxAt b e + 1) e.box.low)), argI ((boxAt b e : Int) + 1)] = some (resI ((boxAt b e : Int) + 1 + (e.box.low.es.length : Int))) := hI1
    have hI2 : L (prog hand) n_laws_heldIntS [arg (cI (markI (boxAt b e + 1 + e.box.low.es.length) e.box.high)), argI ((boxAt b e : Int) + 1 + (e.box.low.es.length : Int))] = some (resI ((lastAt b e : Nat) : Int)) := hI2
    have g0 : m.es[i].name = mText b := by rw [hgi]; exact hmn
    have g1 : m.es[i].system = markS (b + 1) e.system := by rw [hgi]; rfl
    have g2 : m.es[i].box = ⟨boxAt b e, markI (boxAt b e + 1) e.box.low, markI (boxAt b e + 1 + e.box.low.es.length) e.box.high⟩ := by rw [hgi]; rfl
    have g3 : m.es[i].least = (lastAt b e : Int) := by rw [hgi]; rfl
    have g4 : m.es[i].most = (lastAt b e : Int) + 1 := by rw [hgi]; rfl
    have g5 : m.es[i].version = (lastAt b e : Int) + 2 := by rw [hgi]; rfl
    clear hgi
    have w1 := wrap64 (n := (b : Int) + 1) (by omega) (by omega)
    have w2 := wrap64 (n := (boxAt b e : Int) + 1) (by omega) (by omega)
    have w3 := wrap64 (n := (lastAt b e : Int) + 1) (by omega) (by omega)
    have w4 : IntKind.i64.wrap ((lastAt b e : Int) + 1 + 1) = (lastAt b e : Int) + 2 := by rw [wrap64 (by omega) (by omega)]; omega
    have w5 : IntKind.i64.wrap ((lastAt b e : Int) + 2 + 1) = (lastAt b e : Int) + 3 := by rw [wrap64 (by omega) (by omega)]; omega
    have ha : (b : Int) + (cntE e : Int) = (lastAt b e : Int) + 3 := by omega
    have n1 : ¬ ((boxAt b e : Int) < 0) := by omega
    have n2 : ¬ ((boxAt b e : Int) + 1 + (e.box.low.es.length : Int) < 0) := by omega
    have n3 : ¬ ((lastAt b e : Int) < 0) := by omega
    simp -implicitDefEqProofs [l1_laws_heldEntryS, hi, hT, hS, hI1, hI2, g0, g1, g2, g3, g4, g5, w1, w2, w3, w4, w5, ha, n1, n2, n3, wrap_suc (show i < 9223372036854775807 by omega)]
  · intro _
    have ht : a.es.take m.es.length = a.es := List.take_of_length_le (by omega)
    simp -implicitDefEqProofs [l1_laws_heldEntryS, ht]
end Go.Proofs.YtecmolmlojehgaaGreat.T
namespace Go.Proofs.YtecmolmlojehgaaGreat.T
open Go
variable {hand : Call}
set_option maxHeartbeats 1000000
attribute [-simp] List.getElem_cons_drop List.map_drop
/-- What is left. -/
def less (left : Int) (n : Nat) : Int := if left - n < 0 then -1 else left - n
theorem less_neg {left : Int} {n : Nat} (h : left - n < 0) : less left n = -1 := if_pos h
theorem less_pos {left : Int} {n : Nat} (h : ¬ left - n < 0) : less left n = left - n := if_neg h
theorem less_add {left : Int} {n m : Nat} (h : ¬ left - n < 0) : less (left - n) m = less left (n + m) := by
  by_cases h2 : left - n - m < 0
  · rw [less_neg h2, less_neg (by omega)]
  · rw [less_pos h2, less_pos (by omega)]; omega
def nPoly (p : Poly) : Nat := p.es.length
def nSys (s : Sys) : Nat := s.es.length + (s.es.map nPoly).sum
def nBox (b : BoxV) : Nat := b.low.es.length + b.high.es.length
def nEntry (e : EntryV) : Nat := e.name.size + nSys e.system + nBox e.box
def nEntries (l : Entries) : Nat := l.es.length + (l.es.map nEntry).sum
theorem L_szIntS (a : Ints) (left : Int) (h0 : 0 ≤ left) (h1 : left < 9223372036854775808) : L (prog hand) n_laws_szIntS [arg (cI a), argI left] = some (resI (less left a.es.length)) := by
  have ha := a.ok
  refine L_body (b := b_laws_szIntS) rfl rfl 0 ?_
  intro fuel hfuel
  have hw := wrap64 (n := left - a.es.length) (by omega) (by omega)
  simp [b_laws_szIntS, hw, less]
  split <;> rfl
theorem L_szTermS (a : Poly) (left : Int) (h0 : 0 ≤ left) (h1 : left < 9223372036854775808) : L (prog hand) n_laws_szTermS [arg (cP a), argI left] = some (resI (less left (nPoly a))) := by
  have ha := a.ok
  refine L_body (b := b_laws_szTermS) rfl rfl 0 ?_
  intro fuel hfuel
  have hw := wrap64 (n := left - a.es.length) (by omega) (by omega)
  by_cases hn : left - a.es.length < 0
  · rw [less_neg (by simp only [nPoly]; omega)]
    simp [b_laws_szTermS, hw, hn]
  · rw [less_pos (by simp only [nPoly]; omega)]
    simp [b_laws_szTermS, hw, hn, nPoly]
theorem L_szTermSS (a : Sys) (left : Int) (h0 : 0 ≤ left) (h1 : left < 9223372036854775808) : L (prog hand) n_laws_szTermSS [arg (cS a), argI left] = some (resI (less left (nSys a))) := by
  have ha := a.ok
  refine L_body (b := b_laws_szTermSS) rfl rfl a.es.length ?_
  intro fuel hfuel
  have hw := wrap64 (n := left - a.es.length) (by omega) (by omega)
  simp [b_laws_szTermSS, hw]
  by_cases hneg : left - a.es.length < 0
  · have e : less left (nSys a) = -1 := less_neg (by simp only [nSys]; omega)
    simp [hneg, e]
  · simp [hneg]
    rw [nSys, ← less_add hneg]
    have h2 : 0 ≤ left - a.es.length := by omega
    have h3 : left - a.es.length < 9223372036854775808 := by omega
    generalize left - (a.es.length : Int) = left2 at h2 h3
    refine K_loop (fun (s : Nat × Int) => ⟨asl [(0, .sv (.c (cS a))), (1, .sv (.v (int s.2))), (5, .sv (.v (int s.1)))], asl [], []⟩) (fun s => some (resI (less s.2 ((a.es.drop s.1).map nPoly).sum))) (fun s => a.es.length - s.1) (fun s => s.1 ≤ a.es.length ∧ 0 ≤ s.2 ∧ s.2 < 9223372036854775808) ?_ (0, left2) ⟨by simp, h2, h3⟩ (by simp; omega)
    rintro ⟨i, left⟩ ⟨hi, hl0, hl1⟩ k hk
    simp only at hi hl0 hl1
    by_cases hlt : i < a.es.length
    · simp [l1_laws_szTermSS, hlt, L_szTermS _ left hl0 hl1]
      rw [wrap_succ (by omega), drop_cons hlt, List.map_cons, List.sum_cons]
      by_cases hn : left - (nPoly a.es[i] : Nat) < 0
      · rw [less_neg hn, less_neg (by omega)]
        simp
      · rw [← less_add hn, less_pos hn, if_neg hn]
        exact hk (i + 1, left - (nPoly a.es[i] : Nat)) ⟨by simp; omega, by simp; omega, by simp; omega⟩ (by simp; omega)
    · simp [l1_laws_szTermSS, hlt, drop_end hlt]
      rw [less_pos (by omega)]
      simp
theorem L_szBox (a : BoxV) (left : Int) (h0 : 0 ≤ left) (h1 : left < 9223372036854775808) : L (prog hand) n_laws_szBox [argB a, argI left] = some (resI (less left (nBox a))) := by
  refine L_body (b := b_laws_szBox) rfl rfl 0 ?_
  intro fuel hfuel
  simp [b_laws_szBox, L_szIntS _ left h0 h1]
  by_cases hn : left - a.low.es.length < 0
  · rw [less_neg hn, less_neg (by simp only [nBox]; omega)]
    simp
  · rw [nBox, ← less_add hn, less_pos hn]
    simp [hn, L_szIntS _ (left - a.low.es.length) (by omega) (by omega)]
    by_cases hn2 : less (left - a.low.es.length) a.high.es.length < 0
    · simp [hn2]
      rw [less] at hn2 ⊢
      split at hn2
      · simp [*]
      · omega
    · simp [hn2]
theorem L_szEntry (a : EntryV) (left : Int) (h0 : 0 ≤ left) (h1 : left < 9223372036854775808) : L (prog hand) n_laws_szEntry [argE a, argI left] = some (resI (less left (nEntry a))) := by
  have hk := a.nok
  refine L_body (b := b_laws_szEntry) rfl rfl 0 ?_
  intro fuel hfuel
  have hw := wrap64 (n := left - a.name.size) (by omega) (by omega)
  simp [b_laws_szEntry, hw]
  by_cases hn : left - a.name.size < 0
  · rw [less_neg (by simp only [nEntry]; omega)]
    simp [hn]
  · rw [nEntry, Nat.add_assoc, ← less_add hn]
    have g0 : 0 ≤ left - a.name.size := by omega
    have g1 : left - a.name.size < 9223372036854775808 := by omega
    generalize left - (a.name.size : Int) = left2 at g0 g1 hn
    simp [hn, L_szTermSS _ left2 g0 g1]
    by_cases hn2 : left2 - nSys a.system < 0
    · rw [less_neg hn2, less_neg (by omega)]
      simp
    · rw [← less_add hn2, less_pos hn2]
      simp [hn2, L_szBox _ (left2 - nSys a.system) (by omega) (by omega)]
      by_cases hn3 : less (left2 - nSys a.system) (nBox a.box) < 0
      · simp [hn3]
        rw [less] at hn3 ⊢
        split at hn3
        · simp [*]
        · omega
      · simp [hn3]
theorem L_szEntryS (a : Entries) (left : Int) (h0 : 0 ≤ left) (h1 : left < 9223372036854775808) : L (prog hand) n_laws_szEntryS [arg (cE a), argI left] = some (resI (less left (nEntries a))) := by
  have ha := a.ok
  refine L_body (b := b_laws_szEntryS) rfl rfl a.es.length ?_
  intro fuel hfuel
  have hw := wrap64 (n := left - a.es.length) (by omega) (by omega)
  simp [b_laws_szEntryS, hw]
  by_cases hneg : left - a.es.length < 0
  · have e : less left (nEntries a) = -1 := less_neg (by simp only [nEntries]; omega)
    simp [hneg, e]
  · simp [hneg]
    rw [nEntries, ← less_add hneg]
    have h2 : 0 ≤ left - a.es.length := by omega
    have h3 : left - a.es.length < 9223372036854775808 := by omega
    generalize left - (a.es.length : Int) = left2 at h2 h3
    refine K_loop (fun (s : Nat × Int) => ⟨asl [(0, .sv (.c (cE a))), (1, .sv (.v (int s.2))), (5, .sv (.v (int s.1)))], asl [], []⟩) (fun s => some (resI (less s.2 ((a.es.drop s.1).map nEntry).sum))) (fun s => a.es.length - s.1) (fun s => s.1 ≤ a.es.length ∧ 0 ≤ s.2 ∧ s.2 < 9223372036854775808) ?_ (0, left2) ⟨by simp, h2, h3⟩ (by simp; omega)
    rintro ⟨i, left⟩ ⟨hi, hl0, hl1⟩ k hk
    simp only at hi hl0 hl1
    by_cases hlt : i < a.es.length
    · simp [l1_laws_szEntryS, hlt, L_szEntry _ left hl0 hl1]
      rw [wrap_succ (by omega), drop_cons hlt, List.map_cons, List.sum_cons]
      by_cases hn : left - (nEntry a.es[i] : Nat) < 0
      · rw [less_neg hn, less_neg (by omega)]
        simp
      · rw [← less_add hn, less_pos hn, if_neg hn]
        exact hk (i + 1, left - (nEntry a.es[i] : Nat)) ⟨by simp; omega, by simp; omega, by simp; omega⟩ (by simp; omega)
    · simp [l1_laws_szEntryS, hlt, drop_end hlt]
      rw [less_pos (by omega)]
      simp
end Go.Proofs.YtecmolmlojehgaaGreat.T
