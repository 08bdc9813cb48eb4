/- What is valid: the program's side. What is valid: the program's systems and boxes. What is valid: the program's entries and catalogues. What is valid: the program's entries and catalogues. -/
import Derived.Test.YtkiklfcfdopplaaMI
namespace Go.Proofs.Ytkiklfcfdopplaa.T
open Go
variable {hand : Call}
set_option maxHeartbeats 2000000
attribute [-simp] List.getElem_cons_drop List.map_drop
theorem L_isNaN (n : Int) : L (prog hand) n_cmp_isNaN_int [argI n] = some (resB false) := by
  refine L_body (b := b_cmp_isNaN_int) rfl rfl 0 ?_
  intro fuel _
  simp -implicitDefEqProofs [b_cmp_isNaN_int]
theorem L_cmpCompare (a b : Int) : L (prog hand) n_cmp_Compare_int [argI a, argI b] = some (resI (sgn (a - b))) := by
  refine L_body (b := b_cmp_Compare_int) rfl rfl 0 ?_
  intro fuel _
  by_cases h1 : a < b
  · have e : sgn (a - b) = -1 := by unfold sgn; rw [if_neg (by omega), if_pos (by omega)]
    simp -implicitDefEqProofs [b_cmp_Compare_int, L_isNaN, h1, e]
  · by_cases h2 : b < a
    · have e : sgn (a - b) = 1 := by unfold sgn; rw [if_pos (by omega)]
      simp -implicitDefEqProofs [b_cmp_Compare_int, L_isNaN, h1, h2, e]
    · have e : sgn (a - b) = 0 := by unfold sgn; rw [if_neg (by omega), if_neg (by omega)]
      simp -implicitDefEqProofs [b_cmp_Compare_int, L_isNaN, h1, h2, e]
def orL : List Int → Int
  | [] => 0
  | x :: r => if x ≠ 0 then x else orL r
theorem L_cmpOr (l : List Int) (hl : l.length ≤ 1000000) : L (prog hand) n_cmp_Or_int [arg (.fl 1 (l.map eI) [])] = some (resI (orL l)) := by
  refine L_body (b := b_cmp_Or_int) rfl rfl l.length ?_
  intro fuel hfuel
  simp -implicitDefEqProofs [b_cmp_Or_int]
  refine K_loop (fun (i : Nat) => ⟨asl [(3, .sv (.v (int 0))), (6, .sv (.c (.fl 1 (l.map eI) []))), (7, .sv (.v (int l.length))), (8, .sv (.v (int i)))], asl [], []⟩) (fun i => some (resI (orL (l.drop i)))) (fun i => l.length - i) (fun i => i ≤ l.length) ?_ 0 (by simp) (by omega)
  intro i hi k hk
  by_cases hlt : i < l.length
  · rw [drop_cons hlt]
    by_cases h : l[i] = 0
    · simp -implicitDefEqProofs [l1_cmp_Or_int, hlt, h, orL, wrap_suc (show i < 9223372036854775807 by omega)]
      exact hk (i + 1) (by omega) (by omega)
    · simp -implicitDefEqProofs [l1_cmp_Or_int, hlt, h, orL]
  · rw [drop_end hlt]
    simp -implicitDefEqProofs [l1_cmp_Or_int, hlt, orL]
theorem sgn_zero {n : Int} : sgn n = 0 ↔ n = 0 := by unfold sgn; split <;> (try split) <;> omega
theorem L_compareTerms (a b : TermV) : L (prog hand) n_impl_compareTerms [argT a, argT b] = some (resI (cmp3 a b)) := by
  refine L_body (b := b_impl_compareTerms) rfl rfl 0 ?_
  intro fuel _
  have e : orL [sgn (a.x - b.x), sgn (a.y - b.y), sgn (a.z - b.z)] = cmp3 a b := by
    unfold cmp3
    simp only [orL, ne_eq, sgn_zero, Int.sub_eq_zero]
    repeat' split
    all_goals first | rfl | (symm; rw [sgn_zero]; omega)
  have hO := L_cmpOr (hand := hand) [sgn (a.x - b.x), sgn (a.y - b.y), sgn (a.z - b.z)] (by simp)
  rw [e] at hO
  simp only [List.map_cons, List.map_nil] at hO
  simp -implicitDefEqProofs [b_impl_compareTerms, L_cmpCompare, hO]
theorem L_degree (t : TermV) (hx : inR t.x 0 4 = true) (hy : inR t.y 0 4 = true) (hz : inR t.z 0 4 = true) : L (prog hand) n_impl_Term_degree [argT t] = some (resI (t.x + t.y + t.z)) := by
  refine L_body (b := b_impl_Term_degree) rfl rfl 0 ?_
  intro fuel _
  have a2 := inR_true hx
  have a3 := inR_true hy
  have a4 := inR_true hz
  have w1 := wrap64 (n := t.x + t.y) (by omega) (by omega)
  have w2 := wrap64 (n := t.x + t.y + t.z) (by omega) (by omega)
  simp -implicitDefEqProofs [b_impl_Term_degree, w1, w2]
def degB (t : TermV) : Bool := inR t.x 0 4 && (inR t.y 0 4 && (inR t.z 0 4 && decide (t.x + t.y + t.z ≤ 4)))
theorem L_hasDegree (t : TermV) : L (prog hand) n_impl_hasDegree [argT t] = some (resB (degB t)) := by
  refine L_body (b := b_impl_hasDegree) rfl rfl 0 ?_
  intro fuel _
  cases h2 : inR t.x 0 4
  · simp -implicitDefEqProofs [b_impl_hasDegree, degB, L_inside, h2]
  cases h3 : inR t.y 0 4
  · simp -implicitDefEqProofs [b_impl_hasDegree, degB, L_inside, h2, h3]
  cases h4 : inR t.z 0 4
  · simp -implicitDefEqProofs [b_impl_hasDegree, degB, L_inside, h2, h3, h4]
  have hd := L_degree (hand := hand) t h2 h3 h4
  simp -implicitDefEqProofs [b_impl_hasDegree, degB, L_inside, h2, h3, h4, hd]
theorem termOk_eq (t : TermV) : termOk t = (inR t.c (-1000) 1000 && degB t) := rfl
theorem L_isPoly (p : Poly) : L (prog hand) n_impl_isPoly [arg (cP p)] = some (resB (polyOk p.es)) := by
  have hok := p.ok
  refine L_body (b := b_impl_isPoly) rfl rfl p.es.length ?_
  intro fuel hfuel
  simp -implicitDefEqProofs [b_impl_isPoly]
  refine K_loop (fun (i : Nat) => ⟨asl [(0, .sv (.c (cP p))), (5, .sv (.c (cP p))), (6, .sv (.v (int p.es.length))), (7, .sv (.v (int i)))], asl [], []⟩) (fun i => some (resB (polyGo (prevAt p.es i) (p.es.drop i) && decide (p.es.length ≤ 20)))) (fun i => p.es.length - i) (fun i => i ≤ p.es.length) ?_ 0 (by simp) (by omega)
  intro i hi k hk
  by_cases hlt : i < p.es.length
  · have hk' := hk (i + 1) (by omega) (by omega)
    have hnext : prevAt p.es (i + 1) = some p.es[i] := by simp [prevAt, hlt]
    rw [hnext] at hk'
    rw [drop_cons hlt]
    have hws := wrap_suc (show i < 9223372036854775807 by omega)
    by_cases h2 : p.es[i].c = 0
    · have hg : polyGo (prevAt p.es i) (p.es[i] :: p.es.drop (i + 1)) = false := by cases prevAt p.es i <;> simp [polyGo, h2]
      simp -implicitDefEqProofs [l1_impl_isPoly, hlt, h2, hg]
    cases h1 : inR p.es[i].c (-1000) 1000
    · have hg : polyGo (prevAt p.es i) (p.es[i] :: p.es.drop (i + 1)) = false := by cases prevAt p.es i <;> simp [polyGo, termOk_eq, h1]
      simp -implicitDefEqProofs [l1_impl_isPoly, hlt, h2, L_inside, h1, hg]
    cases h3 : degB p.es[i]
    · have hg : polyGo (prevAt p.es i) (p.es[i] :: p.es.drop (i + 1)) = false := by cases prevAt p.es i <;> simp [polyGo, termOk_eq, h1, h3]
      simp -implicitDefEqProofs [l1_impl_isPoly, hlt, h2, L_inside, L_hasDegree, h1, h3, hg]
    by_cases hi0 : i = 0
    · have hz : ¬ (0 < i) := by omega
      have hp0 : prevAt p.es i = none := by rw [hi0]; rfl
      rw [hp0]
      have hg : polyGo none (p.es[i] :: p.es.drop (i + 1)) = polyGo (some p.es[i]) (p.es.drop (i + 1)) := by simp [polyGo, termOk_eq, h1, h2, h3]
      simp -implicitDefEqProofs [l1_impl_isPoly, hlt, h2, L_inside, L_hasDegree, h1, h3, hg, hz, hws]
      exact hk'
    · have hz : 0 < i := by omega
      have hj : i - 1 < p.es.length := by omega
      have hp0 : prevAt p.es i = some p.es[i - 1] := by
        obtain ⟨j, rfl⟩ : ∃ j, i = j + 1 := ⟨i - 1, by omega⟩
        simp [prevAt, show j < p.es.length by omega]
      rw [hp0]
      have hw := wrap64 (n := (i : Int) - 1) (by omega) (by omega)
      have ht : ((i : Int) - 1).toNat = i - 1 := by omega
      have hb0 : (0 : Int) ≤ (i : Int) - 1 := by omega
      have hb1 : (i : Int) - 1 < (p.es.length : Int) := by omega
      have hb2 : (1 : Int) ≤ (i : Int) := by omega
      have hb3 : 1 ≤ i := by omega
      by_cases h4 : cmp3 p.es[i - 1] p.es[i] < 0
      · have h4' : ¬ (0 ≤ cmp3 p.es[i - 1] p.es[i]) := by omega
        have hg : polyGo (some p.es[i - 1]) (p.es[i] :: p.es.drop (i + 1)) = polyGo (some p.es[i]) (p.es.drop (i + 1)) := by simp [polyGo, termOk_eq, h1, h2, h3, h4]
        simp -implicitDefEqProofs [l1_impl_isPoly, hlt, h2, L_inside, L_hasDegree, L_compareTerms, h1, h3, hg, hz, hj, hw, ht, hb0, hb1, hb2, hb3, h4, h4', hws]
        exact hk'
      · have h4' : 0 ≤ cmp3 p.es[i - 1] p.es[i] := by omega
        have hg : polyGo (some p.es[i - 1]) (p.es[i] :: p.es.drop (i + 1)) = false := by simp [polyGo, h4]
        simp -implicitDefEqProofs [l1_impl_isPoly, hlt, h2, L_inside, L_hasDegree, L_compareTerms, h1, h3, hg, hz, hj, hw, ht, hb0, hb1, hb2, hb3, h4, h4']
  · rw [drop_end hlt]
    have hg : polyGo (prevAt p.es i) [] = true := by cases prevAt p.es i <;> rfl
    have hc : ((p.es.length : Int) ≤ 20) = (p.es.length ≤ 20) := by rw [eq_iff_iff]; omega
    simp -implicitDefEqProofs [l1_impl_isPoly, hlt, hg, hc]
end Go.Proofs.Ytkiklfcfdopplaa.T
namespace Go.Proofs.Ytkiklfcfdopplaa.T
open Go
variable {hand : Call}
set_option maxHeartbeats 2000000
attribute [-simp] List.getElem_cons_drop List.map_drop
theorem L_exponents (t : TermV) : L (prog hand) n_impl_Term_exponents [argT t] = some ⟨[.agg [.mk .imm (.val (int t.x)), .mk .imm (.val (int t.y)), .mk .imm (.val (int t.z))]], []⟩ := by
  refine L_body (b := b_impl_Term_exponents) rfl rfl 0 ?_
  intro fuel _
  simp -implicitDefEqProofs [b_impl_Term_exponents]
def expOk (t : TermV) (n k : Nat) : Bool := !(decide (n ≤ k) && decide (0 < pow t k))
def needs (n : Nat) : List TermV → Bool
  | [] => true
  | t :: r => expOk t n 0 && (expOk t n 1 && (expOk t n 2 && needs n r))
theorem L_needsAtMost (p : Poly) (n : Nat) : L (prog hand) n_impl_needsAtMost [arg (cP p), argI n] = some (resB (needs n p.es)) := by
  have hok := p.ok
  refine L_body (b := b_impl_needsAtMost) rfl rfl (p.es.length + 4) ?_
  intro fuel hfuel
  simp -implicitDefEqProofs [b_impl_needsAtMost]
  refine K_loop (fun (i : Nat) => ⟨asl [(1, .sv (.v (int n))), (9, .sv (.c (cP p))), (10, .sv (.v (int p.es.length))), (11, .sv (.v (int i)))], asl [], []⟩) (fun i => some (resB (needs n (p.es.drop i)))) (fun i => p.es.length - i) (fun i => i ≤ p.es.length) ?_ 0 (by simp) (by omega)
  intro i hi k hk
  by_cases hlt : i < p.es.length
  · rw [drop_cons hlt]
    have hws := wrap_suc (show i < 9223372036854775807 by omega)
    have hgo := hk (i + 1) (by omega) (by omega)
    have w1 : IntKind.i64.wrap 1 = 1 := by decide
    have w2 : IntKind.i64.wrap 2 = 2 := by decide
    have w3 : IntKind.i64.wrap 3 = 3 := by decide
    simp -implicitDefEqProofs [l2_impl_needsAtMost, hlt, L_exponents]
    obtain ⟨G, hG⟩ : ∃ G : Nat → Option Res, G = fun j => some (resB (if j = 0 then expOk p.es[i] n 0 && (expOk p.es[i] n 1 && (expOk p.es[i] n 2 && needs n (p.es.drop (i + 1)))) else if j = 1 then expOk p.es[i] n 1 && (expOk p.es[i] n 2 && needs n (p.es.drop (i + 1))) else if j = 2 then expOk p.es[i] n 2 && needs n (p.es.drop (i + 1)) else needs n (p.es.drop (i + 1)))) := ⟨_, rfl⟩
    have hG3 : G 3 = some (resB (needs n (p.es.drop (i + 1)))) := by rw [hG]; rfl
    have hG0 : G 0 = some (resB (needs n (p.es[i] :: p.es.drop (i + 1)))) := by rw [hG]; rfl
    refine (K_loop (fun (j : Nat) => ⟨asl [(1, .sv (.v (int n))), (9, .sv (.c (cP p))), (10, .sv (.v (int p.es.length))), (11, .sv (.v (int i))), (16, .v (.agg [.c (.val (int p.es[i].x)), .c (.val (int p.es[i].y)), .c (.val (int p.es[i].z))])), (17, .sv (.v (int j)))], asl [], []⟩) G (fun j => 3 - j) (fun j => j ≤ 3) ?_ 0 (by omega) (by omega)).trans ?_
    · intro j hj K2 hK2
      have h4 : j = 0 ∨ j = 1 ∨ j = 2 ∨ j = 3 := by omega
      rcases h4 with rfl | rfl | rfl | rfl
      · have hK := hK2 1 (by omega) (by omega)
        by_cases a1 : n ≤ 0
        · have a1z : (n : Int) ≤ 0 := by omega
          have a1y : n = 0 := by omega
          by_cases a2 : 0 < p.es[i].x
          · have g : G 0 = some (resB false) := by rw [hG]; simp [expOk, pow, a1, a2, a1y]
            rw [g]
            simp -implicitDefEqProofs [l1_impl_needsAtMost, a1, a1z, a2, a1y]
          · have g : G 0 = G 1 := by rw [hG]; simp [expOk, pow, a1, a2]
            rw [g, ← hK]
            simp -implicitDefEqProofs [l1_impl_needsAtMost, a1, a1z, a2, w1, a1y]
        · have a1z : ¬ ((n : Int) ≤ 0) := by omega
          have a1y : ¬ (n = 0) := by omega
          have g : G 0 = G 1 := by rw [hG]; simp [expOk, pow, a1, a1y]
          rw [g, ← hK]
          simp -implicitDefEqProofs [l1_impl_needsAtMost, a1, a1z, w1, a1y]
      · have hK := hK2 2 (by omega) (by omega)
        by_cases a1 : n ≤ 1
        · have a1z : (n : Int) ≤ 1 := by omega
          skip
          by_cases a2 : 0 < p.es[i].y
          · have g : G 1 = some (resB false) := by rw [hG]; simp [expOk, pow, a1, a2]
            rw [g]
            simp -implicitDefEqProofs [l1_impl_needsAtMost, a1, a1z, a2]
          · have g : G 1 = G 2 := by rw [hG]; simp [expOk, pow, a1, a2]
            rw [g, ← hK]
            simp -implicitDefEqProofs [l1_impl_needsAtMost, a1, a1z, a2, w2]
        · have a1z : ¬ ((n : Int) ≤ 1) := by omega
          skip
          have g : G 1 = G 2 := by rw [hG]; simp [expOk, pow, a1]
          rw [g, ← hK]
          simp -implicitDefEqProofs [l1_impl_needsAtMost, a1, a1z, w2]
      · have hK := hK2 3 (by omega) (by omega)
        by_cases a1 : n ≤ 2
        · have a1z : (n : Int) ≤ 2 := by omega
          skip
          by_cases a2 : 0 < p.es[i].z
          · have g : G 2 = some (resB false) := by rw [hG]; simp [expOk, pow, a1, a2]
            rw [g]
            simp -implicitDefEqProofs [l1_impl_needsAtMost, a1, a1z, a2]
          · have g : G 2 = G 3 := by rw [hG]; simp [expOk, pow, a1, a2]
            rw [g, ← hK]
            simp -implicitDefEqProofs [l1_impl_needsAtMost, a1, a1z, a2, w3]
        · have a1z : ¬ ((n : Int) ≤ 2) := by omega
          skip
          have g : G 2 = G 3 := by rw [hG]; simp [expOk, pow, a1]
          rw [g, ← hK]
          simp -implicitDefEqProofs [l1_impl_needsAtMost, a1, a1z, w3]
      · rw [hG3, ← hgo]
        simp -implicitDefEqProofs [l1_impl_needsAtMost, hws]
    · exact hG0
  · rw [drop_end hlt]
    simp -implicitDefEqProofs [l2_impl_needsAtMost, hlt, needs]
end Go.Proofs.Ytkiklfcfdopplaa.T
namespace Go.Proofs.Ytkiklfcfdopplaa.T
open Go
variable {hand : Call}
set_option maxHeartbeats 2000000
attribute [-simp] List.getElem_cons_drop List.map_drop
theorem allUp_iff {f : Nat → Bool} : ∀ {m i : Nat}, allUp f i m = true ↔ ∀ k, i ≤ k → k < i + m → f k = true
  | 0, i => by simp only [allUp, true_iff]; intro k h1 h2; omega
  | m + 1, i => by
    simp only [allUp, Bool.and_eq_true, allUp_iff (m := m)]
    constructor
    · rintro ⟨h1, h2⟩ k hk hk2
      by_cases e : k = i
      · subst e; exact h1
      · exact h2 k (by omega) (by omega)
    · intro h
      exact ⟨h i (by omega) (by omega), fun k h1 h2 => h k (by omega) (by omega)⟩
theorem degGo_pos {k : Nat} : ∀ {p : List TermV} {m : Int}, 0 < degGo k m p ↔ 0 < m ∨ ∃ t ∈ p, 0 < pow t k
  | [], m => by simp [degGo]
  | t :: r, m => by
    rw [degGo, degGo_pos (p := r)]
    constructor
    · rintro (h | ⟨t', h1, h2⟩)
      · by_cases hm : 0 < m
        · exact Or.inl hm
        · exact Or.inr ⟨t, by simp, by omega⟩
      · exact Or.inr ⟨t', by simp [h1], h2⟩
    · rintro (h | ⟨t', h1, h2⟩)
      · exact Or.inl (by omega)
      · simp only [List.mem_cons] at h1
        rcases h1 with rfl | h1
        · exact Or.inl (by omega)
        · exact Or.inr ⟨t', h1, h2⟩
theorem needs_iff {n : Nat} : ∀ {p : List TermV}, needs n p = true ↔ ∀ t ∈ p, ∀ k, k < 3 → n ≤ k → ¬ 0 < pow t k
  | [] => by simp [needs]
  | t :: r => by
    simp only [needs, Bool.and_eq_true, needs_iff (p := r), List.mem_cons]
    have ex : ∀ k, expOk t n k = true ↔ (n ≤ k → ¬ 0 < pow t k) := by
      intro k
      simp only [expOk, Bool.not_eq_true', Bool.and_eq_false_iff, decide_eq_false_iff_not]
      constructor
      · rintro (h | h) h2
        · exact absurd h2 h
        · exact h
      · intro h
        by_cases h2 : n ≤ k
        · exact Or.inr (h h2)
        · exact Or.inl h2
    simp only [ex]
    constructor
    · rintro ⟨h0, h1, h2, h3⟩ t' (rfl | ht) k hk hn
      · have : k = 0 ∨ k = 1 ∨ k = 2 := by omega
        rcases this with rfl | rfl | rfl
        · exact h0 hn
        · exact h1 hn
        · exact h2 hn
      · exact h3 t' ht k hk hn
    · intro h
      exact ⟨h t (Or.inl rfl) 0 (by omega), h t (Or.inl rfl) 1 (by omega), h t (Or.inl rfl) 2 (by omega), fun t' ht => h t' (Or.inr ht)⟩
theorem needs_deg (n : Nat) (p : List TermV) : needs n p = degOk p n := by
  rw [Bool.eq_iff_iff, needs_iff, degOk, allUp_iff]
  constructor
  · intro h k h1 h2
    simp only [Bool.not_eq_true', decide_eq_false_iff_not, degGo_pos, not_or, not_exists, not_and]
    exact ⟨by omega, fun t ht => h t ht k (by omega) h1⟩
  · intro h t ht k h1 h2
    have := h k h2 (by omega)
    simp only [Bool.not_eq_true', decide_eq_false_iff_not, degGo_pos, not_or, not_exists, not_and] at this
    exact this.2 t ht
theorem L_isSystem (s : Sys) : L (prog hand) n_impl_isSystem [arg (cS s)] = some (resB (sysOk (pS s))) := by
  have hok := s.ok
  have hlen : (pS s).length = s.es.length := by simp [pS]
  refine L_body (b := b_impl_isSystem) rfl rfl s.es.length ?_
  intro fuel hfuel
  rw [sysOk, hlen]
  simp -implicitDefEqProofs [b_impl_isSystem]
  refine K_loop (fun (i : Nat) => ⟨asl [(0, .sv (.c (cS s))), (5, .sv (.c (cS s))), (6, .sv (.v (int s.es.length))), (7, .sv (.v (int i)))], asl [], []⟩) (fun i => some (resB (sysGo s.es.length ((pS s).drop i) && inR s.es.length 1 3))) (fun i => s.es.length - i) (fun i => i ≤ s.es.length) ?_ 0 (by simp) (by omega)
  intro i hi K hK
  by_cases hlt : i < s.es.length
  · have hd : (pS s).drop i = s.es[i].es :: (pS s).drop (i + 1) := by
      rw [drop_cons (by rw [hlen]; exact hlt)]
      simp [pS]
    rw [hd]
    cases h1 : polyOk s.es[i].es
    · simp -implicitDefEqProofs [l1_impl_isSystem, hlt, L_isPoly, h1, sysGo]
    · cases h2 : degOk s.es[i].es s.es.length
      · simp -implicitDefEqProofs [l1_impl_isSystem, hlt, L_isPoly, L_needsAtMost, needs_deg, h1, h2, sysGo]
      · simp -implicitDefEqProofs [l1_impl_isSystem, hlt, L_isPoly, L_needsAtMost, needs_deg, h1, h2, sysGo, wrap_suc (show i < 9223372036854775807 by omega)]
        exact hK (i + 1) (by omega) (by omega)
  · have hd : (pS s).drop i = [] := drop_end (by rw [hlen]; exact hlt)
    rw [hd]
    simp -implicitDefEqProofs [l1_impl_isSystem, hlt, sysGo, L_inside]
theorem inR_next {x y M : Int} (h : inR x (-M) M = true) : (inR y (-M) M && decide (x < y)) = inR y (x + 1) M := by
  have hx := inR_true h
  rw [Bool.eq_iff_iff]
  simp only [inR, Bool.and_eq_true, decide_eq_true_eq]
  constructor
  · rintro ⟨⟨h1, h2⟩, h3⟩; exact ⟨by omega, h2⟩
  · rintro ⟨h1, h2⟩; exact ⟨⟨by omega, h2⟩, by omega⟩
abbrev argPE (e : EntryV) (off : Nat) : Arg := .imm (.s (.pm (eE e) off))
theorem L_isBox (e : EntryV) : L (prog hand) n_impl_isBox [argPE e 2] = some (resB (boxOk (pB e.box))) := by
  have hok := e.box.low.ok
  refine L_body (b := b_impl_isBox) rfl rfl e.box.low.es.length ?_
  intro fuel hfuel
  cases h1 : inR e.box.k 0 8
  · simp -implicitDefEqProofs [b_impl_isBox, boxOk, pB, L_inside, h1]
  cases h2 : inR e.box.low.es.length 1 3
  · simp -implicitDefEqProofs [b_impl_isBox, boxOk, pB, L_inside, h1, h2]
  by_cases h3 : ¬ (e.box.high.es.length = e.box.low.es.length)
  · simp -implicitDefEqProofs [b_impl_isBox, boxOk, pB, L_inside, h1, h2, h3]
  have h3 : e.box.high.es.length = e.box.low.es.length := Decidable.not_not.1 h3
  have hk := inR_true h1
  obtain ⟨n, hn⟩ : ∃ n : Nat, e.box.k = n := ⟨e.box.k.toNat, by omega⟩
  have hn8 : n ≤ 8 := by omega
  obtain ⟨p1, p2⟩ := pow_le hn8
  have h8 : n = 0 ∨ n = 1 ∨ n = 2 ∨ n = 3 ∨ n = 4 ∨ n = 5 ∨ n = 6 ∨ n = 7 ∨ n = 8 := by omega
  have hw : IntKind.i64.wrap (8 * 2 ^ min n IntKind.i64.bits) = 8 * 2 ^ n := by rcases h8 with rfl | rfl | rfl | rfl | rfl | rfl | rfl | rfl | rfl <;> decide
  have hnn : ¬ ((n : Int) < 0) := by omega
  have hbo : boxOk (pB e.box) = sidesGo (8 * 2 ^ n) (decide (n = 0)) e.box.low.es e.box.high.es := by
    have h0 : ((n : Int) = 0) = (n = 0) := by rw [eq_iff_iff]; omega
    simp [boxOk, pB, h1, h2, h3, hn]
    rw [hn] at h1
    simp [h1]
  rw [hbo]
  rw [hn] at h1
  simp -implicitDefEqProofs [b_impl_isBox, L_inside, h1, h2, h3, hn, hw, hnn]
  have hz : ((n : Int) == 0) = decide (n = 0) := by rw [Bool.eq_iff_iff]; simp
  rw [hz]
  have hM : ∃ M : Int, M = 8 * 2 ^ n := ⟨_, rfl⟩
  obtain ⟨M, hM⟩ := hM
  rw [← hM]
  have m1 : 8 ≤ M := by omega
  have m2 : M ≤ 2048 := by omega
  clear hbo hM hw hz
  generalize decide (n = 0) = odd0
  refine K_loop (fun (s : Nat × Bool) => ⟨asl [(0, .sv (.pm (eE e) 2)), (3, .sv (.v (int M))), (4, .sv (.v (.bool s.2))), (48, .sv (.c (cI e.box.low))), (49, .sv (.v (int e.box.low.es.length))), (50, .sv (.v (int s.1)))], asl [], []⟩) (fun s => some (resB (sidesGo M s.2 (e.box.low.es.drop s.1) (e.box.high.es.drop s.1)))) (fun s => e.box.low.es.length - s.1) (fun s => s.1 ≤ e.box.low.es.length) ?_ (0, odd0) (by simp) (by simpa using hfuel)
  rintro ⟨i, odd⟩ hi K hK
  simp only at hi
  have hneg : IntKind.i64.wrap (-M) = -M := wrap64 (by omega) (by omega)
  by_cases hlt : i < e.box.low.es.length
  · have hlt2 : i < e.box.high.es.length := by omega
    have hws := wrap_suc (show i < 9223372036854775807 by omega)
    rw [drop_cons hlt, drop_cons hlt2]
    cases c1 : inR e.box.low.es[i] (-M) M
    · simp -implicitDefEqProofs [l1_impl_isBox, hlt, hlt2, L_inside, hneg, c1, sidesGo]
    have hx := inR_true c1
    have hw1 : IntKind.i64.wrap (e.box.low.es[i] + 1) = e.box.low.es[i] + 1 := wrap64 (by omega) (by omega)
    have hgo := hK (i + 1, odd || (par e.box.low.es[i] || par e.box.high.es[i])) (by simp; omega) (by simp; omega)
    have hs : sidesGo M odd (e.box.low.es[i] :: e.box.low.es.drop (i + 1)) (e.box.high.es[i] :: e.box.high.es.drop (i + 1)) = (inR e.box.high.es[i] (e.box.low.es[i] + 1) M && sidesGo M (odd || (par e.box.low.es[i] || par e.box.high.es[i])) (e.box.low.es.drop (i + 1)) (e.box.high.es.drop (i + 1))) := by
      rw [sidesGo, c1, Bool.true_and, ← inR_next c1, Bool.and_assoc]
    rw [hs]
    cases c2 : inR e.box.high.es[i] (e.box.low.es[i] + 1) M
    · simp -implicitDefEqProofs [l1_impl_isBox, hlt, hlt2, L_inside, hneg, c1, c2, hw1]
    rw [Bool.true_and, ← hgo]
    cases odd
    · cases q1 : par e.box.low.es[i]
      · cases q2 : par e.box.high.es[i]
        · simp only [par] at q1 q2
          simp -implicitDefEqProofs [l1_impl_isBox, hlt, hlt2, L_inside, hneg, c1, c2, hw1, hws, q1, q2]
        · simp only [par] at q1 q2
          simp -implicitDefEqProofs [l1_impl_isBox, hlt, hlt2, L_inside, hneg, c1, c2, hw1, hws, q1, q2]
      · simp only [par] at q1
        simp -implicitDefEqProofs [l1_impl_isBox, hlt, hlt2, L_inside, hneg, c1, c2, hw1, hws, q1]
    · simp -implicitDefEqProofs [l1_impl_isBox, hlt, hlt2, L_inside, hneg, c1, c2, hw1, hws]
  · have hlt2 : ¬ i < e.box.high.es.length := by omega
    rw [drop_end hlt, drop_end hlt2]
    simp -implicitDefEqProofs [l1_impl_isBox, hlt, sidesGo]
end Go.Proofs.Ytkiklfcfdopplaa.T
namespace Go.Proofs.Ytkiklfcfdopplaa.T
open Go
variable {hand : Call}
set_option maxHeartbeats 2000000
attribute [-simp] List.getElem_cons_drop List.map_drop
theorem L_systemOver (e : EntryV) : L (prog hand) n_impl_systemOver [arg (cS e.system), argPE e 2] = some (resB (bothOk (pS e.system) (pB e.box))) := by
  refine L_body (b := b_impl_systemOver) rfl rfl 0 ?_
  intro fuel _
  have e1 : (pS e.system).length = e.system.es.length := by simp [pS]
  have e2 : (pB e.box).low.length = e.box.low.es.length := rfl
  rw [bothOk, e1, e2]
  cases h1 : sysOk (pS e.system)
  · simp -implicitDefEqProofs [b_impl_systemOver, L_isSystem, h1]
  cases h2 : boxOk (pB e.box)
  · simp -implicitDefEqProofs [b_impl_systemOver, L_isSystem, L_isBox, h1, h2]
  simp -implicitDefEqProofs [b_impl_systemOver, L_isSystem, L_isBox, h1, h2]
  by_cases h3 : e.system.es.length = e.box.low.es.length <;> simp [h3]
theorem L_isEntry (e : EntryV) : L (prog hand) n_impl_isEntry [argPE e 0] = some (resB (entryOk (qE e))) := by
  have hs := e.nok
  refine L_body (b := b_impl_isEntry) rfl rfl e.name.size ?_
  intro fuel hfuel
  have e0 : entryOk (qE e) = (allUp (byteOk e.name) 0 (e.name.size - 0) && (inR e.name.size 1 8 && (bothOk (pS e.system) (pB e.box) && (inR e.most 0 64 && (inR e.least 0 e.most && inR e.version 1 999))))) := by
    rw [entryOk, nameOk, Bool.and_assoc]; rfl
  rw [e0]
  simp -implicitDefEqProofs [b_impl_isEntry]
  refine (K_loop (fun (i : Nat) => ⟨asl [(0, .sv (.pm (eE e) 0)), (8, .sv (.v (int e.name.size))), (9, .sv (.v (int i)))], asl [], []⟩) (fun i => some (resB (allUp (byteOk e.name) i (e.name.size - i) && (inR e.name.size 1 8 && (bothOk (pS e.system) (pB e.box) && (inR e.most 0 64 && (inR e.least 0 e.most && inR e.version 1 999))))))) (fun i => e.name.size - i) (fun i => i ≤ e.name.size) ?_ 0 (by simp) (by omega)).trans (by simp)
  intro i hi k hk
  by_cases hlt : i < e.name.size
  · rw [allUp_step hlt]
    have hb : e.name[i]? = some e.name[i] := by simp [hlt]
    have hbo : byteOk e.name i = (decide (97 ≤ e.name[i].toNat) && decide (e.name[i].toNat ≤ 122)) := by unfold byteOk; rw [hb]
    rw [hbo]
    by_cases h1 : 97 ≤ e.name[i].toNat
    · have h1' : ¬ ((e.name[i].toNat : Int) < 97) := by omega
      have h1z : (97 : Int) ≤ e.name[i].toNat := by omega
      by_cases h2 : e.name[i].toNat ≤ 122
      · have h2' : ¬ ((122 : Int) < e.name[i].toNat) := by omega
        have h2z : (e.name[i].toNat : Int) ≤ 122 := by omega
        have hgo := hk (i + 1) (by omega) (by omega)
        rw [decide_eq_true h1, decide_eq_true h2]
        simp only [Bool.true_and]
        rw [← hgo]
        simp -implicitDefEqProofs [l1_impl_isEntry, hlt, h1, h1', h1z, h2, h2', h2z, wrap_suc (show i < 9223372036854775807 by omega)]
      · have h2' : ((122 : Int) < e.name[i].toNat) := by omega
        rw [decide_eq_false h2]
        simp only [Bool.and_false, Bool.false_and]
        simp -implicitDefEqProofs [l1_impl_isEntry, hlt, h1, h1', h1z, h2, h2']
    · have h1' : ((e.name[i].toNat : Int) < 97) := by omega
      rw [decide_eq_false h1]
      simp only [Bool.false_and]
      simp -implicitDefEqProofs [l1_impl_isEntry, hlt, h1, h1']
  · rw [allUp_end hlt, Bool.true_and]
    cases c1 : inR e.name.size 1 8
    · simp -implicitDefEqProofs [l1_impl_isEntry, hlt, L_inside, c1]
    cases c2 : bothOk (pS e.system) (pB e.box)
    · simp -implicitDefEqProofs [l1_impl_isEntry, hlt, L_inside, L_systemOver, c1, c2]
    cases c3 : inR e.least 0 e.most
    · simp -implicitDefEqProofs [l1_impl_isEntry, hlt, L_inside, L_systemOver, c1, c2, c3]
    have hl := inR_true c3
    by_cases c4 : e.most ≤ 64
    · have c4' : inR e.most 0 64 = true := by simp [inR, c4]; omega
      simp -implicitDefEqProofs [l1_impl_isEntry, hlt, L_inside, L_systemOver, c1, c2, c3, c4, c4']
    · have c4' : inR e.most 0 64 = false := by simp [inR, c4]
      simp -implicitDefEqProofs [l1_impl_isEntry, hlt, L_inside, L_systemOver, c1, c2, c3, c4, c4']
theorem L_isCatalogue (l : Entries) : L (prog hand) n_impl_isCatalogue [arg (cE l)] = some (resB (catOk (qL l))) := by
  have hok := l.ok
  have hlen : (qL l).length = l.es.length := by simp [qL]
  refine L_body (b := b_impl_isCatalogue) rfl rfl l.es.length ?_
  intro fuel hfuel
  rw [catOk, hlen]
  simp -implicitDefEqProofs [b_impl_isCatalogue]
  refine K_loop (fun (i : Nat) => ⟨asl [(0, .sv (.c (cE l))), (5, .sv (.v (int l.es.length))), (6, .sv (.v (int i)))], asl [], []⟩) (fun i => some (resB (catGo (nameAt l i) ((qL l).drop i) && decide (l.es.length ≤ 10)))) (fun i => l.es.length - i) (fun i => i ≤ l.es.length) ?_ 0 (by simp) (by omega)
  intro i hi k hk
  by_cases hlt : i < l.es.length
  · have hk' := hk (i + 1) (by omega) (by omega)
    have hnext : nameAt l (i + 1) = some l.es[i].name := by simp [nameAt, hlt]
    have hd : (qL l).drop i = qE l.es[i] :: (qL l).drop (i + 1) := by
      rw [drop_cons (by rw [hlen]; exact hlt)]
      simp [qL]
    rw [hnext] at hk'
    rw [hd]
    have hqn : (qE l.es[i]).name = l.es[i].name := rfl
    have hws := wrap_suc (show i < 9223372036854775807 by omega)
    by_cases hi0 : i = 0
    · have hz : ¬ (0 < i) := by omega
      have hp0 : nameAt l i = none := by rw [hi0]; rfl
      rw [hp0]
      cases h1 : entryOk (qE l.es[i])
      · simp -implicitDefEqProofs [l1_impl_isCatalogue, hlt, L_isEntry, h1, catGo]
      · simp -implicitDefEqProofs [l1_impl_isCatalogue, hlt, L_isEntry, h1, catGo, hz, hws]
        exact hk'
    · have hz : 0 < i := by omega
      have hj : i - 1 < l.es.length := by omega
      have hp0 : nameAt l i = some l.es[i - 1].name := by
        obtain ⟨j, rfl⟩ : ∃ j, i = j + 1 := ⟨i - 1, by omega⟩
        simp [nameAt, show j < l.es.length by omega]
      rw [hp0]
      have hw := wrap64 (n := (i : Int) - 1) (by omega) (by omega)
      have ht : ((i : Int) - 1).toNat = i - 1 := by omega
      have hb0 : (0 : Int) ≤ (i : Int) - 1 := by omega
      have hb1 : (i : Int) - 1 < (l.es.length : Int) := by omega
      have hb2 : (1 : Int) ≤ (i : Int) := by omega
      have hb3 : 1 ≤ i := by omega
      cases h1 : entryOk (qE l.es[i])
      · simp -implicitDefEqProofs [l1_impl_isCatalogue, hlt, L_isEntry, h1, catGo]
      · cases h3 : lessN l.es[i - 1].name l.es[i].name
        · have h3' : Op.bytesLess l.es[i - 1].name.toList l.es[i].name.toList = false := h3
          simp -implicitDefEqProofs [l1_impl_isCatalogue, hlt, L_isEntry, h1, catGo, hw, hz, hj, ht, hb0, hb1, hb2, hb3, hqn, h3, h3', hws]
        · have h3' : Op.bytesLess l.es[i - 1].name.toList l.es[i].name.toList = true := h3
          simp -implicitDefEqProofs [l1_impl_isCatalogue, hlt, L_isEntry, h1, catGo, hw, hz, hj, ht, hb0, hb1, hb2, hb3, hqn, h3, h3', hws]
          exact hk'
  · have hd : (qL l).drop i = [] := drop_end (by rw [hlen]; exact hlt)
    rw [hd]
    have hg : catGo (nameAt l i) [] = true := by cases nameAt l i <;> rfl
    have hc : ((l.es.length : Int) ≤ 10) = (l.es.length ≤ 10) := by rw [eq_iff_iff]; omega
    simp -implicitDefEqProofs [l1_impl_isCatalogue, hlt, hg, hc]
end Go.Proofs.Ytkiklfcfdopplaa.T
