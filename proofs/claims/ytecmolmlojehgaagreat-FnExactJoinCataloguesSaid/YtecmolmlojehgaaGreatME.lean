/- How much the arguments hold. Facts for the laws. Equal lists, as the reference and the program ask. Boxes that are the same, as the program asks: with a common scale. Entries that are put among others; entries that meet. Catalogues, joined: the reference. Catalogues, joined: the program. Catalogues, joined: both ways come to the same. A catalogue and its copies. The law of joined catalogues, of the abstract executor. -/
import Derived.Test.YtecmolmlojehgaaGreatMC
import Derived.Test.YtecmolmlojehgaaGreatMD
namespace Go.Proofs.YtecmolmlojehgaaGreat.T
open Go
variable {hand : Call}
set_option maxHeartbeats 1000000
attribute [-simp] List.getElem_cons_drop List.map_drop
/-- What is left. -/
def less (left : Int) (n : Nat) : Int := if left - n < 0 then -1 else left - n
theorem less_neg {left : Int} {n : Nat} (h : left - n < 0) : less left n = -1 := if_pos h
theorem less_pos {left : Int} {n : Nat} (h : ¬ left - n < 0) : less left n = left - n := if_neg h
theorem less_add {left : Int} {n m : Nat} (h : ¬ left - n < 0) : less (left - n) m = less left (n + m) := by
  by_cases h2 : left - n - m < 0
  · rw [less_neg h2, less_neg (by omega)]
  · rw [less_pos h2, less_pos (by omega)]; omega
def nPoly (p : Poly) : Nat := p.es.length
def nSys (s : Sys) : Nat := s.es.length + (s.es.map nPoly).sum
def nBox (b : BoxV) : Nat := b.low.es.length + b.high.es.length
def nEntry (e : EntryV) : Nat := e.name.size + nSys e.system + nBox e.box
def nEntries (l : Entries) : Nat := l.es.length + (l.es.map nEntry).sum
theorem L_szIntS (a : Ints) (left : Int) (h0 : 0 ≤ left) (h1 : left < 9223372036854775808) : L (prog hand) n_laws_szIntS [arg (cI a), argI left] = some (resI (less left a.es.length)) := by
  have ha := a.ok
  refine L_body (b := b_laws_szIntS) rfl rfl 0 ?_
  intro fuel hfuel
  have hw := wrap64 (n := left - a.es.length) (by omega) (by omega)
  simp [b_laws_szIntS, hw, less]
  split <;> rfl
theorem L_szTermS (a : Poly) (left : Int) (h0 : 0 ≤ left) (h1 : left < 9223372036854775808) : L (prog hand) n_laws_szTermS [arg (cP a), argI left] = some (resI (less left (nPoly a))) := by
  have ha := a.ok
  refine L_body (b := b_laws_szTermS) rfl rfl 0 ?_
  intro fuel hfuel
  have hw := wrap64 (n := left - a.es.length) (by omega) (by omega)
  by_cases hn : left - a.es.length < 0
  · rw [less_neg (by simp only [nPoly]; omega)]
    simp [b_laws_szTermS, hw, hn]
  · rw [less_pos (by simp only [nPoly]; omega)]
    simp [b_laws_szTermS, hw, hn, nPoly]
theorem L_szTermSS (a : Sys) (left : Int) (h0 : 0 ≤ left) (h1 : left < 9223372036854775808) : L (prog hand) n_laws_szTermSS [arg (cS a), argI left] = some (resI (less left (nSys a))) := by
  have ha := a.ok
  refine L_body (b := b_laws_szTermSS) rfl rfl a.es.length ?_
  intro fuel hfuel
  have hw := wrap64 (n := left - a.es.length) (by omega) (by omega)
  simp [b_laws_szTermSS, hw]
  by_cases hneg : left - a.es.length < 0
  · have e : less left (nSys a) = -1 := less_neg (by simp only [nSys]; omega)
    simp [hneg, e]
  · simp [hneg]
    rw [nSys, ← less_add hneg]
    have h2 : 0 ≤ left - a.es.length := by omega
    have h3 : left - a.es.length < 9223372036854775808 := by omega
    generalize left - (a.es.length : Int) = left2 at h2 h3
    refine K_loop (fun (s : Nat × Int) => ⟨asl [(0, .sv (.c (cS a))), (1, .sv (.v (int s.2))), (5, .sv (.v (int s.1)))], asl [], []⟩) (fun s => some (resI (less s.2 ((a.es.drop s.1).map nPoly).sum))) (fun s => a.es.length - s.1) (fun s => s.1 ≤ a.es.length ∧ 0 ≤ s.2 ∧ s.2 < 9223372036854775808) ?_ (0, left2) ⟨by simp, h2, h3⟩ (by simp; omega)
    rintro ⟨i, left⟩ ⟨hi, hl0, hl1⟩ k hk
    simp only at hi hl0 hl1
    by_cases hlt : i < a.es.length
    · simp [l1_laws_szTermSS, hlt, L_szTermS _ left hl0 hl1]
      rw [wrap_succ (by omega), drop_cons hlt, List.map_cons, List.sum_cons]
      by_cases hn : left - (nPoly a.es[i] : Nat) < 0
      · rw [less_neg hn, less_neg (by omega)]
        simp
      · rw [← less_add hn, less_pos hn, if_neg hn]
        exact hk (i + 1, left - (nPoly a.es[i] : Nat)) ⟨by simp; omega, by simp; omega, by simp; omega⟩ (by simp; omega)
    · simp [l1_laws_szTermSS, hlt, drop_end hlt]
      rw [less_pos (by omega)]
      simp
theorem L_szBox (a : BoxV) (left : Int) (h0 : 0 ≤ left) (h1 : left < 9223372036854775808) : L (prog hand) n_laws_szBox [argB a, argI left] = some (resI (less left (nBox a))) := by
  refine L_body (b := b_laws_szBox) rfl rfl 0 ?_
  intro fuel hfuel
  simp [b_laws_szBox, L_szIntS _ left h0 h1]
  by_cases hn : left - a.low.es.length < 0
  · rw [less_neg hn, less_neg (by simp only [nBox]; omega)]
    simp
  · rw [nBox, ← less_add hn, less_pos hn]
    simp [hn, L_szIntS _ (left - a.low.es.length) (by omega) (by omega)]
    by_cases hn2 : less (left - a.low.es.length) a.high.es.length < 0
    · simp [hn2]
      rw [less] at hn2 ⊢
      split at hn2
      · simp [*]
      · omega
    · simp [hn2]
theorem L_szEntry (a : EntryV) (left : Int) (h0 : 0 ≤ left) (h1 : left < 9223372036854775808) : L (prog hand) n_laws_szEntry [argE a, argI left] = some (resI (less left (nEntry a))) := by
  have hk := a.nok
  refine L_body (b := b_laws_szEntry) rfl rfl 0 ?_
  intro fuel hfuel
  have hw := wrap64 (n := left - a.name.size) (by omega) (by omega)
  simp [b_laws_szEntry, hw]
  by_cases hn : left - a.name.size < 0
  · rw [less_neg (by simp only [nEntry]; omega)]
    simp [hn]
  · rw [nEntry, Nat.add_assoc, ← less_add hn]
    have g0 : 0 ≤ left - a.name.size := by omega
    have g1 : left - a.name.size < 9223372036854775808 := by omega
    generalize left - (a.name.size : Int) = left2 at g0 g1 hn
    simp [hn, L_szTermSS _ left2 g0 g1]
    by_cases hn2 : left2 - nSys a.system < 0
    · rw [less_neg hn2, less_neg (by omega)]
      simp
    · rw [← less_add hn2, less_pos hn2]
      simp [hn2, L_szBox _ (left2 - nSys a.system) (by omega) (by omega)]
      by_cases hn3 : less (left2 - nSys a.system) (nBox a.box) < 0
      · simp [hn3]
        rw [less] at hn3 ⊢
        split at hn3
        · simp [*]
        · omega
      · simp [hn3]
theorem L_szEntryS (a : Entries) (left : Int) (h0 : 0 ≤ left) (h1 : left < 9223372036854775808) : L (prog hand) n_laws_szEntryS [arg (cE a), argI left] = some (resI (less left (nEntries a))) := by
  have ha := a.ok
  refine L_body (b := b_laws_szEntryS) rfl rfl a.es.length ?_
  intro fuel hfuel
  have hw := wrap64 (n := left - a.es.length) (by omega) (by omega)
  simp [b_laws_szEntryS, hw]
  by_cases hneg : left - a.es.length < 0
  · have e : less left (nEntries a) = -1 := less_neg (by simp only [nEntries]; omega)
    simp [hneg, e]
  · simp [hneg]
    rw [nEntries, ← less_add hneg]
    have h2 : 0 ≤ left - a.es.length := by omega
    have h3 : left - a.es.length < 9223372036854775808 := by omega
    generalize left - (a.es.length : Int) = left2 at h2 h3
    refine K_loop (fun (s : Nat × Int) => ⟨asl [(0, .sv (.c (cE a))), (1, .sv (.v (int s.2))), (5, .sv (.v (int s.1)))], asl [], []⟩) (fun s => some (resI (less s.2 ((a.es.drop s.1).map nEntry).sum))) (fun s => a.es.length - s.1) (fun s => s.1 ≤ a.es.length ∧ 0 ≤ s.2 ∧ s.2 < 9223372036854775808) ?_ (0, left2) ⟨by simp, h2, h3⟩ (by simp; omega)
    rintro ⟨i, left⟩ ⟨hi, hl0, hl1⟩ k hk
    simp only at hi hl0 hl1
    by_cases hlt : i < a.es.length
    · simp [l1_laws_szEntryS, hlt, L_szEntry _ left hl0 hl1]
      rw [wrap_succ (by omega), drop_cons hlt, List.map_cons, List.sum_cons]
      by_cases hn : left - (nEntry a.es[i] : Nat) < 0
      · rw [less_neg hn, less_neg (by omega)]
        simp
      · rw [← less_add hn, less_pos hn, if_neg hn]
        exact hk (i + 1, left - (nEntry a.es[i] : Nat)) ⟨by simp; omega, by simp; omega, by simp; omega⟩ (by simp; omega)
    · simp [l1_laws_szEntryS, hlt, drop_end hlt]
      rw [less_pos (by omega)]
      simp
end Go.Proofs.YtecmolmlojehgaaGreat.T
namespace Go.Proofs.YtecmolmlojehgaaGreat.T
open Go
set_option maxHeartbeats 8000000
attribute [-simp] List.getElem_cons_drop List.map_drop List.map_take
theorem L_sz_neg (a : Entries) (left : Int) (h0 : left < 0) (h1 : -4611686018427387904 ≤ left) (h2 : a.es.length ≤ 4611686018427387904) : L0 n_laws_szEntryS [arg (cE a), argI left] = some (resI (-1)) := by
  refine L_body (b := b_laws_szEntryS) rfl rfl 0 ?_
  intro fuel _
  have hw := wrap64 (n := left - a.es.length) (by omega) (by omega)
  have hn : left - a.es.length < 0 := by omega
  simp -implicitDefEqProofs [b_laws_szEntryS, hw, hn]
def empty8 : Entries := ⟨[], [], by simp⟩
theorem small_to {e : EntryV} (h : SmallE e) (b : Bool) : SmallE (toEntryV e b) := by
  obtain ⟨⟨h1, h2⟩, h3, h4⟩ := h
  refine ⟨⟨?_, ?_⟩, ?_, ?_⟩
  · simp only [toEntryV, toSys_es _ _ h1, List.length_map]; exact h1
  · intro p hp
    simp only [toEntryV, toSys_es _ _ h1, List.mem_map] at hp
    obtain ⟨q, hq, rfl⟩ := hp
    rw [toPoly_es _ _ (h2 q hq)]
    exact h2 q hq
  · simp only [toEntryV, toBoxV, toInts_es _ _ h3]; exact h3
  · simp only [toEntryV, toBoxV, toInts_es _ _ h4]; exact h4
theorem roomy_copy {α β : Type} {f : α → β} {fill : β} {a : Row α} (h : a.es.length ≤ 1000000) : Roomy (copyRow f fill a false) := by
  obtain ⟨h1, h2⟩ := copyRow_full (f := f) (fill := fill) (bare := false) (by simp) h
  unfold Roomy
  rw [h1, h2]
  simp [h]
theorem roomy_to {a : Entries} (h : a.es.length ≤ 1000000) (hp : ∀ e ∈ a.es, SmallE e) : RoomyL (toEntries a false) := by
  refine ⟨roomy_copy h, fun e he => ?_⟩
  rw [toEntries_es a false h, List.mem_map] at he
  obtain ⟨x, hx, rfl⟩ := he
  obtain ⟨⟨h1, h2⟩, h3, h4⟩ := hp x hx
  refine ⟨⟨roomy_copy h1, fun p hpp => ?_⟩, roomy_copy h3, roomy_copy h4⟩
  simp only [toEntryV, toSys_es _ _ h1, List.mem_map] at hpp
  obtain ⟨q, hq, rfl⟩ := hpp
  exact roomy_copy (h2 q hq)
theorem sum_le_of {α : Type} {f g : α → Nat} {l : List α} {c d : Nat} (h : ∀ x ∈ l, f x ≤ c * g x + d) : (l.map f).sum ≤ c * (l.map g).sum + d * l.length := by
  induction l with
  | nil => simp
  | cons x r ih =>
    have h1 := h x (by simp)
    have h2 := ih (fun y hy => h y (by simp [hy]))
    simp only [List.map_cons, List.sum_cons, List.length_cons, Nat.mul_add, Nat.mul_one]
    omega
theorem mem_le_sum {α : Type} {f : α → Nat} {l : List α} {x : α} (h : x ∈ l) : f x ≤ (l.map f).sum := by
  induction l with
  | nil => simp at h
  | cons y r ih =>
    simp only [List.mem_cons] at h
    simp only [List.map_cons, List.sum_cons]
    rcases h with rfl | h
    · omega
    · have := ih h; omega
def cntQ (q : QEntry) : Nat := 1 + (q.system.map (fun p => 4 * p.length)).sum + 1 + q.box.low.length + q.box.high.length + 3
theorem cntE_q (e : EntryV) : cntE e = cntQ (qE e) := by
  simp only [cntE, cntQ, qE, pS, pB, List.map_map, Function.comp_def]
  rfl
theorem endL_q {a b : List EntryV} (h : a.map qE = b.map qE) (k : Nat) : endL cntE k a = endL cntE k b := by
  have e : ∀ l : List EntryV, (l.map cntE).sum = ((l.map qE).map cntQ).sum := by
    intro l; rw [List.map_map]; congr 1; apply List.map_congr_left; intro x _; exact cntE_q x
  simp only [endL, e, h]
theorem cntE_le (e : EntryV) : cntE e ≤ 4 * nEntry e + 5 := by
  have : (e.system.es.map cntP).sum ≤ 4 * (e.system.es.map nPoly).sum + 0 * e.system.es.length := sum_le_of (fun p _ => by simp [cntP, nPoly])
  simp only [cntE, nEntry, nSys, nBox]
  omega
end Go.Proofs.YtecmolmlojehgaaGreat.T
namespace Go.Proofs.YtecmolmlojehgaaGreat.T
open Go
variable {hand : Call}
set_option maxHeartbeats 1000000
attribute [-simp] List.getElem_cons_drop List.map_drop List.map_map
/-- Terms, cell by cell. -/
theorem eqCells_T (a b : TermV) : eqCells [0, 0, 0, 0] (sT a) (sT b) = some (a == b) := by
  obtain ⟨c, x, y, z⟩ := a
  obtain ⟨c', x', y', z'⟩ := b
  have e : ((⟨c, x, y, z⟩ : TermV) == ⟨c', x', y', z'⟩) = (c == c' && (x == x' && (y == y' && z == z'))) := by
    rw [Bool.eq_iff_iff]; simp
  rw [e]
  simp [eqCells, eqCell]
theorem eqCells_self (t : TermV) : eqCells [0, 0, 0, 0] (sT t) (sT t) = some true := by rw [eqCells_T]; simp
theorem eqCells_ne {a b : TermV} (h : a ≠ b) : eqCells [0, 0, 0, 0] (sT a) (sT b) = some false := by rw [eqCells_T]; simp [h]
attribute [-simp] eqCells
theorem L_spec_l1Same (a b : Ints) : L (prog hand) n_spec_l1Same [arg (cI a), arg (cI b)] = some (resB (a.es == b.es)) := by
  have ha := a.ok
  refine L_body (b := b_spec_l1Same) rfl rfl a.es.length ?_
  intro fuel hfuel
  by_cases h : a.es.length = b.es.length
  · simp -implicitDefEqProofs [b_spec_l1Same, h]
    refine (K_it (fun i : Nat => [(13, vI i)]) (fun _ => []) (fun i => some (resB ((a.es.drop i) == (b.es.drop i)))) (fun i => a.es.length - i) (fun i => i ≤ a.es.length) 0 (by simp) (by omega) (by simp) ?_).trans (by simp)
    intro i hi k hk
    by_cases hlt : i < a.es.length
    · have hlt2 : i < b.es.length := by omega
      rw [drop_cons hlt, drop_cons hlt2]
      have hs := wrap_succ (show i < 9223372036854775807 by omega)
      by_cases he : a.es[i] = b.es[i]
      · simp -implicitDefEqProofs [l1_spec_l1Same, hlt, hlt2, he]
        exact (hk (i + 1) _ (by omega) (by omega) (by simp [hs])).trans (by simp)
      · simp -implicitDefEqProofs [l1_spec_l1Same, hlt, hlt2, he]
    · have hlt2 : ¬ i < b.es.length := by omega
      simp -implicitDefEqProofs [l1_spec_l1Same, hlt, hlt2]
      rw [drop_end hlt, drop_end (by omega)]
      try rfl
  · simp -implicitDefEqProofs [b_spec_l1Same, h]
    try exact fun e => h (by simpa using congrArg List.length e)
theorem L_spec_txSame (a b : Poly) : L (prog hand) n_spec_txSame [arg (cP a), arg (cP b)] = some (resB (a.es == b.es)) := by
  have ha := a.ok
  refine L_body (b := b_spec_txSame) rfl rfl a.es.length ?_
  intro fuel hfuel
  by_cases h : a.es.length = b.es.length
  · simp -implicitDefEqProofs [b_spec_txSame, h]
    refine (K_it (fun i : Nat => [(14, vI i)]) (fun _ => []) (fun i => some (resB ((a.es.drop i) == (b.es.drop i)))) (fun i => a.es.length - i) (fun i => i ≤ a.es.length) 0 (by simp) (by omega) (by simp) ?_).trans (by simp)
    intro i hi k hk
    by_cases hlt : i < a.es.length
    · have hlt2 : i < b.es.length := by omega
      rw [drop_cons hlt, drop_cons hlt2]
      have hs := wrap_succ (show i < 9223372036854775807 by omega)
      by_cases he : a.es[i] = b.es[i]
      · simp -implicitDefEqProofs [l1_spec_txSame, hlt, hlt2, he, eqCells_self]
        exact (hk (i + 1) _ (by omega) (by omega) (by simp [hs])).trans (by simp)
      · simp -implicitDefEqProofs [l1_spec_txSame, hlt, hlt2, he, eqCells_ne he]
    · have hlt2 : ¬ i < b.es.length := by omega
      simp -implicitDefEqProofs [l1_spec_txSame, hlt, hlt2]
      rw [drop_end hlt, drop_end (by omega)]
      try rfl
  · simp -implicitDefEqProofs [b_spec_txSame, h]
    try exact fun e => h (by simpa using congrArg List.length e)
theorem L_slices_Equal_SimplTermimplTerm (a b : Poly) : L (prog hand) n_slices_Equal_SimplTermimplTerm [arg (cP a), arg (cP b)] = some (resB (a.es == b.es)) := by
  have ha := a.ok
  refine L_body (b := b_slices_Equal_SimplTermimplTerm) rfl rfl a.es.length ?_
  intro fuel hfuel
  by_cases h : a.es.length = b.es.length
  · simp -implicitDefEqProofs [b_slices_Equal_SimplTermimplTerm, h]
    refine (K_it (fun i : Nat => [(13, vI i)]) (fun _ => []) (fun i => some (resB ((a.es.drop i) == (b.es.drop i)))) (fun i => a.es.length - i) (fun i => i ≤ a.es.length) 0 (by simp) (by omega) (by simp) ?_).trans (by simp)
    intro i hi k hk
    by_cases hlt : i < a.es.length
    · have hlt2 : i < b.es.length := by omega
      rw [drop_cons hlt, drop_cons hlt2]
      have hs := wrap_succ (show i < 9223372036854775807 by omega)
      by_cases he : a.es[i] = b.es[i]
      · simp -implicitDefEqProofs [l1_slices_Equal_SimplTermimplTerm, hlt, hlt2, he, eqCells_self]
        exact (hk (i + 1) _ (by omega) (by omega) (by simp [hs])).trans (by simp)
      · simp -implicitDefEqProofs [l1_slices_Equal_SimplTermimplTerm, hlt, hlt2, he, eqCells_ne he]
    · have hlt2 : ¬ i < b.es.length := by omega
      simp -implicitDefEqProofs [l1_slices_Equal_SimplTermimplTerm, hlt, hlt2]
      rw [drop_end hlt, drop_end (by omega)]
      try rfl
  · simp -implicitDefEqProofs [b_slices_Equal_SimplTermimplTerm, h]
    try exact fun e => h (by simpa using congrArg List.length e)
theorem L_EqualFunc (a b : Sys) : L (prog hand) n_slices_EqualFunc_SSimplTermSSimplTermSimplTermSimplTerm [arg (cS a), arg (cS b), .imm (.fn n_slices_Equal_SimplTermimplTerm [])] = some (resB (pS a == pS b)) := by
  have ha := a.ok
  refine L_body (b := b_slices_EqualFunc_SSimplTermSSimplTermSimplTermSimplTerm) rfl rfl a.es.length ?_
  intro fuel hfuel
  by_cases h : a.es.length = b.es.length
  · simp -implicitDefEqProofs [b_slices_EqualFunc_SSimplTermSSimplTermSimplTermSimplTerm, h]
    refine (K_it (fun i : Nat => [(17, vI i)]) (fun _ => []) (fun i => some (resB ((a.es.drop i).map (·.es) == (b.es.drop i).map (·.es)))) (fun i => a.es.length - i) (fun i => i ≤ a.es.length) 0 (by simp) (by omega) (by simp) ?_).trans (by simp [pS])
    intro i hi k hk
    by_cases hlt : i < a.es.length
    · have hlt2 : i < b.es.length := by omega
      rw [drop_cons hlt, drop_cons hlt2]
      have hs := wrap_succ (show i < 9223372036854775807 by omega)
      by_cases he : a.es[i].es = b.es[i].es
      · simp -implicitDefEqProofs [l1_slices_EqualFunc_SSimplTermSSimplTermSimplTermSimplTerm, hlt, hlt2, he, L_slices_Equal_SimplTermimplTerm]
        exact (hk (i + 1) _ (by omega) (by omega) (by simp [hs])).trans (by simp)
      · simp -implicitDefEqProofs [l1_slices_EqualFunc_SSimplTermSSimplTermSimplTermSimplTerm, hlt, hlt2, he, L_slices_Equal_SimplTermimplTerm]
    · have hlt2 : ¬ i < b.es.length := by omega
      simp -implicitDefEqProofs [l1_slices_EqualFunc_SSimplTermSSimplTermSimplTermSimplTerm, hlt, hlt2]
      rw [drop_end hlt, drop_end (by omega)]
      try rfl
  · simp -implicitDefEqProofs [b_slices_EqualFunc_SSimplTermSSimplTermSimplTermSimplTerm, h, pS]
    try exact fun e => h (by simpa using congrArg List.length e)
def sameQ (a b : EntryV) : Bool := pS a.system == pS b.system && pB a.box == pB b.box
theorem L_caSame (a b : EntryV) : L (prog hand) n_spec_caSame [argE a, argE b] = some (resB (sameQ a b)) := by
  have ha := a.system.ok
  refine L_body (b := b_spec_caSame) rfl rfl a.system.es.length ?_
  intro fuel hfuel
  by_cases h : a.system.es.length = b.system.es.length
  · by_cases h1 : a.box.k = b.box.k
    · by_cases h2 : a.box.low.es = b.box.low.es
      · by_cases h3 : a.box.high.es = b.box.high.es
        · have hq : sameQ a b = (pS a.system == pS b.system) := by simp [sameQ, pB, h1, h2, h3]
          rw [hq]
          simp -implicitDefEqProofs [b_spec_caSame, h, h1, h2, h3, L_spec_l1Same]
          refine (K_it (fun i : Nat => [(46, vI i)]) (fun _ => []) (fun i => some (resB ((a.system.es.drop i).map (·.es) == (b.system.es.drop i).map (·.es)))) (fun i => a.system.es.length - i) (fun i => i ≤ a.system.es.length) 0 (by simp) (by omega) (by simp) ?_).trans (by simp [pS])
          intro i hi k hk
          by_cases hlt : i < a.system.es.length
          · have hlt2 : i < b.system.es.length := by omega
            rw [drop_cons hlt, drop_cons hlt2]
            have hs := wrap_succ (show i < 9223372036854775807 by omega)
            by_cases he : a.system.es[i].es = b.system.es[i].es
            · simp -implicitDefEqProofs [l1_spec_caSame, hlt, hlt2, he, L_spec_txSame]
              exact (hk (i + 1) _ (by omega) (by omega) (by simp [hs])).trans (by simp)
            · simp -implicitDefEqProofs [l1_spec_caSame, hlt, hlt2, he, L_spec_txSame]
          · have hlt2 : ¬ i < b.system.es.length := by omega
            simp -implicitDefEqProofs [l1_spec_caSame, hlt, hlt2]
            rw [drop_end hlt, drop_end (by omega)]
            try rfl
        · have hq : sameQ a b = false := by simp [sameQ, pB, h1, h2, h3]
          simp -implicitDefEqProofs [b_spec_caSame, h, h1, h2, h3, L_spec_l1Same, hq]
      · have hq : sameQ a b = false := by simp [sameQ, pB, h1, h2]
        simp -implicitDefEqProofs [b_spec_caSame, h, h1, h2, L_spec_l1Same, hq]
    · have hq : sameQ a b = false := by simp [sameQ, pB, h1]
      simp -implicitDefEqProofs [b_spec_caSame, h, h1, hq]
  · have hq : sameQ a b = false := by
      simp only [sameQ, Bool.and_eq_false_iff]
      exact Or.inl (by simpa [pS] using fun e => h (by simpa using congrArg List.length e))
    simp -implicitDefEqProofs [b_spec_caSame, h, hq]
end Go.Proofs.YtecmolmlojehgaaGreat.T
namespace Go.Proofs.YtecmolmlojehgaaGreat.T
open Go
variable {hand : Call}
set_option maxHeartbeats 2000000
attribute [-simp] List.getElem_cons_drop List.map_drop List.map_map eqCells
def shl (k x : Int) : Int := IntKind.i64.wrap (x * 2 ^ (min k.toNat 64))
def shlL (k : Int) (l : List Int) : List Int := l.map (shl k)
theorem shlL_length (k : Int) (l : List Int) : (shlL k l).length = l.length := by simp [shlL]
theorem L_scaled (a : Ints) (k : Int) (hk : 0 ≤ k) (ha : a.es.length ≤ 1000000) : L (prog hand) n_impl_scaled [arg (cI a), argI k] = some ⟨[.s (.mk .deep (.fl 1 ((shlL k a.es).map eI) []))], []⟩ := by
  refine L_body (b := b_impl_scaled) rfl rfl a.es.length ?_
  intro fuel hfuel
  have hneg : ¬ (k < 0) := by omega
  simp -implicitDefEqProofs [b_impl_scaled]
  refine (K_it (fun s : Nat × List Int => [(10, vI s.1), (5, .sv (.ref 64320 [] 0 s.2.length))]) (fun s => [(64320, .arr true false (.fl 1 (s.2.map eI) []))]) (fun s => some ⟨[.s (.mk .deep (.fl 1 ((s.2 ++ shlL k (a.es.drop s.1)).map eI) []))], []⟩) (fun s => a.es.length - s.1) (fun s => s.1 ≤ a.es.length ∧ s.2.length = s.1) (0, []) (by simp) (by simp; omega) (by simp) ?_).trans (by simp)
  rintro ⟨i, acc⟩ ⟨hi, hacc⟩ K hK
  simp only at hi hacc
  by_cases hlt : i < a.es.length
  · rw [drop_cons hlt]
    have hs := wrap_succ (show i < 9223372036854775807 by omega)
    have hm : (acc.length + 1) * 8 ≤ 140737488355328 := by omega
    have hm2 : acc.length + 1 ≤ 9223372036854775807 := by omega
    simp -implicitDefEqProofs [l1_impl_scaled, hlt, hneg, hm, hm2]
    refine (hK (i + 1, acc ++ [shl k a.es[i]]) _ ⟨by simp; omega, by simp; omega⟩ (by simp; omega) (by simp [hs, shl]; rfl)).trans (by simp [shlL])
  · rw [drop_end hlt]
    simp -implicitDefEqProofs [l1_impl_scaled, hlt, shlL]
abbrev argPB (b : BoxV) : Arg := .imm (.s (.pm (eB b) 0))
abbrev rBox (k : Int) (lo hi : List Int) : RV := .agg [.mk .imm (.val (int k)), .mk .deep (.fl 1 (lo.map eI) []), .mk .deep (.fl 1 (hi.map eI) [])]
def topK (a b : BoxV) : Int := if a.k < b.k then b.k else a.k
theorem L_align (a b : BoxV) (ha0 : 0 ≤ a.k) (ha1 : a.k ≤ 1000) (hb0 : 0 ≤ b.k) (hb1 : b.k ≤ 1000) (a1 : a.low.es.length ≤ 1000000) (a2 : a.high.es.length ≤ 1000000) (b1 : b.low.es.length ≤ 1000000) (b2 : b.high.es.length ≤ 1000000) :
    L (prog hand) n_impl_align [argPB a, argPB b] = some ⟨[.s (.mk .imm (.val (int (topK a b)))), rBox (topK a b) (shlL (topK a b - a.k) a.low.es) (shlL (topK a b - a.k) a.high.es), rBox (topK a b) (shlL (topK a b - b.k) b.low.es) (shlL (topK a b - b.k) b.high.es)], []⟩ := by
  refine L_body (b := b_impl_align) rfl rfl 0 ?_
  intro fuel _
  have hk0 : 0 ≤ topK a b - a.k := by unfold topK; split <;> omega
  have hk1 : 0 ≤ topK a b - b.k := by unfold topK; split <;> omega
  have w1 : IntKind.i64.wrap (topK a b - a.k) = topK a b - a.k := wrap64 (by omega) (by unfold topK; split <;> omega)
  have w2 : IntKind.i64.wrap (topK a b - b.k) = topK a b - b.k := wrap64 (by omega) (by unfold topK; split <;> omega)
  have hm : (if a.k < b.k then b.k else a.k) = topK a b := rfl
  have e1 := L_scaled (hand := hand) a.low _ hk0 a1
  have e2 := L_scaled (hand := hand) a.high _ hk0 a2
  have e3 := L_scaled (hand := hand) b.low _ hk1 b1
  have e4 := L_scaled (hand := hand) b.high _ hk1 b2
  generalize topK a b = t at hm w1 w2 e1 e2 e3 e4 ⊢
  simp -implicitDefEqProofs [b_impl_align, hm, w1, w2, e1, e2, e3, e4]
def cmpL : List Int → List Int → Int
  | [], [] => 0
  | [], _ :: _ => -1
  | _ :: _, [] => 1
  | x :: xs, y :: ys => if sgn (x - y) ≠ 0 then sgn (x - y) else cmpL xs ys
theorem cmpL_zero : ∀ {a b : List Int}, cmpL a b = 0 ↔ a = b
  | [], [] => by simp [cmpL]
  | [], _ :: _ => by simp [cmpL]
  | _ :: _, [] => by simp [cmpL]
  | x :: xs, y :: ys => by
    unfold cmpL
    by_cases h : sgn (x - y) = 0
    · rw [if_neg (by simpa using h), cmpL_zero (a := xs)]
      have : x = y := by rw [sgn_zero] at h; omega
      simp [this]
    · rw [if_pos h]
      have : x ≠ y := fun e => h (by rw [sgn_zero]; omega)
      simp [h, this]
theorem L_slicesCompare (xs ys : List Int) (sx sy : List (List Value)) (hx : xs.length ≤ 1000000) (hy : ys.length ≤ 1000000) : L (prog hand) n_slices_Compare_Sintint [arg (.fl 1 (xs.map eI) sx), arg (.fl 1 (ys.map eI) sy)] = some (resI (cmpL xs ys)) := by
  refine L_body (b := b_slices_Compare_Sintint) rfl rfl xs.length ?_
  intro fuel hfuel
  simp -implicitDefEqProofs [b_slices_Compare_Sintint]
  refine (K_it (fun i : Nat => [(11, vI i)]) (fun _ => []) (fun i => some (resI (cmpL (xs.drop i) (ys.drop i)))) (fun i => xs.length - i) (fun i => i ≤ xs.length ∧ i ≤ ys.length) 0 (by simp) (by omega) (by simp) ?_).trans (by simp)
  rintro i ⟨hi, hi2⟩ k hk
  by_cases hlt : i < xs.length
  · rw [drop_cons hlt]
    by_cases hlt2 : i < ys.length
    · have hge : ¬ (ys.length ≤ i) := by omega
      rw [drop_cons hlt2]
      have hs := wrap_succ (show i < 9223372036854775807 by omega)
      by_cases h : sgn (xs[i] - ys[i]) = 0
      · simp -implicitDefEqProofs [l1_slices_Compare_Sintint, hlt, hlt2, hge, L_cmpCompare, h, cmpL]
        exact hk (i + 1) _ ⟨by omega, by omega⟩ (by omega) (by simp [hs])
      · simp -implicitDefEqProofs [l1_slices_Compare_Sintint, hlt, hlt2, hge, L_cmpCompare, h, cmpL]
    · have hge : ys.length ≤ i := by omega
      rw [drop_end hlt2]
      simp -implicitDefEqProofs [l1_slices_Compare_Sintint, hlt, hge, cmpL]
  · rw [drop_end hlt]
    by_cases hlt2 : i < ys.length
    · have : xs.length < ys.length := by omega
      rw [drop_cons hlt2]
      simp -implicitDefEqProofs [l1_slices_Compare_Sintint, hlt, this, cmpL]
    · have : ¬ (xs.length < ys.length) := by omega
      rw [drop_end hlt2]
      simp -implicitDefEqProofs [l1_slices_Compare_Sintint, hlt, this, cmpL]
theorem L_compareBoxes (a b : BoxV) (ha0 : 0 ≤ a.k) (ha1 : a.k ≤ 1000) (hb0 : 0 ≤ b.k) (hb1 : b.k ≤ 1000) (a1 : a.low.es.length ≤ 1000000) (a2 : a.high.es.length ≤ 1000000) (b1 : b.low.es.length ≤ 1000000) (b2 : b.high.es.length ≤ 1000000) :
    L (prog hand) n_impl_compareBoxes [argB a, argB b] = some (resI (orL [cmpL (shlL (topK a b - a.k) a.low.es) (shlL (topK a b - b.k) b.low.es), cmpL (shlL (topK a b - a.k) a.high.es) (shlL (topK a b - b.k) b.high.es)])) := by
  refine L_body (b := b_impl_compareBoxes) rfl rfl 0 ?_
  intro fuel _
  have e1 := L_align (hand := hand) a b ha0 ha1 hb0 hb1 a1 a2 b1 b2
  rw [← shlL_length (topK a b - a.k)] at a1 a2
  rw [← shlL_length (topK a b - b.k)] at b1 b2
  generalize shlL (topK a b - a.k) a.low.es = x1 at e1 a1 ⊢
  generalize shlL (topK a b - a.k) a.high.es = x2 at e1 a2 ⊢
  generalize shlL (topK a b - b.k) b.low.es = y1 at e1 b1 ⊢
  generalize shlL (topK a b - b.k) b.high.es = y2 at e1 b2 ⊢
  have c1 := L_slicesCompare (hand := hand) x1 y1 [] [] a1 b1
  have c2 := L_slicesCompare (hand := hand) x2 y2 [] [] a2 b2
  have hO := L_cmpOr (hand := hand) [cmpL x1 y1, cmpL x2 y2] (by simp)
  simp only [List.map_cons, List.map_nil] at hO
  simp -implicitDefEqProofs [b_impl_compareBoxes, e1, c1, c2, hO]
/-! ### Valid boxes -/
theorem shl_val {k x : Int} (hk0 : 0 ≤ k) (hk : k ≤ 8) (h1 : -1000000 ≤ x) (h2 : x ≤ 1000000) : shl k x = x * 2 ^ k.toNat := by
  have hm : min k.toNat 64 = k.toNat := by omega
  unfold shl
  rw [hm]
  have h8 : k = 0 ∨ k = 1 ∨ k = 2 ∨ k = 3 ∨ k = 4 ∨ k = 5 ∨ k = 6 ∨ k = 7 ∨ k = 8 := by omega
  rcases h8 with rfl | rfl | rfl | rfl | rfl | rfl | rfl | rfl | rfl <;> (refine wrap64 ?_ ?_ <;> simp <;> omega)
theorem shl_inj {k x y : Int} (hk0 : 0 ≤ k) (hk : k ≤ 8) (h1 : -1000000 ≤ x) (h2 : x ≤ 1000000) (h3 : -1000000 ≤ y) (h4 : y ≤ 1000000) (h : shl k x = shl k y) : x = y := by
  rw [shl_val hk0 hk h1 h2, shl_val hk0 hk h3 h4] at h
  have hp : (2 : Int) ^ k.toNat ≠ 0 := by
    have := Int.pow_pos (n := 2) (m := k.toNat) (by decide)
    omega
  exact Int.eq_of_mul_eq_mul_right hp h
theorem shl_even {k x : Int} (hk0 : 0 < k) (hk : k ≤ 8) (h1 : -1000000 ≤ x) (h2 : x ≤ 1000000) : par (shl k x) = false := by
  rw [shl_val (by omega) hk h1 h2]
  have h8 : k = 1 ∨ k = 2 ∨ k = 3 ∨ k = 4 ∨ k = 5 ∨ k = 6 ∨ k = 7 ∨ k = 8 := by omega
  have : ∃ m, x * 2 ^ k.toNat = 2 * m := by
    rcases h8 with rfl | rfl | rfl | rfl | rfl | rfl | rfl | rfl
    · exact ⟨x, by simp; omega⟩
    · exact ⟨x * 2, by simp; omega⟩
    · exact ⟨x * 4, by simp; omega⟩
    · exact ⟨x * 8, by simp; omega⟩
    · exact ⟨x * 16, by simp; omega⟩
    · exact ⟨x * 32, by simp; omega⟩
    · exact ⟨x * 64, by simp; omega⟩
    · exact ⟨x * 128, by simp; omega⟩
  obtain ⟨m, hm⟩ := this
  rw [hm]
  simp [par]
theorem shl_zero {x : Int} (h1 : -1000000 ≤ x) (h2 : x ≤ 1000000) : shl 0 x = x := by rw [shl_val (by omega) (by omega) h1 h2]; simp
theorem shlL_inj {k : Int} (hk0 : 0 ≤ k) (hk : k ≤ 8) : ∀ {l m : List Int}, (∀ x ∈ l, -1000000 ≤ x ∧ x ≤ 1000000) → (∀ x ∈ m, -1000000 ≤ x ∧ x ≤ 1000000) → shlL k l = shlL k m → l = m
  | [], [], _, _, _ => rfl
  | [], _ :: _, _, _, h => by simp [shlL] at h
  | _ :: _, [], _, _, h => by simp [shlL] at h
  | x :: l, y :: m, h1, h2, h => by
    simp only [shlL, List.map_cons, List.cons.injEq] at h
    have := shlL_inj hk0 hk (fun z hz => h1 z (by simp [hz])) (fun z hz => h2 z (by simp [hz])) h.2
    rw [this, shl_inj hk0 hk (h1 x (by simp)).1 (h1 x (by simp)).2 (h2 y (by simp)).1 (h2 y (by simp)).2 h.1]
/-- What a box's sides say. -/
theorem sidesGo_spec {M : Int} : ∀ {lo hi : List Int} {odd : Bool}, lo.length = hi.length → sidesGo M odd lo hi = true → (∀ x ∈ lo, -M ≤ x ∧ x ≤ M) ∧ (∀ x ∈ hi, -M ≤ x ∧ x ≤ M) ∧ (odd = true ∨ ∃ x, (x ∈ lo ∨ x ∈ hi) ∧ par x = true)
  | [], [], odd, _, h => ⟨by simp, by simp, Or.inl h⟩
  | [], _ :: _, _, hl, _ => by simp at hl
  | _ :: _, [], _, hl, _ => by simp at hl
  | x :: lo, y :: hi, odd, hl, h => by
    simp only [sidesGo, Bool.and_eq_true] at h
    obtain ⟨h1, h2, _, h4⟩ := h
    obtain ⟨k1, k2, k3⟩ := sidesGo_spec (by simpa using hl) h4
    have i1 := inR_true h1
    have i2 := inR_true h2
    refine ⟨fun z hz => ?_, fun z hz => ?_, ?_⟩
    · simp only [List.mem_cons] at hz
      rcases hz with rfl | hz
      · exact i1
      · exact k1 z hz
    · simp only [List.mem_cons] at hz
      rcases hz with rfl | hz
      · exact i2
      · exact k2 z hz
    · rcases k3 with k3 | ⟨z, hz, hp⟩
      · simp only [Bool.or_eq_true] at k3
        rcases k3 with k3 | k3 | k3
        · exact Or.inl k3
        · exact Or.inr ⟨x, Or.inl (by simp), k3⟩
        · exact Or.inr ⟨y, Or.inr (by simp), k3⟩
      · exact Or.inr ⟨z, by rcases hz with hz | hz <;> simp [hz], hp⟩
theorem boxOk_spec {b : PBox} (h : boxOk b = true) : 0 ≤ b.k ∧ b.k ≤ 8 ∧ 1 ≤ b.low.length ∧ b.low.length ≤ 3 ∧ b.high.length = b.low.length ∧ (∀ x ∈ b.low, -2048 ≤ x ∧ x ≤ 2048) ∧ (∀ x ∈ b.high, -2048 ≤ x ∧ x ≤ 2048) ∧ (b.k = 0 ∨ ∃ x, (x ∈ b.low ∨ x ∈ b.high) ∧ par x = true) := by
  simp only [boxOk, Bool.and_eq_true, decide_eq_true_eq] at h
  obtain ⟨h1, h2, h3, h4⟩ := h
  have i1 := inR_true h1
  have i2 := inR_true h2
  obtain ⟨k1, k2, k3⟩ := sidesGo_spec (by omega) h4
  obtain ⟨n, hn⟩ : ∃ n : Nat, b.k = n := ⟨b.k.toNat, by omega⟩
  have hp := pow_le (k := n) (by omega)
  rw [hn] at k1 k2
  simp only [Int.toNat_natCast] at k1 k2
  refine ⟨i1.1, i1.2, by omega, by omega, h3, fun x hx => ?_, fun x hx => ?_, ?_⟩
  · have := k1 x hx; omega
  · have := k2 x hx; omega
  · rcases k3 with k3 | k3
    · exact Or.inl (by simpa using k3)
    · exact Or.inr k3
theorem same_scaled {a b : BoxV} (ha : boxOk (pB a) = true) (hb : boxOk (pB b) = true) : (shlL (topK a b - a.k) a.low.es = shlL (topK a b - b.k) b.low.es ∧ shlL (topK a b - a.k) a.high.es = shlL (topK a b - b.k) b.high.es) ↔ pB a = pB b := by
  obtain ⟨a1, a2, _, _, _, a3, a4, a5⟩ := boxOk_spec ha
  obtain ⟨b1, b2, _, _, _, b3, b4, b5⟩ := boxOk_spec hb
  simp only [pB] at a1 a2 a3 a4 a5 b1 b2 b3 b4 b5
  have wide : ∀ {l : List Int}, (∀ x ∈ l, -2048 ≤ x ∧ x ≤ 2048) → ∀ x ∈ l, -1000000 ≤ x ∧ x ≤ 1000000 := fun h x hx => by have := h x hx; omega
  have zero : ∀ {l : List Int}, (∀ x ∈ l, -2048 ≤ x ∧ x ≤ 2048) → shlL 0 l = l := by
    intro l h
    unfold shlL
    conv => rhs; rw [← List.map_id l]
    apply List.map_congr_left
    intro x hx
    have := h x hx
    exact shl_zero (by omega) (by omega)
  have even : ∀ {k : Int} {l : List Int}, 0 < k → k ≤ 8 → (∀ x ∈ l, -2048 ≤ x ∧ x ≤ 2048) → ∀ x ∈ shlL k l, par x = false := by
    intro k l h0 h8 h x hx
    simp only [shlL, List.mem_map] at hx
    obtain ⟨y, hy, rfl⟩ := hx
    have := h y hy
    exact shl_even h0 h8 (by omega) (by omega)
  constructor
  · rintro ⟨h1, h2⟩
    by_cases hk : a.k = b.k
    · have ht : topK a b = a.k := by unfold topK; rw [if_neg (by omega)]
      rw [ht, hk, Int.sub_self] at h1 h2
      rw [zero a3, zero b3] at h1
      rw [zero a4, zero b4] at h2
      simp only [pB, hk, h1, h2]
    · exfalso
      by_cases hlt : a.k < b.k
      · have ht : topK a b = b.k := by unfold topK; rw [if_pos hlt]
        rw [ht, Int.sub_self, zero b3] at h1
        rw [ht, Int.sub_self, zero b4] at h2
        rcases b5 with b5 | ⟨x, hx, hp⟩
        · omega
        · rcases hx with hx | hx
          · rw [← h1] at hx
            rw [even (by omega) (by omega) a3 x hx] at hp; cases hp
          · rw [← h2] at hx
            rw [even (by omega) (by omega) a4 x hx] at hp; cases hp
      · have ht : topK a b = a.k := by unfold topK; rw [if_neg hlt]
        rw [ht, Int.sub_self, zero a3] at h1
        rw [ht, Int.sub_self, zero a4] at h2
        rcases a5 with a5 | ⟨x, hx, hp⟩
        · omega
        · rcases hx with hx | hx
          · rw [h1] at hx
            rw [even (by omega) (by omega) b3 x hx] at hp; cases hp
          · rw [h2] at hx
            rw [even (by omega) (by omega) b4 x hx] at hp; cases hp
  · intro h
    simp only [pB, PBox.mk.injEq] at h
    obtain ⟨h1, h2, h3⟩ := h
    rw [h1, h2, h3]
    exact ⟨rfl, rfl⟩
theorem L_sameBox (a b : BoxV) (ha : boxOk (pB a) = true) (hb : boxOk (pB b) = true) : L (prog hand) n_impl_sameBox [argB a, argB b] = some (resB (pB a == pB b)) := by
  obtain ⟨a1, a2, _, a6, a7, _⟩ := boxOk_spec ha
  obtain ⟨b1, b2, _, b6, b7, _⟩ := boxOk_spec hb
  have hs := same_scaled ha hb
  simp only [pB] at a1 a2 a6 a7 b1 b2 b6 b7
  refine L_body (b := b_impl_sameBox) rfl rfl 0 ?_
  intro fuel _
  have hc := L_compareBoxes (hand := hand) a b a1 (by omega) b1 (by omega) (by omega) (by omega) (by omega) (by omega)
  by_cases h : a.low.es.length = b.low.es.length
  · have e : (orL [cmpL (shlL (topK a b - a.k) a.low.es) (shlL (topK a b - b.k) b.low.es), cmpL (shlL (topK a b - a.k) a.high.es) (shlL (topK a b - b.k) b.high.es)] == 0) = (pB a == pB b) := by
      rw [Bool.eq_iff_iff, beq_iff_eq, beq_iff_eq, ← hs, ← cmpL_zero, ← cmpL_zero]
      simp only [orL]
      constructor
      · intro h
        split at h
        · rename_i h1; exact absurd h h1
        · rename_i h1
          split at h
          · rename_i h2; exact absurd h h2
          · rename_i h2; exact ⟨Decidable.not_not.1 h1, Decidable.not_not.1 h2⟩
      · rintro ⟨h1, h2⟩
        simp [h1, h2]
    rw [← e]
    generalize orL [cmpL (shlL (topK a b - a.k) a.low.es) (shlL (topK a b - b.k) b.low.es), cmpL (shlL (topK a b - a.k) a.high.es) (shlL (topK a b - b.k) b.high.es)] = r at hc ⊢
    simp -implicitDefEqProofs [b_impl_sameBox, h, hc]
  · have e : (pB a == pB b) = false := by
      rw [beq_eq_false_iff_ne]
      intro e
      simp only [pB, PBox.mk.injEq] at e
      exact h (by rw [e.2.1])
    rw [e]
    simp -implicitDefEqProofs [b_impl_sameBox, h]
theorem L_sameSystem (a b : EntryV) (ha : boxOk (pB a.box) = true) (hb : boxOk (pB b.box) = true) : L (prog hand) n_impl_sameSystem [argPE a 0, argPE b 0] = some (resB (sameQ a b)) := by
  refine L_body (b := b_impl_sameSystem) rfl rfl 0 ?_
  intro fuel _
  have h1 := L_EqualFunc (hand := hand) a.system b.system
  have h2 := L_sameBox (hand := hand) a.box b.box ha hb
  unfold sameQ
  generalize (pS a.system == pS b.system) = q at h1 ⊢
  cases q with
  | false => simp -implicitDefEqProofs [b_impl_sameSystem, h1]
  | true => simp -implicitDefEqProofs [b_impl_sameSystem, h1, h2]
end Go.Proofs.YtecmolmlojehgaaGreat.T
namespace Go.Proofs.YtecmolmlojehgaaGreat.T
open Go
set_option maxHeartbeats 4000000
attribute [-simp] List.getElem_cons_drop List.map_drop List.map_take List.map_map eqCells
def insRow {α : Type} (l : Row α) (k : Nat) (e : α) : Row α := if h : l.es.length + 1 ≤ 9223372036854775807 then ⟨l.es.take k ++ [e] ++ l.es.drop k, [], by simp; omega⟩ else l
theorem insRow_es {α : Type} {l : Row α} (h : l.es.length ≤ 1000000) (k : Nat) (e : α) : (insRow l k e).es = l.es.take k ++ [e] ++ l.es.drop k := by
  unfold insRow; rw [dif_pos (by omega)]
theorem insRow_sp {α : Type} {l : Row α} (h : l.es.length ≤ 1000000) (k : Nat) (e : α) : (insRow l k e).sp = [] := by
  unfold insRow; rw [dif_pos (by omega)]
/-- The row with an entry in its place. -/
def putRow (l : Entries) (e : EntryV) : Entries := if atB l.es (placeGo e.name l.es) e.name = true then setRow l (placeGo e.name l.es) e else insRow l (placeGo e.name l.es) e
theorem L_caPut_new (l : Entries) (e : EntryV) (k : Nat) (hl : l.es.length ≤ 1000000) (hp : ∀ x ∈ l.es, SmallE x) (he : SmallE e) (hk : placeGo e.name l.es = k) (hat : atB l.es k e.name = false) : L0 n_spec_caPut [arg (cE l), argE e] = some ⟨[.s (.mk .deep (cE (bareL (insRow l k e))))], []⟩ := by
  have hkl : k ≤ l.es.length := by rw [← hk]; exact placeGo_le _ _
  refine L_body (b := b_spec_caPut) rfl rfl 0 ?_
  intro fuel _
  have hP := L_caPlace l e.name
  rw [hk] at hP
  have hA := L_caAt l k e.name
  rw [hat] at hA
  have hO := L_caOwn e he
  have e1 : C.sl 8 (List.take k (List.map eE l.es ++ List.map eE l.sp)) (List.drop k (List.map eE l.es ++ List.map eE l.sp)) = cE (preRow l k) := by
    rw [List.take_append_of_le_length (by simpa using hkl), List.drop_append_of_le_length (by simpa using hkl)]
    simp [preRow, List.map_take, List.map_drop]
  have e2 : C.sl 8 (List.take (l.es.length - k) (List.drop k (List.map eE l.es ++ List.map eE l.sp))) (List.map eE l.sp) = cE (postRow l k) := by
    rw [List.drop_append_of_le_length (by simp; omega), List.take_left' (by simp)]
    simp [postRow, List.map_drop]
  have h1 := L_spec_caOwnAll (preRow l k) (by simp [preRow]; omega) (fun x hx => hp x (List.mem_of_mem_take hx))
  have h2 := L_spec_caOwnAll (postRow l k) (by simp [postRow]; omega) (fun x hx => hp x (List.mem_of_mem_drop hx))
  obtain ⟨P, hPd⟩ : ∃ P, P = (bareL (preRow l k)).es.map eE := ⟨_, rfl⟩
  obtain ⟨Q, hQd⟩ : ∃ Q, Q = (bareL (postRow l k)).es.map eE := ⟨_, rfl⟩
  have hPl : P.length = k := by rw [hPd]; simp [bareL, preRow]; omega
  have hQl : Q.length = l.es.length - k := by rw [hQd]; simp [bareL, postRow]
  have h1' : L0 n_spec_caOwnAll [arg (C.sl 8 (List.take k (List.map eE l.es ++ List.map eE l.sp)) (List.drop k (List.map eE l.es ++ List.map eE l.sp)))] = some ⟨[.s (.mk .deep (.sl 8 P []))], []⟩ := by
    rw [e1, h1, hPd]; rfl
  have h2' : L0 n_spec_caOwnAll [arg (C.sl 8 (List.take (l.es.length - k) (List.drop k (List.map eE l.es ++ List.map eE l.sp))) (List.map eE l.sp))] = some ⟨[.s (.mk .deep (.sl 8 Q []))], []⟩ := by
    rw [e2, h2, hQd]; rfl
  have hres : cE (bareL (insRow l k e)) = .sl 8 (P ++ [eE (bareE e)] ++ Q) [] := by
    rw [hPd, hQd]
    simp only [cE, bareL, insRow_es hl, preRow, postRow, List.map_nil]
    simp [List.map_take, List.map_drop]
  rw [hres]
  clear hres hPd hQd h1 h2 e1 e2
  have hb : (k : Int) ≤ (l.es.length : Int) + (l.sp.length : Int) := by omega
  have hb2 : (k : Int) ≤ (l.es.length : Int) := by omega
  have hb3 : (l.es.length : Int) ≤ (l.es.length : Int) + (l.sp.length : Int) := by omega
  have hm1 : (k + 1) * 120 ≤ 140737488355328 := by omega
  have hm2 : k + 1 ≤ 9223372036854775807 := by omega
  have hm3 : (k + 1 + (l.es.length - k)) * 120 ≤ 140737488355328 := by omega
  have hm4 : k + 1 + (l.es.length - k) ≤ 9223372036854775807 := by omega
  have hT1 : P.take k = P := List.take_of_length_le (by omega)
  have hT2 : Q.take (l.es.length - k) = Q := List.take_of_length_le (by omega)
  simp -implicitDefEqProofs [b_spec_caPut, hP, hA, hO, h1', h2', hPl, hQl, hkl, hb, hb2, hb3, hm1, hm2, hm3, hm4, hT1, hT2]
  have hx : ∀ x : List C, (P ++ [x]).take (k + 1) = P ++ [x] := fun x => List.take_of_length_le (by simp [hPl])
  rw [hx, List.take_of_length_le (by simp [hPl, hQl]; omega)]
  simp
theorem L_caPutRow (l : Entries) (e : EntryV) (hl : l.es.length ≤ 1000000) (hp : ∀ x ∈ l.es, SmallE x) (he : SmallE e) : L0 n_spec_caPut [arg (cE l), argE e] = some ⟨[.s (.mk .deep (cE (bareL (putRow l e))))], []⟩ := by
  unfold putRow
  cases hat : atB l.es (placeGo e.name l.es) e.name with
  | true => exact L_caPut l e _ hl hp he rfl hat
  | false => exact L_caPut_new l e _ hl hp he rfl hat
/-- Two entries of a name, met. -/
def meetE (x e : EntryV) : EntryV := ⟨x.name, x.nok, x.system, x.box, max x.least e.least, min x.most e.most, x.version⟩
theorem L_caMeet (x e : EntryV) : L0 n_spec_caMeet [argE x, argE e] =
    some ⟨[.agg ((if e.version < x.version then sE x else if x.version < e.version then sE e else if sameQ x e = true then sE (meetE x e) else [.c (.val (.string ⟨#[]⟩)), .c (.sl 1 [] []), .c (.val (int 0)), .c (.fl 1 [] []), .c (.fl 1 [] []), .c (.val (int 0)), .c (.val (int 0)), .c (.val (int 0))]).map (fun s => match s with | .c c => RC.mk (if sameQ x e = true ∨ e.version < x.version ∨ x.version < e.version then .imm else if c.isVal then .imm else .deep) c | _ => RC.mk .imm .hole)), .s (.mk .imm (.val (.bool (if e.version < x.version then true else if x.version < e.version then true else if sameQ x e = true then entryOk (qE (meetE x e)) else false))))], []⟩ := by
  refine L_body (b := b_spec_caMeet) rfl rfl 0 ?_
  intro fuel _
  by_cases h1 : e.version < x.version
  · simp -implicitDefEqProofs [b_spec_caMeet, h1]
  by_cases h2 : x.version < e.version
  · simp -implicitDefEqProofs [b_spec_caMeet, h1, h2]
  have hS := L_caSame (hand := handF) x e
  cases h3 : sameQ x e with
  | false =>
    rw [h3] at hS
    simp -implicitDefEqProofs [b_spec_caMeet, h1, h2, hS, h3]
  | true =>
    rw [h3] at hS
    have hE := L_caEntry (hand := handF) (meetE x e)
    have hE : L0 n_spec_caEntry [.imm (.agg [.c (.val (.string x.name)), .c (cS x.system), .c (.val (int x.box.k)), .c (cI x.box.low), .c (cI x.box.high), .c (.val (int (max x.least e.least))), .c (.val (int (min x.most e.most))), .c (.val (int x.version))])] = some (resB (entryOk (qE (meetE x e)))) := hE
    simp -implicitDefEqProofs [b_spec_caMeet, h1, h2, hS, h3, L_l1Most, L_l1Least, hE]
    exact ⟨rfl, ⟨rfl, rfl⟩, rfl, ⟨rfl, rfl⟩, ⟨rfl, rfl⟩, rfl, rfl, rfl⟩
end Go.Proofs.YtecmolmlojehgaaGreat.T
namespace Go.Proofs.YtecmolmlojehgaaGreat.T
open Go
set_option maxHeartbeats 8000000
attribute [-simp] List.getElem_cons_drop List.map_drop List.map_take List.map_map eqCells
theorem bareRow_bare {α : Type} (a : Row α) : bareRow (bareRow a) = bareRow a := rfl
theorem bareS_bare (s : Sys) : bareS (bareS s) = bareS s := by
  simp only [bareS, List.map_map]
  rfl
theorem bareB_bare (b : BoxV) : bareB (bareB b) = bareB b := rfl
theorem bareE_bare (e : EntryV) : bareE (bareE e) = bareE e := by
  simp only [bareE, bareS_bare]; rfl
theorem bareE_name (e : EntryV) : (bareE e).name = e.name := rfl
theorem bareE_version (e : EntryV) : (bareE e).version = e.version := rfl
theorem sameQ_bare (x e : EntryV) : sameQ (bareE x) (bareE e) = sameQ x e := by
  have h : ∀ s : Sys, pS (bareS s) = pS s := fun s => by simp [pS, bareS, bareRow, Function.comp_def, List.map_map]
  simp only [sameQ, bareE, h]; rfl
theorem meetE_bare (x e : EntryV) : bareE (meetE x e) = meetE (bareE x) (bareE e) := rfl
theorem placeGo_bare (n : ByteArray) : ∀ l : List EntryV, placeGo n (l.map bareE) = placeGo n l
  | [] => rfl
  | e :: r => by simp only [List.map_cons, placeGo, bareE_name, placeGo_bare n r]
theorem atB_bare (l : List EntryV) (k : Nat) (n : ByteArray) : atB (l.map bareE) k n = atB l k n := by
  unfold atB
  rw [List.getElem?_map]
  cases l[k]? <;> rfl
/-- Entries with another one in its place. -/
def putL (l : List EntryV) (e : EntryV) : List EntryV := if atB l (placeGo e.name l) e.name = true then l.set (placeGo e.name l) (bareE e) else l.take (placeGo e.name l) ++ [bareE e] ++ l.drop (placeGo e.name l)
theorem putL_length (l : List EntryV) (e : EntryV) : (putL l e).length ≤ l.length + 1 := by
  unfold putL
  split
  · simp
  · simp; omega
theorem putL_mem {l : List EntryV} {e x : EntryV} (h : x ∈ putL l e) : x ∈ l ∨ x = bareE e := by
  unfold putL at h
  split at h
  · exact List.mem_or_eq_of_mem_set h
  · simp only [List.mem_append, List.mem_singleton] at h
    rcases h with (h | h) | h
    · exact Or.inl (List.mem_of_mem_take h)
    · exact Or.inr h
    · exact Or.inl (List.mem_of_mem_drop h)
/-- All are bare. -/
def Bare (l : List EntryV) : Prop := ∀ x ∈ l, bareE x = x
theorem Bare.map {l : List EntryV} (h : Bare l) : l.map bareE = l := by
  conv => rhs; rw [← List.map_id l]
  exact List.map_congr_left (fun x hx => h x hx)
theorem bare_map (l : List EntryV) : Bare (l.map bareE) := fun x hx => by
  simp only [List.mem_map] at hx
  obtain ⟨y, _, rfl⟩ := hx
  exact bareE_bare y
theorem Bare.put {l : List EntryV} (h : Bare l) (e : EntryV) : Bare (putL l e) := fun x hx => by
  rcases putL_mem hx with hx | rfl
  · exact h x hx
  · exact bareE_bare e
theorem L_putL (l : List EntryV) (m : EntryV) (hb : Bare l) (hl : l.length ≤ 1000000) (hp : ∀ x ∈ l, SmallE x) (he : SmallE m) : L0 n_spec_caPut [arg (.sl 8 (l.map eE) []), argE m] = some ⟨[.s (.mk .deep (.sl 8 ((putL l m).map eE) []))], []⟩ := by
  have h := L_caPutRow ⟨l, [], by simp; omega⟩ m hl hp he
  have e : cE (bareL (putRow ⟨l, [], by simp; omega⟩ m)) = .sl 8 ((putL l m).map eE) [] := by
    unfold putRow putL
    split
    · simp only [cE, bareL, setRow, List.map_set, hb.map, List.map_nil]
    · have h1 : (insRow (⟨l, [], by simp; omega⟩ : Entries) (placeGo m.name l) m).es = l.take (placeGo m.name l) ++ [m] ++ l.drop (placeGo m.name l) := insRow_es hl _ _
      simp only [cE, bareL, h1, List.map_append, List.map_cons, List.map_nil, List.map_take, List.map_drop, hb.map]
  rw [e] at h
  exact h
theorem small_bare {e : EntryV} (h : SmallE e) : SmallE (bareE e) := by
  obtain ⟨⟨h1, h2⟩, h3, h4⟩ := h
  refine ⟨⟨by simpa [bareE, bareS] using h1, ?_⟩, h3, h4⟩
  intro p hp
  simp only [bareE, bareS, List.mem_map] at hp
  obtain ⟨q, hq, rfl⟩ := hp
  exact h2 q hq
theorem small_meet {x e : EntryV} (h : SmallE x) : SmallE (meetE x e) := h
/-- What an entry becomes where a has one of its name. -/
def meetOpt (a : List EntryV) (e : EntryV) : Option EntryV :=
  if atB a (placeGo e.name a) e.name = true then
    match a[placeGo e.name a]? with
    | some x => if e.version < x.version then some x else if x.version < e.version then some e else if sameQ x e = true then (if entryOk (qE (meetE x e)) = true then some (meetE x e) else none) else none
    | none => none
  else some e
def specGo (a : List EntryV) : List EntryV → List EntryV → Option (List EntryV)
  | out, [] => some out
  | out, e :: r =>
    match meetOpt a e with
    | some m => specGo a (putL out m) r
    | none => none
def joinFin (o : Option (List EntryV)) : Bool × List EntryV :=
  match o with
  | some out => if catOk (out.map qE) = true then (true, out) else (false, [])
  | none => (false, [])
abbrev resJ (r : Bool × List EntryV) : Res := ⟨[.s (.mk .deep (.sl 8 (r.2.map eE) [])), .s (.mk .imm (.val (.bool r.1)))], []⟩
theorem qL_list {l : List EntryV} (h : l.length ≤ 1000000) : qL ⟨l, [], by simp; omega⟩ = l.map qE := rfl
theorem L_caGood' (l : List EntryV) (h : l.length ≤ 1000000) : L0 n_spec_caGood [arg (.sl 8 (l.map eE) [])] = some (resB (catOk (l.map qE))) := L_caGood (hand := handF) ⟨l, [], by simp; omega⟩
theorem L_specJoin (X Y : Entries) (hxy : X.es.length + Y.es.length ≤ 1000000) (px : ∀ e ∈ X.es, SmallE e) (py : ∀ e ∈ Y.es, SmallE e) :
    L0 n_spec_JoinCatalogues [arg (cE X), arg (cE Y)] = some (resJ (if catOk (qL X) = true ∧ catOk (qL Y) = true then joinFin (specGo X.es (X.es.map bareE) Y.es) else (false, []))) := by
  refine L_body (b := b_spec_JoinCatalogues) rfl rfl Y.es.length ?_
  intro fuel hfuel
  cases c1 : catOk (qL X) with
  | false => simp -implicitDefEqProofs [b_spec_JoinCatalogues, L_caGood, c1]
  | true =>
  cases c2 : catOk (qL Y) with
  | false => simp -implicitDefEqProofs [b_spec_JoinCatalogues, L_caGood, c1, c2]
  | true =>
  have hO := L_spec_caOwnAll X (by omega) px
  have hO : L0 n_spec_caOwnAll [arg (cE X)] = some ⟨[.s (.mk .deep (.sl 8 ((X.es.map bareE).map eE) []))], []⟩ := hO
  have hnl : (X.es.map bareE).length ≤ X.es.length := by simp
  have hps : ∀ x ∈ X.es.map bareE, SmallE x := by
    intro x hx
    simp only [List.mem_map] at hx
    obtain ⟨y, hy, rfl⟩ := hx
    exact small_bare (px y hy)
  have hbr := bare_map X.es
  generalize X.es.map bareE = out0 at hO hnl hps hbr ⊢
  simp -implicitDefEqProofs [b_spec_JoinCatalogues, L_caGood, c1, c2, hO]
  refine (K_it (fun s : Nat × List EntryV => [(24, vI s.1), (6, .sv (.ref 65344 [] 0 s.2.length))]) (fun s => [(65344, .arr true false (.sl 8 (s.2.map eE) []))]) (fun s => some (resJ (joinFin (specGo X.es s.2 (Y.es.drop s.1))))) (fun s => Y.es.length - s.1) (fun s => s.1 ≤ Y.es.length ∧ s.2.length ≤ X.es.length + s.1 ∧ Bare s.2 ∧ ∀ x ∈ s.2, SmallE x) (0, out0) ⟨by simp, by simpa using hnl, hbr, hps⟩ (by simp; omega) (by simp) ?_).trans (by simp)
  rintro ⟨i, out⟩ ⟨hi, hl, hb, hp⟩ K hK
  simp only at hi hl hb hp
  by_cases hlt : i < Y.es.length
  · rw [drop_cons hlt]
    have hs := wrap_succ (show i < 9223372036854775807 by omega)
    have hsm := py _ (List.getElem_mem hlt)
    have hP := L_caPlace X Y.es[i].name
    have hA := L_caAt X (placeGo Y.es[i].name X.es) Y.es[i].name
    obtain ⟨k, hk⟩ : ∃ k, k = placeGo Y.es[i].name X.es := ⟨_, rfl⟩
    have step : ∀ m, SmallE m → L0 n_spec_caPut [arg (.sl 8 (out.map eE) []), argE m] = some ⟨[.s (.mk .deep (.sl 8 ((putL out m).map eE) []))], []⟩ := fun m hm => L_putL out m hb (by omega) hp hm
    have hsmall : ∀ m, SmallE m → ∀ x ∈ putL out m, SmallE x := fun m hm x hx => by
      rcases putL_mem hx with hx | rfl
      · exact hp x hx
      · exact small_bare hm
    have hlen : ∀ m, (putL out m).length ≤ X.es.length + (i + 1) := fun m => by have := putL_length out m; omega
    rw [← hk] at hP hA
    simp only [specGo, meetOpt]
    rw [← hk]
    cases hat : atB X.es k Y.es[i].name with
    | false =>
      rw [hat] at hA
      simp only [Bool.false_eq_true, if_false]
      have hgo := hK (i + 1, putL out Y.es[i])
      have hst := step _ hsm
      have hl' := hlen Y.es[i]
      have hb' := hb.put Y.es[i]
      have hs' := hsmall _ hsm
      generalize putL out Y.es[i] = out' at hgo hst hl' hb' hs' ⊢
      simp -implicitDefEqProofs [l1_spec_JoinCatalogues, hlt, hP, hA, hst]
      exact hgo _ ⟨by simp; omega, hl', hb', hs'⟩ (by simp; omega) (by simp [hs])
    | true =>
      rw [hat] at hA
      have hkl : k < X.es.length := by
        apply Nat.lt_of_not_le
        intro h
        simp [atB, List.getElem?_eq_none h] at hat
      have hxs := px _ (List.getElem_mem hkl)
      have hM := L_caMeet X.es[k] Y.es[i]
      rw [List.getElem?_eq_getElem hkl]
      simp only [if_true]
      generalize hx : X.es[k] = x at hM hxs ⊢
      by_cases v1 : Y.es[i].version < x.version
      · simp only [v1, if_true] at hM ⊢
        simp at hM
        have hgo := hK (i + 1, putL out x)
        have hst := step _ hxs
        have hl' := hlen x
        have hb' := hb.put x
        have hs' := hsmall _ hxs
        generalize putL out x = out' at hgo hst hl' hb' hs' ⊢
        simp -implicitDefEqProofs [l1_spec_JoinCatalogues, hlt, hkl, hx, hP, hA, hM, hst]
        exact hgo _ ⟨by simp; omega, hl', hb', hs'⟩ (by simp; omega) (by simp [hs])
      · by_cases v2 : x.version < Y.es[i].version
        · simp only [v1, v2, if_true, if_false] at hM ⊢
          simp at hM
          have hgo := hK (i + 1, putL out Y.es[i])
          have hst := step _ hsm
          have hl' := hlen Y.es[i]
          have hb' := hb.put Y.es[i]
          have hs' := hsmall _ hsm
          generalize putL out Y.es[i] = out' at hgo hst hl' hb' hs' ⊢
          simp -implicitDefEqProofs [l1_spec_JoinCatalogues, hlt, hkl, hx, hP, hA, hM, hst]
          exact hgo _ ⟨by simp; omega, hl', hb', hs'⟩ (by simp; omega) (by simp [hs])
        · cases v3 : sameQ x Y.es[i] with
          | false =>
            simp only [v1, v2, v3, if_false] at hM ⊢
            simp at hM
            simp -implicitDefEqProofs [l1_spec_JoinCatalogues, hlt, hkl, hx, hP, hA, hM, joinFin]
          | true =>
            simp only [v1, v2, v3, if_true, if_false] at hM ⊢
            cases v4 : entryOk (qE (meetE x Y.es[i])) with
            | false =>
              rw [v4] at hM
              simp at hM
              simp -implicitDefEqProofs [l1_spec_JoinCatalogues, hlt, hkl, hx, hP, hA, hM, joinFin]
            | true =>
              rw [v4] at hM
              simp at hM
              simp only [if_true]
              have hgo := hK (i + 1, putL out (meetE x Y.es[i]))
              have hst := step _ (small_meet (e := Y.es[i]) hxs)
              have hl' := hlen (meetE x Y.es[i])
              have hb' := hb.put (meetE x Y.es[i])
              have hs' := hsmall _ (small_meet (e := Y.es[i]) hxs)
              generalize putL out (meetE x Y.es[i]) = out' at hgo hst hl' hb' hs' ⊢
              generalize meetE x Y.es[i] = m at hM hst
              simp -implicitDefEqProofs [l1_spec_JoinCatalogues, hlt, hkl, hx, hP, hA, hM, hst]
              exact hgo _ ⟨by simp; omega, hl', hb', hs'⟩ (by simp; omega) (by simp [hs])
  · rw [drop_end hlt]
    have hG := L_caGood' out (by omega)
    cases c3 : catOk (out.map qE) with
    | false =>
      rw [c3] at hG
      simp -implicitDefEqProofs [l1_spec_JoinCatalogues, hlt, hG, specGo, joinFin, c3]
    | true =>
      rw [c3] at hG
      simp -implicitDefEqProofs [l1_spec_JoinCatalogues, hlt, hG, specGo, joinFin, c3]
end Go.Proofs.YtecmolmlojehgaaGreat.T
namespace Go.Proofs.YtecmolmlojehgaaGreat.T
open Go
set_option maxHeartbeats 8000000
attribute [-simp] List.getElem_cons_drop List.map_drop List.map_take List.map_map eqCells
abbrev SortedL (l : List EntryV) : Prop := l.Pairwise (fun a b => lessN a.name b.name = true)
theorem L_entryPlace' (l : List EntryV) (n : ByteArray) (hl : l.length ≤ 1000000) (hs : SortedL l) : L0 n_impl_entryPlace [arg (.sl 8 (l.map eE) []), argV (.string n)] = some ⟨[.s (.mk .imm (.val (int (placeGo n l : Nat)))), .s (.mk .imm (.val (.bool (atB l (placeGo n l) n))))], []⟩ :=
  L_entryPlace ⟨l, [], by simp; omega⟩ n hl (place_mono n hs)
theorem L_Insert (R : List (List C)) (x : List C) (k n : Nat) (hn : n = R.length) (hk : k ≤ n) (hl : n ≤ 1000000) :
    L0 n_slices_Insert_SimplEntryimplEntry [own (.sl 8 R []) n, argI k, own (.sl 8 [x] []) 1] = some ⟨[.s (.mk .deep (.sl 8 (R.take k ++ [x] ++ R.drop k) []))], [none, none]⟩ := by
  subst hn
  refine L_hand rfl ?_
  rw [show (prog handF).hand n_slices_Insert_SimplEntryimplEntry [own (.sl 8 R []) R.length, argI k, own (.sl 8 [x] []) 1] = handInsert 8 [own (.sl 8 R []) R.length, argI k, own (.sl 8 [x] []) 1] from rfl]
  simp [handInsert, hk, hl]
def implGo : List EntryV → List EntryV → Option (List EntryV)
  | out, [] => some out
  | out, e :: r =>
    if atB out (placeGo e.name out) e.name = true then
      match out[placeGo e.name out]? with
      | some x => if x.version < e.version then implGo (out.set (placeGo e.name out) e) r
        else if e.version = x.version then (if sameQ e x = true then implGo (out.set (placeGo e.name out) (meetE x e)) r else none)
        else implGo out r
      | none => none
    else implGo (out.take (placeGo e.name out) ++ [e] ++ out.drop (placeGo e.name out)) r
theorem placeGo_ge (n : ByteArray) : ∀ (l : List EntryV) (h : placeGo n l < l.length), lessN (l[placeGo n l]).name n = false
  | [], h => by simp at h
  | e :: r, h => by
    cases c : lessN e.name n with
    | false =>
      have hpl : placeGo n (e :: r) = 0 := by rw [placeGo, if_neg (by rw [c]; simp)]
      simp only [hpl, List.getElem_cons_zero, c]
    | true =>
      have hpl : placeGo n (e :: r) = placeGo n r + 1 := by rw [placeGo, if_pos c]
      simp only [hpl, List.getElem_cons_succ]
      rw [hpl] at h
      exact placeGo_ge n r (by simpa using h)
theorem bytes_tri : ∀ (a b : List UInt8), Op.bytesLess a b = false → a ≠ b → Op.bytesLess b a = true
  | [], [], _, h => absurd rfl h
  | [], y :: b, h, _ => by simp [Op.bytesLess] at h
  | x :: a, [], _, _ => by simp [Op.bytesLess]
  | x :: a, y :: b, h, hn => by
    simp only [Op.bytesLess, Bool.or_eq_false_iff, decide_eq_false_iff_not, Bool.and_eq_false_iff] at h
    simp only [Op.bytesLess, Bool.or_eq_true, decide_eq_true_eq, Bool.and_eq_true, beq_iff_eq]
    by_cases e : x = y
    · subst e
      refine Or.inr ⟨rfl, bytes_tri a b ?_ (fun h => hn (by rw [h]))⟩
      simpa using h.2
    · refine Or.inl ?_
      have := h.1
      simp only [UInt8.lt_iff_toNat_lt] at this ⊢
      have : x.toNat ≠ y.toNat := fun h => e (UInt8.toNat_inj.1 h)
      omega
theorem sorted_ins {l : List EntryV} (hs : SortedL l) (e : EntryV) (hat : atB l (placeGo e.name l) e.name = false) : SortedL (l.take (placeGo e.name l) ++ [e] ++ l.drop (placeGo e.name l)) := by
  have hpm := place_mono e.name hs
  obtain ⟨k, hk⟩ : ∃ k, k = placeGo e.name l := ⟨_, rfl⟩
  have hge := placeGo_ge e.name l
  rw [← hk] at hat ⊢
  have h1 : ∀ x ∈ l.take k, lessN x.name e.name = true := by
    intro x hx
    obtain ⟨i, hi, rfl⟩ := List.getElem_of_mem hx
    simp only [List.length_take] at hi
    rw [List.getElem_take, hpm i (by omega)]
    simp; omega
  have h2 : ∀ x ∈ l.drop k, lessN e.name x.name = true := by
    intro x hx
    by_cases hkl : k < l.length
    · have h0 : lessN e.name l[k].name = true := by
        have h3 := hge (by omega)
        simp only [← hk] at h3
        refine bytes_tri _ _ h3 ?_
        intro h
        simp [atB, List.getElem?_eq_getElem hkl] at hat
        have h2 : eqN l[k].name e.name = true := by simp only [eqN, beq_iff_eq]; exact h
        rw [h2] at hat; cases hat
      obtain ⟨i, hi, rfl⟩ := List.getElem_of_mem hx
      simp only [List.length_drop] at hi
      rw [List.getElem_drop]
      cases i with
      | zero => exact h0
      | succ i =>
        have := List.pairwise_iff_getElem.1 hs k (k + (i + 1)) hkl (by omega) (by omega)
        exact lessN_trans h0 this
    · rw [List.drop_eq_nil_of_le (by omega)] at hx; simp at hx
  have h3 : SortedL (l.take k) := hs.sublist (List.take_sublist _ _)
  have h4 : SortedL (l.drop k) := hs.sublist (List.drop_sublist _ _)
  rw [List.append_assoc]
  refine List.pairwise_append.2 ⟨h3, ?_, ?_⟩
  · simp only [List.singleton_append, List.pairwise_cons]
    exact ⟨h2, h4⟩
  · intro a ha b hb
    simp only [List.singleton_append, List.mem_cons] at hb
    rcases hb with rfl | hb
    · exact h1 a ha
    · exact lessN_trans (h1 a ha) (h2 b hb)
abbrev nmL (x : EntryV) : List UInt8 := x.name.toList
theorem sorted_names {l m : List EntryV} (h : l.map nmL = m.map nmL) (hs : SortedL l) : SortedL m := by
  have e : ∀ l : List EntryV, SortedL l ↔ (l.map nmL).Pairwise (fun a b => Op.bytesLess a b = true) := fun l => by rw [List.pairwise_map]; rfl
  rw [e] at hs ⊢
  rw [← h]; exact hs
theorem names_set {l : List EntryV} {k : Nat} {x e : EntryV} (h : l[k]? = some x) (hn : nmL e = nmL x) : (l.set k e).map nmL = l.map nmL := by
  rw [List.map_set, hn]
  apply List.ext_getElem?
  intro i
  by_cases hi : i = k
  · subst hi
    have : i < l.length := by
      apply Nat.lt_of_not_le; intro h2; rw [List.getElem?_eq_none h2] at h; simp at h
    rw [List.getElem?_set_self (by simpa using this), List.getElem?_map, h]; rfl
  · rw [List.getElem?_set_ne (Ne.symm hi)]
theorem L_implJoin (X Y : Entries) (hxy : X.es.length + Y.es.length ≤ 1000000) (px : ∀ e ∈ X.es, SmallE e) (py : ∀ e ∈ Y.es, SmallE e) (sx : catOk (qL X) = true → SortedL X.es) (bx : catOk (qL X) = true → ∀ e ∈ X.es, boxOk (pB e.box) = true) (by' : catOk (qL Y) = true → ∀ e ∈ Y.es, boxOk (pB e.box) = true) :
    L0 n_impl_JoinCatalogues [arg (cE X), arg (cE Y)] = some (resJ (if catOk (qL X) = true ∧ catOk (qL Y) = true then joinFin (implGo (X.es.map bareE) (Y.es.map bareE)) else (false, []))) := by
  refine L_body (b := b_impl_JoinCatalogues) rfl rfl Y.es.length ?_
  intro fuel hfuel
  cases c1 : catOk (qL X) with
  | false => simp -implicitDefEqProofs [b_impl_JoinCatalogues, L_isCatalogue, c1]
  | true =>
  cases c2 : catOk (qL Y) with
  | false => simp -implicitDefEqProofs [b_impl_JoinCatalogues, L_isCatalogue, c1, c2]
  | true =>
  have hO := L_impl_copyEntries X (by omega) px
  have hO : L0 n_impl_copyEntries [arg (cE X)] = some ⟨[.s (.mk .deep (.sl 8 ((X.es.map bareE).map eE) []))], []⟩ := hO
  have hnl : (X.es.map bareE).length ≤ X.es.length := by simp
  have hss : SortedL (X.es.map bareE) := sorted_names (by rw [List.map_map]; rfl) (sx c1)
  have hbb : ∀ x ∈ X.es.map bareE, boxOk (pB x.box) = true := by
    intro x hx
    simp only [List.mem_map] at hx
    obtain ⟨y, hy, rfl⟩ := hx
    exact bx c1 y hy
  have by2 := by' c2
  generalize X.es.map bareE = out0 at hO hnl hss hbb ⊢
  simp -implicitDefEqProofs [b_impl_JoinCatalogues, L_isCatalogue, c1, c2, hO]
  refine (K_it (fun s : Nat × List EntryV => [(23, vI s.1), (6, .sv (.ref 65280 [] 0 s.2.length))]) (fun s => [(65280, .arr true false (.sl 8 (s.2.map eE) []))]) (fun s => some (resJ (joinFin (implGo s.2 ((Y.es.drop s.1).map bareE))))) (fun s => Y.es.length - s.1) (fun s => s.1 ≤ Y.es.length ∧ s.2.length ≤ X.es.length + s.1 ∧ SortedL s.2 ∧ ∀ x ∈ s.2, boxOk (pB x.box) = true) (0, out0) ⟨by simp, by simpa using hnl, hss, hbb⟩ (by simp; omega) (by simp) ?_).trans (by simp)
  rintro ⟨i, out⟩ ⟨hi, hl, hb, hp⟩ K hK
  simp only at hi hl hb hp
  by_cases hlt : i < Y.es.length
  · rw [drop_cons hlt, List.map_cons]
    have hs := wrap_succ (show i < 9223372036854775807 by omega)
    have hsm := py _ (List.getElem_mem hlt)
    have hbx := by2 _ (List.getElem_mem hlt)
    have hC := L_copyEntry _ hsm
    replace hbx : boxOk (pB (bareE Y.es[i]).box) = true := hbx
    have hs1 : (bareE Y.es[i]).system.sp = [] := rfl
    have hs2 : (bareE Y.es[i]).box.low.sp = [] := rfl
    have hs3 : (bareE Y.es[i]).box.high.sp = [] := rfl
    generalize bareE Y.es[i] = e at hC hbx hs1 hs2 hs3 ⊢
    have hE := L_entryPlace' out e.name (by omega) hb
    obtain ⟨k, hk⟩ : ∃ k, k = placeGo e.name out := ⟨_, rfl⟩
    have hkl0 : k ≤ out.length := by rw [hk]; exact placeGo_le _ _
    rw [← hk] at hE
    simp only [implGo]
    rw [← hk]
    have hx : eE e = [.val (.string e.name), .sl 1 (e.system.es.map eP) [], .val (int e.box.k), .fl 1 (e.box.low.es.map eI) [], .fl 1 (e.box.high.es.map eI) [], .val (int e.least), .val (int e.most), .val (int e.version)] := by simp [eE, cS, cI, hs1, hs2, hs3]
    cases hat : atB out k e.name with
    | false =>
      have hins := sorted_ins hb e (by rw [← hk]; exact hat)
      rw [← hk] at hins
      rw [hat] at hE
      simp only [Bool.false_eq_true, if_false]
      have hgo := hK (i + 1, out.take k ++ [e] ++ out.drop k)
      have hI := L_Insert (out.map eE) (eE e) k out.length (by simp) hkl0 (by omega)
      have hl' : (out.take k ++ [e] ++ out.drop k).length = out.length + 1 := by simp; omega
      have hm' : (out.take k ++ [e] ++ out.drop k).map eE = (out.map eE).take k ++ [eE e] ++ (out.map eE).drop k := by simp [List.map_take, List.map_drop]
      have hp' : ∀ x ∈ out.take k ++ [e] ++ out.drop k, boxOk (pB x.box) = true := by
        intro x hx
        simp only [List.mem_append, List.mem_singleton] at hx
        rcases hx with (hx | rfl) | hx
        · exact hp x (List.mem_of_mem_take hx)
        · exact hbx
        · exact hp x (List.mem_of_mem_drop hx)
      rw [← hm', hx] at hI
      generalize out.take k ++ [e] ++ out.drop k = out' at hgo hI hl' hp' hins ⊢
      simp -implicitDefEqProofs [l1_impl_JoinCatalogues, hlt, hC, hE, hI, hs1, hs2, hs3]
      exact hgo _ ⟨by simp; omega, by simp; omega, hins, hp'⟩ (by simp; omega) (by simp [hs])
    | true =>
      rw [hat] at hE
      have hkl : k < out.length := by
        apply Nat.lt_of_not_le
        intro h
        simp [atB, List.getElem?_eq_none h] at hat
      have hxb := hp _ (List.getElem_mem hkl)
      have hnm : nmL e = nmL out[k] := by
        simp [atB, List.getElem?_eq_getElem hkl, eqN] at hat
        exact hat.symm
      have hS : L0 n_impl_sameSystem [.imm (.s (.pm (eE e) 0)), .imm (.s (.pm (eE out[k]) 0))] = some (resB (sameQ e out[k])) := L_sameSystem (hand := handF) e out[k] hbx hxb
      rw [List.getElem?_eq_getElem hkl]
      simp only [if_true]
      have hset : ∀ y : EntryV, (out.set k y).map eE = (out.map eE).set k (eE y) := fun y => List.map_set
      have hge : (out.map eE)[k]'(by simpa using hkl) = eE out[k] := by simp
      have hsb : ∀ y : EntryV, boxOk (pB y.box) = true → ∀ x ∈ out.set k y, boxOk (pB x.box) = true := by
        intro y hy x hx
        rcases List.mem_or_eq_of_mem_set hx with hx | rfl
        · exact hp x hx
        · exact hy
      have hss : ∀ y : EntryV, nmL y = nmL out[k] → SortedL (out.set k y) := fun y hy => sorted_names (names_set (List.getElem?_eq_getElem hkl) hy).symm hb
      rw [hx] at hS
      have hgl : (out.map eE).length = out.length := by simp
      generalize out[k] = x at hS hxb hnm hge hss ⊢
      by_cases v1 : x.version < e.version
      · simp only [v1, if_true]
        have hgo := hK (i + 1, out.set k e)
        have hsb' := hsb e hbx
        have hss' := hss e hnm
        have hm' := hset e
        rw [hx] at hm'
        have hl' : (out.set k e).length = out.length := by simp
        simp -implicitDefEqProofs [l1_impl_JoinCatalogues, hlt, hkl, hC, hE, hs1, hs2, hs3, hge, hgl, v1]
        rw [← hm', ← hl']
        generalize out.set k e = out' at hgo hsb' hss' hl' ⊢
        exact hgo _ ⟨by simp; omega, by simp; omega, hss', hsb'⟩ (by simp; omega) (by simp [hs])
      · by_cases v2 : e.version = x.version
        · cases v3 : sameQ e x with
          | false =>
            rw [v3, v2] at hS
            simp -implicitDefEqProofs [l1_impl_JoinCatalogues, hlt, hkl, hC, hE, hs1, hs2, hs3, hge, hgl, v1, v2, hS, v3, joinFin]
          | true =>
            rw [v3, v2] at hS
            have hmax : max x.least e.least = if x.least < e.least then e.least else x.least := by split <;> omega
            have hmin : min x.most e.most = if e.most < x.most then e.most else x.most := by split <;> omega
            have hgo := hK (i + 1, out.set k (meetE x e))
            have hsb' := hsb (meetE x e) hxb
            have hss' := hss (meetE x e) rfl
            have hm' := hset (meetE x e)
            have hme : eE (meetE x e) = [C.val (Value.string x.name), cS x.system, C.val (int x.box.k), cI x.box.low, cI x.box.high, C.val (Value.int IntKind.i64 (if x.least < e.least then e.least else x.least)), C.val (Value.int IntKind.i64 (if e.most < x.most then e.most else x.most)), C.val (int x.version)] := by rw [← hmax, ← hmin]; rfl
            rw [hme] at hm'
            have hl' : (out.set k (meetE x e)).length = out.length := by simp
            simp -implicitDefEqProofs [l1_impl_JoinCatalogues, hlt, hkl, hC, hE, hs1, hs2, hs3, hge, hgl, v1, v2, hS]
            rw [← hm', ← hl']
            generalize out.set k (meetE x e) = out' at hgo hsb' hss' hl' ⊢
            exact hgo _ ⟨by simp; omega, by simp; omega, hss', hsb'⟩ (by simp; omega) (by simp [hs])
        · simp only [v1, v2, if_false]
          have hgo := hK (i + 1, out)
          simp -implicitDefEqProofs [l1_impl_JoinCatalogues, hlt, hkl, hC, hE, hs1, hs2, hs3, hge, hgl, v1, v2]
          exact hgo _ ⟨by simp; omega, by simp; omega, hb, hp⟩ (by simp; omega) (by simp [hs])
  · rw [drop_end hlt]
    have hR := L_catalogueResult ⟨out, [], by simp; omega⟩ rfl
    have hR : L0 n_impl_catalogueResult [own (.sl 8 (out.map eE) []) out.length] = some (if catOk (out.map qE) then ⟨[.s (.mk .deep (.sl 8 (out.map eE) [])), .s (.mk .imm (.val (.bool true)))], [none]⟩ else ⟨[.s (.mk .deep (.sl 8 [] [])), .s (.mk .imm (.val (.bool false)))], [some (.arr true false (.sl 8 (out.map eE) []))]⟩) := hR
    cases c3 : catOk (out.map qE) with
    | false =>
      rw [c3] at hR
      simp at hR
      simp -implicitDefEqProofs [l1_impl_JoinCatalogues, hlt, hR, implGo, joinFin, c3]
    | true =>
      rw [c3] at hR
      simp at hR
      simp -implicitDefEqProofs [l1_impl_JoinCatalogues, hlt, hR, implGo, joinFin, c3]
end Go.Proofs.YtecmolmlojehgaaGreat.T
namespace Go.Proofs.YtecmolmlojehgaaGreat.T
open Go
set_option maxHeartbeats 2000000
theorem less_irrefl : ∀ l : List UInt8, Op.bytesLess l l = false
  | [] => rfl
  | x :: r => by simp [Op.bytesLess, less_irrefl r]
theorem found {l : List EntryV} (hs : SortedL l) (n : ByteArray) (x : EntryV) : (x ∈ l ∧ nmL x = n.toList) ↔ (atB l (placeGo n l) n = true ∧ l[placeGo n l]? = some x) := by
  constructor
  · rintro ⟨hx, hn⟩
    obtain ⟨i, hi, rfl⟩ := List.getElem_of_mem hx
    have h1 : ¬ i < placeGo n l := by
      intro h
      have h2 := (place_iff n hs i hi).2 h
      unfold lessN at h2
      rw [show (l[i]).name.toList = n.toList from hn, less_irrefl] at h2
      cases h2
    have h2 : ¬ placeGo n l < i := by
      intro h
      have hp : placeGo n l < l.length := by omega
      have h3 := placeGo_ge n l hp
      have h4 := List.pairwise_iff_getElem.1 hs _ i hp hi h
      unfold lessN at h3 h4
      rw [show (l[i]).name.toList = n.toList from hn, h3] at h4
      cases h4
    have e : placeGo n l = i := by omega
    rw [e, List.getElem?_eq_getElem hi]
    refine ⟨?_, rfl⟩
    simp only [atB, List.getElem?_eq_getElem hi, eqN, beq_iff_eq]
    exact hn
  · rintro ⟨h1, h2⟩
    refine ⟨List.mem_of_getElem? h2, ?_⟩
    simp only [atB, h2, eqN, beq_iff_eq] at h1
    exact h1
theorem not_found {l : List EntryV} (hs : SortedL l) (n : ByteArray) (h : ∀ x ∈ l, nmL x ≠ n.toList) : atB l (placeGo n l) n = false := by
  cases c : atB l (placeGo n l) n with
  | false => rfl
  | true =>
    cases hg : l[placeGo n l]? with
    | none => rw [atB, hg] at c; cases c
    | some x => exact absurd ((found hs n x).2 ⟨c, hg⟩).2 (h x ((found hs n x).2 ⟨c, hg⟩).1)
theorem mem_set_keep {l : List EntryV} {k : Nat} {x z y : EntryV} (hg : l[k]? = some x) (hz : nmL z = nmL x) (hy : nmL y ≠ nmL x) : y ∈ l.set k z ↔ y ∈ l := by
  constructor
  · intro h
    rcases List.mem_or_eq_of_mem_set h with h | rfl
    · exact h
    · exact absurd hz hy
  · intro h
    obtain ⟨i, hi, rfl⟩ := List.getElem_of_mem h
    have hik : k ≠ i := by
      rintro rfl
      rw [List.getElem?_eq_getElem hi] at hg
      injection hg with hg
      exact hy (by rw [hg])
    rw [List.mem_iff_getElem?]
    exact ⟨i, by rw [List.getElem?_set_ne hik, List.getElem?_eq_getElem hi]⟩
theorem mem_ins {l : List EntryV} {k : Nat} {m y : EntryV} : y ∈ l.take k ++ [m] ++ l.drop k ↔ y = m ∨ y ∈ l := by
  conv => rhs; rw [← List.take_append_drop k l]
  simp only [List.mem_append, List.mem_singleton]
  constructor
  · rintro ((h | h) | h)
    · exact Or.inr (Or.inl h)
    · exact Or.inl h
    · exact Or.inr (Or.inr h)
  · rintro (h | h | h)
    · exact Or.inl (Or.inr h)
    · exact Or.inl (Or.inl h)
    · exact Or.inr h
theorem catGo_all : ∀ {l : List QEntry} {prev : Option ByteArray}, catGo prev l = true → ∀ e ∈ l, entryOk e = true
  | [], _, _, e, he => by simp at he
  | q :: r, none, h, e, he => by
    simp only [catGo, Bool.and_eq_true] at h
    simp only [List.mem_cons] at he
    rcases he with rfl | he
    · exact h.1
    · exact catGo_all h.2 e he
  | q :: r, some p, h, e, he => by
    simp only [catGo, Bool.and_eq_true] at h
    simp only [List.mem_cons] at he
    rcases he with rfl | he
    · exact h.1
    · exact catGo_all h.2.2 e he
theorem joinFin_bad {l : List EntryV} {z : EntryV} (hz : z ∈ l) (hb : entryOk (qE z) = false) : joinFin (some l) = (false, []) := by
  unfold joinFin
  cases c : catOk (l.map qE) with
  | false => simp only [c, Bool.false_eq_true, if_false]
  | true =>
    simp only [catOk, Bool.and_eq_true] at c
    have := catGo_all c.1 _ (List.mem_map_of_mem hz)
    rw [hb] at this; cases this
/-- One that is not right and whose name does not come again spoils it all. -/
theorem implGo_bad {z : EntryV} (hb : entryOk (qE z) = false) : ∀ (r : List EntryV) {out : List EntryV}, SortedL out → z ∈ out → (∀ e ∈ r, nmL e ≠ nmL z) → joinFin (implGo out r) = (false, [])
  | [], out, _, hz, _ => joinFin_bad hz hb
  | e :: r, out, hs, hz, hr => by
    have h0 := hr e (List.mem_cons_self ..)
    have hr' : ∀ e ∈ r, nmL e ≠ nmL z := fun e he => hr e (List.mem_cons_of_mem _ he)
    cases c : atB out (placeGo e.name out) e.name with
    | false =>
      simp only [implGo, c, Bool.false_eq_true, if_false]
      exact implGo_bad hb r (sorted_ins hs e c) (mem_ins.2 (Or.inr hz)) hr'
    | true =>
      simp only [implGo, c, if_true]
      cases hg : out[placeGo e.name out]? with
      | none => rfl
      | some x =>
        have hx := ((found hs e.name x).2 ⟨c, hg⟩).2
        have hzx : nmL z ≠ nmL x := fun h => h0 (by rw [h, hx])
        simp only
        split
        · exact implGo_bad hb r (sorted_names (names_set hg hx.symm).symm hs) ((mem_set_keep hg hx.symm hzx).2 hz) hr'
        · split
          · split
            · exact implGo_bad hb r (sorted_names (names_set (e := meetE x e) hg rfl).symm hs) ((mem_set_keep (z := meetE x e) hg rfl hzx).2 hz) hr'
            · rfl
          · exact implGo_bad hb r hs hz hr'
theorem sameQ_comm (x e : EntryV) : sameQ x e = sameQ e x := by
  have : ∀ {α : Type} [BEq α] [LawfulBEq α] (a b : α), (a == b) = (b == a) := fun a b => by
    rw [Bool.eq_iff_iff, beq_iff_eq, beq_iff_eq]; exact eq_comm
  simp only [sameQ]
  rw [this (pS x.system), this (pB x.box)]
theorem nmL_bare (e : EntryV) : nmL (bareE e) = nmL e := rfl
theorem set_self {α : Type} {l : List α} {k : Nat} {x : α} (h : l[k]? = some x) : l.set k x = l := by
  apply List.ext_getElem?
  intro i
  by_cases hi : k = i
  · subst hi
    have : k < l.length := by
      apply Nat.lt_of_not_le; intro h2; rw [List.getElem?_eq_none h2] at h; simp at h
    rw [List.getElem?_set_self this, h]
  · rw [List.getElem?_set_ne hi]
theorem join_same {a : List EntryV} (ha : SortedL a) : ∀ (r : List EntryV) {out : List EntryV}, SortedL out → SortedL r → (∀ e ∈ r, ∀ y, (y ∈ out ∧ nmL y = nmL e) ↔ ∃ x ∈ a, nmL x = nmL e ∧ y = bareE x) →
    joinFin (specGo a out r) = joinFin (implGo out (r.map bareE))
  | [], _, _, _, _ => rfl
  | e :: r, out, hs, hr, hI => by
    obtain ⟨hr1, hr2⟩ := List.pairwise_cons.1 hr
    have hne : ∀ e' ∈ r, nmL e' ≠ nmL e := by
      intro e' he' h
      have := hr1 e' he'
      unfold lessN at this
      rw [show e'.name.toList = e.name.toList from h, less_irrefl] at this
      cases this
    have hI0 := hI e (List.mem_cons_self ..)
    have hI' : ∀ e ∈ r, ∀ y, (y ∈ out ∧ nmL y = nmL e) ↔ ∃ x ∈ a, nmL x = nmL e ∧ y = bareE x := fun e he => hI e (List.mem_cons_of_mem _ he)
    obtain ⟨k, hk⟩ : ∃ k, k = placeGo e.name out := ⟨_, rfl⟩
    obtain ⟨j, hj⟩ : ∃ j, j = placeGo e.name a := ⟨_, rfl⟩
    have hset : ∀ (x z : EntryV), out[k]? = some x → nmL x = nmL e → nmL z = nmL e → SortedL (out.set k z) ∧ ∀ e ∈ r, ∀ y, (y ∈ out.set k z ∧ nmL y = nmL e) ↔ ∃ x ∈ a, nmL x = nmL e ∧ y = bareE x := by
      intro x z hg hx hz
      refine ⟨sorted_names (names_set hg (hz.trans hx.symm)).symm hs, fun e' he' y => ?_⟩
      rw [← hI' e' he' y]
      constructor
      · rintro ⟨h1, h2⟩
        exact ⟨(mem_set_keep hg (hz.trans hx.symm) (by rw [h2, hx]; exact hne e' he')).1 h1, h2⟩
      · rintro ⟨h1, h2⟩
        exact ⟨(mem_set_keep hg (hz.trans hx.symm) (by rw [h2, hx]; exact hne e' he')).2 h1, h2⟩
    have hput : ∀ m : EntryV, nmL m = nmL e → atB out k e.name = true → putL out m = out.set k (bareE m) := by
      intro m hm hat
      have hp : placeGo m.name out = k := by rw [hk]; exact placeGo_congr hm out
      unfold putL
      rw [hp, if_pos]
      simp only [atB, eqN] at hat ⊢
      rw [show m.name.toList = e.name.toList from hm]
      exact hat
    have step : implGo out ((e :: r).map bareE) = if atB out k e.name = true then
        match out[k]? with
        | some x => if x.version < e.version then implGo (out.set k (bareE e)) (r.map bareE)
          else if e.version = x.version then (if sameQ (bareE e) x = true then implGo (out.set k (meetE x (bareE e))) (r.map bareE) else none)
          else implGo out (r.map bareE)
        | none => none
      else implGo (out.take k ++ [bareE e] ++ out.drop k) (r.map bareE) := by rw [hk]; rfl
    rw [step]
    cases hat : atB a j e.name with
    | false =>
      have hno : ∀ y ∈ out, nmL y ≠ nmL e := by
        intro y hy hn
        obtain ⟨x, hx, hxn, _⟩ := (hI0 y).1 ⟨hy, hn⟩
        have := ((found ha e.name x).1 ⟨hx, hxn⟩).1
        rw [← hj, hat] at this
        cases this
      have hat2 := not_found hs e.name hno
      have h1 : putL out e = out.take k ++ [bareE e] ++ out.drop k := by
        unfold putL
        rw [← hk] at hat2 ⊢
        rw [hat2, if_neg (by simp)]
      simp only [specGo, meetOpt]
      rw [← hj, hat]
      rw [← hk] at hat2
      rw [hat2]
      simp only [Bool.false_eq_true, if_false]
      rw [h1]
      have hins := sorted_ins hs (bareE e) (by rw [bareE_name, ← hk]; exact hat2)
      rw [bareE_name, ← hk] at hins
      refine join_same ha r hins hr2 (fun e' he' y => ?_)
      rw [← hI' e' he' y, mem_ins]
      constructor
      · rintro ⟨rfl | h1, h2⟩
        · exact absurd h2.symm (hne e' he')
        · exact ⟨h1, h2⟩
      · rintro ⟨h1, h2⟩
        exact ⟨Or.inr h1, h2⟩
    | true =>
      cases hg : a[j]? with
      | none => rw [atB, hg] at hat; cases hat
      | some x =>
        have hx := (found ha e.name x).2 ⟨by rw [← hj]; exact hat, by rw [← hj]; exact hg⟩
        have hin := (hI0 (bareE x)).2 ⟨x, hx.1, hx.2, rfl⟩
        have hf := (found hs e.name (bareE x)).1 hin
        rw [← hk] at hf
        obtain ⟨hf1, hf2⟩ := hf
        simp only [specGo, meetOpt]
        rw [← hj, hat, hf1, hg, hf2]
        obtain ⟨y, hyx⟩ : ∃ y, y = bareE x := ⟨_, rfl⟩
        have hyv : y.version = x.version := by rw [hyx]; rfl
        have hyq : sameQ (bareE e) y = sameQ x e := by rw [hyx, sameQ_bare, sameQ_comm]
        have hym : meetE y (bareE e) = bareE (meetE x e) := by rw [hyx]; rfl
        rw [← hyx] at hf2 ⊢
        simp only [if_true]
        by_cases v1 : e.version < x.version
        · simp only [if_pos v1]
          rw [if_neg (show ¬ y.version < e.version by omega), if_neg (show ¬ e.version = y.version by omega), hput x hx.2 hf1, ← hyx, set_self hf2]
          exact join_same ha r hs hr2 hI'
        · simp only [if_neg v1]
          by_cases v2 : x.version < e.version
          · simp only [if_pos v2]
            rw [hput e rfl hf1, if_pos (show y.version < e.version by omega)]
            obtain ⟨h1, h2⟩ := hset _ (bareE e) hf2 (by rw [hyx]; exact hx.2) rfl
            exact join_same ha r h1 hr2 h2
          · simp only [if_neg v2]
            rw [if_neg (show ¬ y.version < e.version by omega), if_pos (show e.version = y.version by omega), hyq, hym]
            cases v3 : sameQ x e with
            | false => rfl
            | true =>
              simp only [if_true]
              obtain ⟨h1, h2⟩ := hset _ (bareE (meetE x e)) hf2 (by rw [hyx]; exact hx.2) hx.2
              cases v4 : entryOk (qE (meetE x e)) with
              | true =>
                simp only [if_true]
                rw [hput (meetE x e) hx.2 hf1]
                exact join_same ha r h1 hr2 h2
              | false =>
                simp only [Bool.false_eq_true, if_false]
                have hkl : k < out.length := by
                  apply Nat.lt_of_not_le; intro h; rw [List.getElem?_eq_none h] at hf2; simp at hf2
                refine Eq.trans ?_ (implGo_bad (z := bareE (meetE x e)) (by rw [qE_bare]; exact v4) (r.map bareE) h1 (List.mem_set hkl _) ?_).symm
                · rfl
                · intro e' he'
                  simp only [List.mem_map] at he'
                  obtain ⟨e'', he'', rfl⟩ := he'
                  intro h
                  exact hne e'' he'' (h.trans hx.2)
theorem join_law {X Y : Entries} (hx : catOk (qL X) = true) (hy : catOk (qL Y) = true) : joinFin (specGo X.es (X.es.map bareE) Y.es) = joinFin (implGo (X.es.map bareE) (Y.es.map bareE)) := by
  have sx : ∀ {L : Entries}, catOk (qL L) = true → SortedL L.es := by
    intro L h
    simp only [catOk, Bool.and_eq_true] at h
    have := (catGo_sorted h.1).2
    unfold qL at this
    rw [List.pairwise_map] at this
    exact this
  refine join_same (sx hx) Y.es (sorted_names (by rw [List.map_map]; rfl) (sx hx)) (sx hy) (fun e _ y => ?_)
  constructor
  · rintro ⟨h1, h2⟩
    obtain ⟨x, hx, rfl⟩ := List.mem_map.1 h1
    exact ⟨x, hx, h2, rfl⟩
  · rintro ⟨x, hx, h2, rfl⟩
    exact ⟨List.mem_map_of_mem hx, h2⟩
theorem cat_sorted {L : Entries} (h : catOk (qL L) = true) : SortedL L.es := by
  simp only [catOk, Bool.and_eq_true] at h
  have := (catGo_sorted h.1).2
  unfold qL at this
  rw [List.pairwise_map] at this
  exact this
end Go.Proofs.YtecmolmlojehgaaGreat.T
namespace Go.Proofs.YtecmolmlojehgaaGreat.T
open Go
set_option maxHeartbeats 4000000
theorem row_ext {α : Type} {a b : Row α} (h1 : a.es = b.es) (h2 : a.sp = b.sp) : a = b := by
  cases a; cases b; simp only at h1 h2; subst h1 h2; rfl
theorem bareRow_congr {α : Type} {a b : Row α} (h : a.es = b.es) : bareRow a = bareRow b := row_ext h rfl
theorem bare_to (e : EntryV) (b : Bool) (h : SmallE e) : bareE (toEntryV e b) = bareE e := by
  obtain ⟨⟨h1, h2⟩, h3, h4⟩ := h
  have e1 : bareS (toSys e.system b) = bareS e.system := by
    refine row_ext ?_ rfl
    simp only [bareS_es]
    rw [toSys_es _ _ h1, List.map_map]
    apply List.map_congr_left
    intro p hp
    exact bareRow_congr (toPoly_es p b (h2 p hp))
  have e2 : bareB (toBoxV e.box b) = bareB e.box := by
    simp only [bareB, toBoxV]
    rw [bareRow_congr (toInts_es _ _ h3), bareRow_congr (toInts_es _ _ h4)]
  simp only [bareE, toEntryV, e1, e2]
theorem bares_to (a : Entries) (b : Bool) (h : a.es.length ≤ 1000000) (hp : ∀ e ∈ a.es, SmallE e) : (toEntries a b).es.map bareE = a.es.map bareE := by
  rw [toEntries_es a b h, List.map_map]
  apply List.map_congr_left
  intro e he
  exact bare_to e b (hp e he)
/-- What is known of a catalogue of bounded size and of its copies. -/
structure CatP (a X Y : Entries) : Prop where
  len : a.es.length ≤ nEntries a
  lX : X.es.length = a.es.length
  lY : Y.es.length = a.es.length
  small : ∀ e ∈ a.es, SmallE e
  pX : ∀ e ∈ X.es, SmallE e
  pY : ∀ e ∈ Y.es, SmallE e
  qX : qL X = qL a
  qY : qL Y = qL a
  bX : X.es.map bareE = a.es.map bareE
  bY : Y.es.map bareE = a.es.map bareE
  toX : L0 n_laws_toEntryS [arg (cE a), argV (.bool false)] = some ⟨[.s (.mk .deep (cE X))], []⟩
  toY : L0 n_laws_toEntryS [arg (cE a), argV (.bool true)] = some ⟨[.s (.mk .deep (cE Y))], []⟩
  int : L0 n_laws_intactEntryS [arg (cE X), arg (cE X)] = some (resB true)
  mark : ∀ k, 0 < k → k ≤ 1000000000 → ∃ (m : Nat) (M : List (List C)), m ≤ k + 9 * nEntries a ∧ k ≤ m ∧ X.es.length + X.sp.length ≤ M.length ∧ L0 n_laws_markEntryS [own (.sl 8 (X.es.map eE ++ X.sp.map eE) []) X.es.length, argI k] = some (backI m (.sl 8 M []))
theorem catP (a : Entries) (hN : nEntries a ≤ 1000000) : CatP a (toEntries a false) (toEntries a true) := by
  have hl0 : a.es.length ≤ nEntries a := by unfold nEntries; omega
  have hl : a.es.length ≤ 1000000 := by omega
  have hp : ∀ e ∈ a.es, SmallE e := by
    intro e he
    have h3 : nEntry e ≤ 1000000 := by have := mem_le_sum (f := nEntry) he; unfold nEntries at hN; omega
    simp only [nEntry, nSys, nBox] at h3
    refine ⟨⟨by omega, fun p hp => ?_⟩, by omega, by omega⟩
    have h4 := mem_le_sum (f := nPoly) hp
    have h5 : p.es.length = nPoly p := rfl
    omega
  have hcnt : ∀ k, endL cntE k a.es ≤ k + 9 * nEntries a := by
    intro k
    have := sum_le_of (l := a.es) (f := cntE) (g := nEntry) (c := 4) (d := 5) (fun e _ => cntE_le e)
    unfold endL
    unfold nEntries
    omega
  have sm : ∀ b, ∀ e ∈ (toEntries a b).es, SmallE e := by
    intro b e he
    rw [toEntries_es a b hl, List.mem_map] at he
    obtain ⟨x, hx, rfl⟩ := he
    exact small_to (hp x hx) _
  have ln : ∀ b, (toEntries a b).es.length = a.es.length := by intro b; rw [toEntries_es a b hl]; simp
  refine ⟨hl0, ln _, ln _, hp, sm _, sm _, qL_to a _ hl hp, qL_to a _ hl hp, bares_to a _ hl hp, bares_to a _ hl hp, L_toEntryS (hand := handF) a false hl hp, L_toEntryS (hand := handF) a true hl hp, L_intactEntryS (hand := handF) _ (roomy_to hl hp), fun k hk0 hk => ?_⟩
  have hq : endL cntE k (toEntries a false).es = endL cntE k a.es := endL_q (qL_to a false hl hp) k
  have h9 := hcnt k
  have hmk := L_markEntryS (hand := handF) (toEntries a false) k hk0 (by rw [ln]; exact hl) (sm _) (by rw [hq]; omega)
  have lM : (markEs k (toEntries a false)).es.length = (toEntries a false).es.length := markL_length _ _ _ _
  refine ⟨_, (markEs k (toEntries a false)).es.map eE ++ (markEs k (toEntries a false)).sp.map eE, by rw [← hq] at h9; exact h9, by unfold endL; omega, ?_, hmk⟩
  rw [List.length_append, List.length_map, List.length_map, lM, markEs_sp]
  exact Nat.le_refl _
/-- What is known of a result: bare entries, marked and read. -/
structure OutP (W : List EntryV) (m : Nat) (M : List (List C)) : Prop where
  eq : L0 n_laws_eqEntryS [arg (.sl 8 (W.map eE) []), arg (.sl 8 (W.map eE) [])] = some (resB true)
  mark : L0 n_laws_markEntryS [own (.sl 8 (W.map eE) []) (W.map eE).length, argI 101] = some (backI m (.sl 8 M []))
  held : L0 n_laws_heldEntryS [arg (.sl 8 M []), argI 101] = some (resI (m : Int))
  len : M.length = (W.map eE).length
theorem outP (W : List EntryV) (hl : W.length ≤ 1000000) (hp : ∀ e ∈ W, SmallE e) : ∃ m M, OutP W m M := by
  obtain ⟨R, hR⟩ : ∃ R : Entries, R = ⟨W, [], by simp; omega⟩ := ⟨_, rfl⟩
  have e1 : R.es = W := by rw [hR]
  have e2 : R.sp = [] := by rw [hR]
  have hc : ∀ e ∈ W, cntE e ≤ 4000002000010 := by
    intro e he
    obtain ⟨⟨h1, h2⟩, h3, h4⟩ := hp e he
    have h5 : (e.system.es.map cntP).sum ≤ 0 * (e.system.es.map nPoly).sum + 4000000 * e.system.es.length := sum_le_of (fun p hp => by have := h2 p hp; simp [cntP]; omega)
    unfold cntE
    omega
  have hk : endL cntE 101 R.es < 4611686018427387904 := by
    have h6 : (W.map cntE).sum ≤ 0 * (W.map nEntry).sum + 4000002000010 * W.length := sum_le_of (fun e he => by have := hc e he; omega)
    rw [e1]
    unfold endL
    omega
  have hpR : ∀ e ∈ R.es, SmallE e := by rw [e1]; exact hp
  have hEq := L_eqEntryS (hand := handF) R R
  have hM := L_markEntryS (hand := handF) R 101 (by omega) (by rw [e1]; exact hl) hpR hk
  have hH := L_heldEntryS (hand := handF) R 101 (by omega) (by rw [e1]; exact hl) hpR hk
  have c1 : cE R = .sl 8 (W.map eE) [] := by unfold cE; rw [e1, e2]; rfl
  have c2 : wE R = .sl 8 (W.map eE) [] := by unfold wE; rw [e1, e2]; simp
  have c3 : cE (markEs 101 R) = .sl 8 ((markEs 101 R).es.map eE) [] := by unfold cE; rw [markEs_sp, e2]; rfl
  have c4 : wE (markEs 101 R) = .sl 8 ((markEs 101 R).es.map eE) [] := by unfold wE; rw [markEs_sp, e2]; simp
  have lM : (markEs 101 R).es.length = R.es.length := markL_length _ _ _ _
  rw [c1] at hEq
  rw [c2, c4, e1] at hM
  rw [c3] at hH
  simp only [beq_self_eq_true] at hEq
  refine ⟨endL cntE 101 R.es, (markEs 101 R).es.map eE, hEq, ?_, hH, ?_⟩
  · rw [List.length_map, e1]; exact hM
  · rw [List.length_map, List.length_map, lM, e1]
end Go.Proofs.YtecmolmlojehgaaGreat.T
namespace Go.Proofs.YtecmolmlojehgaaGreat.T
open Go
set_option maxHeartbeats 16000000
attribute [-simp] List.getElem_cons_drop List.map_drop List.map_take List.map_map eqCells
theorem meetOpt_small {a : List EntryV} (ha : ∀ x ∈ a, SmallE x) {e m : EntryV} (he : SmallE e) (h : meetOpt a e = some m) : SmallE m := by
  unfold meetOpt at h
  split at h
  · split at h
    · rename_i x hx
      have hs := ha x (List.mem_of_getElem? hx)
      split at h
      · injection h with h; subst h; exact hs
      · split at h
        · injection h with h; subst h; exact he
        · split at h
          · split at h
            · injection h with h; subst h; exact small_meet (e := e) hs
            · cases h
          · cases h
    · cases h
  · injection h with h; subst h; exact he
theorem specGo_small {a : List EntryV} (ha : ∀ x ∈ a, SmallE x) : ∀ (r : List EntryV) {out o : List EntryV}, (∀ x ∈ r, SmallE x) → (∀ x ∈ out, SmallE x) → specGo a out r = some o → o.length ≤ out.length + r.length ∧ ∀ x ∈ o, SmallE x
  | [], out, o, _, ho, h => by
    simp only [specGo, Option.some.injEq] at h
    subst h
    exact ⟨by simp, ho⟩
  | e :: r, out, o, hr, ho, h => by
    simp only [specGo] at h
    split at h
    · rename_i m hm
      have hs := meetOpt_small ha (hr e (List.mem_cons_self ..)) hm
      obtain ⟨h1, h2⟩ := specGo_small ha r (fun x hx => hr x (List.mem_cons_of_mem _ hx)) (fun x hx => by
        rcases putL_mem hx with hx | rfl
        · exact ho x hx
        · exact small_bare hs) h
      have := putL_length out m
      exact ⟨by simp only [List.length_cons]; omega, h2⟩
    · cases h
theorem joinFin_small {a r : List EntryV} (ha : ∀ x ∈ a, SmallE x) (hr : ∀ x ∈ r, SmallE x) (hl : a.length + r.length ≤ 1000000) : (joinFin (specGo a (a.map bareE) r)).2.length ≤ 1000000 ∧ ∀ x ∈ (joinFin (specGo a (a.map bareE) r)).2, SmallE x := by
  cases h : specGo a (a.map bareE) r with
  | none => simp [joinFin]
  | some o =>
    obtain ⟨h1, h2⟩ := specGo_small ha r hr (fun x hx => by
      obtain ⟨y, hy, rfl⟩ := List.mem_map.1 hx
      exact small_bare (ha y hy)) h
    rw [List.length_map] at h1
    unfold joinFin
    simp only
    split
    · exact ⟨by simp only; omega, h2⟩
    · simp
theorem L_law7 (a b : Entries) (hla : a.es.length ≤ 140737488355328) (hlb : b.es.length ≤ 140737488355328) : L0 n_laws_FnExactJoinCatalogues [arg (cE a), arg (cE b)] = some (resB true) := by
  refine L_body (b := b_laws_FnExactJoinCatalogues) rfl rfl 0 ?_
  intro fuel _
  have hs := L_szEntryS (hand := handF) a 1000000 (by omega) (by omega)
  by_cases h2 : (1000000 : Int) - nEntries a < 0
  · rw [less_neg h2] at hs
    simp -implicitDefEqProofs [b_laws_FnExactJoinCatalogues, hs]
  rw [less_pos h2] at hs
  have hs2 := L_szEntryS (hand := handF) b (1000000 - nEntries a) (by omega) (by omega)
  by_cases h3 : (1000000 : Int) - nEntries a - nEntries b < 0
  · rw [less_neg h3] at hs2
    simp -implicitDefEqProofs [b_laws_FnExactJoinCatalogues, hs, hs2, h2]
  rw [less_pos h3] at hs2
  have cA := catP a (by omega)
  have cB := catP b (by omega)
  generalize toEntries a false = A1 at cA
  generalize toEntries a true = A2 at cA
  generalize toEntries b false = B1 at cB
  generalize toEntries b true = B2 at cB
  have hab : a.es.length + b.es.length ≤ 1000000 := by have := cA.len; have := cB.len; omega
  have okOf : ∀ {L : Entries}, catOk (qL L) = true → ∀ e ∈ L.es, boxOk (pB e.box) = true := by
    intro L h e he
    simp only [catOk, Bool.and_eq_true] at h
    have h4 := catGo_all h.1 _ (List.mem_map_of_mem (f := qE) he)
    simp only [entryOk, bothOk, Bool.and_eq_true] at h4
    exact h4.2.1.2.1
  have hSpec := L_specJoin A1 B1 (by rw [cA.lX, cB.lX]; exact hab) cA.pX cB.pX
  have hImpl := L_implJoin A1 B1 (by rw [cA.lX, cB.lX]; exact hab) cA.pX cB.pX cat_sorted okOf okOf
  have hImpl2 := L_implJoin A2 B2 (by rw [cA.lY, cB.lY]; exact hab) cA.pY cB.pY cat_sorted okOf okOf
  rw [cA.qY, cB.qY, cA.bY, cB.bY] at hImpl2
  rw [cA.qX, cB.qX, cA.bX, cB.bX] at hImpl
  rw [cA.qX, cB.qX] at hSpec
  obtain ⟨r, hr⟩ : ∃ r, r = (if catOk (qL a) = true ∧ catOk (qL b) = true then joinFin (implGo (a.es.map bareE) (b.es.map bareE)) else (false, [])) := ⟨_, rfl⟩
  have hr' : (if catOk (qL a) = true ∧ catOk (qL b) = true then joinFin (specGo A1.es (A1.es.map bareE) B1.es) else (false, [])) = r := by
    rw [hr]
    by_cases h : catOk (qL a) = true ∧ catOk (qL b) = true
    · rw [if_pos h, if_pos h, join_law (by rw [cA.qX]; exact h.1) (by rw [cB.qX]; exact h.2), cA.bX, cB.bX]
    · rw [if_neg h, if_neg h]
  have hW : r.2.length ≤ 1000000 ∧ ∀ x ∈ r.2, SmallE x := by
    rw [← hr']
    split
    · exact joinFin_small cA.pX cB.pX (by rw [cA.lX, cB.lX]; exact hab)
    · simp
  rw [← hr] at hImpl hImpl2
  rw [hr'] at hSpec
  clear hr hr'
  obtain ⟨ok, W⟩ := r
  obtain ⟨m, M, hO⟩ := outP W hW.1 hW.2
  obtain ⟨m1, MA, kb1, kc1, la, hMA⟩ := cA.mark 101 (by omega) (by omega)
  obtain ⟨m2, MB, kb2, kc2, lb, hMB⟩ := cB.mark m1 (by omega) (by omega)
  have hMA : L0 n_laws_markEntryS [own (.sl 8 (A1.es.map eE ++ A1.sp.map eE) []) A1.es.length, argI 101] = some (backI m1 (.sl 8 MA [])) := hMA
  clear hW okOf
  obtain ⟨hEq, hMW, hHW, lM⟩ := hO
  have hTA := cA.toX
  have hTA2 := cA.toY
  have hTB := cB.toX
  have hTB2 := cB.toY
  have hIA := cA.int
  have hIB := cB.int
  clear cA cB
  simp only [resJ] at hSpec hImpl hImpl2
  obtain ⟨G, hG⟩ : ∃ G, G = W.map eE := ⟨_, rfl⟩
  rw [← hG] at hSpec hImpl hImpl2 hEq hMW lM
  have tG : G.take G.length = G := List.take_length
  have dG : G.drop G.length = [] := List.drop_length
  have tM : M.take G.length = M := by rw [← lM]; exact List.take_length
  have dM : M.drop G.length = [] := by rw [← lM]; exact List.drop_length
  have hm0 : ¬ ((m : Int) < 0) := by omega
  have hm20 : ¬ ((m2 : Int) < 0) := by omega
  simp -implicitDefEqProofs [b_laws_FnExactJoinCatalogues, hs, hs2, h2, h3, hTA, hTB, hTA2, hTB2, hSpec, hImpl, hImpl2, hIA, hIB, hMA, hMB, hEq, hMW, hHW, tG, dG, tM, dM, hm0, hm20, lM, la, lb]
end Go.Proofs.YtecmolmlojehgaaGreat.T
