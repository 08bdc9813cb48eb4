/- What is proved by hand: what it gives. The functions that are proved by hand. Rows that are copied with nothing behind them. Places of names. Entries in their places. Plain facts of catalogues. Facts for the laws. Equal lists, as the reference and the program ask. Boxes that are the same, as the program asks: with a common scale. Entries that are put among others; entries that meet. Catalogues, joined: the reference. Catalogues, joined: the program. -/
import Derived.Test.YtecmolmlojehgaaGreatMK
import Derived.Test.YtecmolmlojehgaaGreatML
import Derived.Test.YtecmolmlojehgaaGreatMJ
namespace Go.Proofs.YtecmolmlojehgaaGreat.T
open Go
def cmpN (a b : ByteArray) : Int := if lessN a b then -1 else if a.toList == b.toList then 0 else 1
/-- What is proved by hand. -/
def handClone (sz : Nat) : List Arg → Option Res
  | [.imm (.s (.c (.fl s es _)))] => if s = sz ∧ es.length ≤ 1000000 then some ⟨[.s (.mk .deep (.fl s es []))], []⟩ else none
  | _ => none
def handCmp : List Arg → Option Res
  | [.imm (.s (.c (.val (.string a)))), .imm (.s (.c (.val (.string b))))] => some (resI (cmpN a b))
  | _ => none
def handInsert (sz : Nat) : List Arg → Option Res
  | [.arr true (.sl s es []) n, .imm (.s (.c (.val (.int .i64 i)))), .arr true (.sl s' [e] []) 1] => if s = sz ∧ s' = sz ∧ n = es.length ∧ 0 ≤ i ∧ i ≤ es.length ∧ es.length ≤ 1000000 then some ⟨[.s (.mk .deep (.sl s (es.take i.toNat ++ [e] ++ es.drop i.toNat) []))], [none, none]⟩ else none
  | _ => none
def handSort : List Arg → Option Res
  | [.arr true (.fl 1 es []) n] => match strs es with | some ss => if n = ss.length ∧ n ≤ 1000000 then some ⟨[], [some (.arr true false (.fl 1 ((sortL ss).map eStr) []))]⟩ else none | none => none
  | _ => none
def handCompact : List Arg → Option Res
  | [.arr true (.fl 1 es []) n] => match strs es with | some ss => if n = ss.length ∧ n ≤ 1000000 ∧ (Lib.compact ss).length ≤ ss.length then some ⟨[.s (.mk .deep (.fl 1 ((Lib.compact ss).map eStr) []))], [none]⟩ else none | none => none
  | _ => none
end Go.Proofs.YtecmolmlojehgaaGreat.T
namespace Go.Proofs.YtecmolmlojehgaaGreat.T
open Go
def hands : List (Nat × (List Arg → Option Res)) := [(n_slices_Insert_SimplEntryimplEntry, handInsert 8), (n_slices_Sort_Sstringstring, handSort), (n_slices_Compact_Sstringstring, handCompact), (n_slices_Clone_SimplTermimplTerm, handClone 4), (n_slices_Clone_Sintint, handClone 1), (n_bytealg_abigen_runtime_cmpstring, handCmp)]
def handF : Call := fun f args => match hands.lookup f with | some g => g args | none => none
end Go.Proofs.YtecmolmlojehgaaGreat.T
namespace Go.Proofs.YtecmolmlojehgaaGreat.T
open Go
set_option maxHeartbeats 2000000
attribute [-simp] List.getElem_cons_drop List.map_drop List.map_take
noncomputable abbrev L0 : Call := L (prog handF)
def bareRow {α : Type} (a : Row α) : Row α := ⟨a.es, [], by have := a.ok; simp; omega⟩
def bareS (s : Sys) : Sys := ⟨s.es.map bareRow, [], by have := s.ok; simp; omega⟩
def bareB (b : BoxV) : BoxV := ⟨b.k, bareRow b.low, bareRow b.high⟩
def bareE (e : EntryV) : EntryV := ⟨e.name, e.nok, bareS e.system, bareB e.box, e.least, e.most, e.version⟩
def bareL (l : Entries) : Entries := ⟨l.es.map bareE, [], by have := l.ok; simp; omega⟩
theorem bareRow_es {α : Type} (a : Row α) : (bareRow a).es = a.es := rfl
theorem bareRow_sp {α : Type} (a : Row α) : (bareRow a).sp = [] := rfl
theorem bareS_es (s : Sys) : (bareS s).es = s.es.map bareRow := rfl
theorem bareS_sp (s : Sys) : (bareS s).sp = [] := rfl
theorem bareL_es (l : Entries) : (bareL l).es = l.es.map bareE := rfl
theorem bareL_sp (l : Entries) : (bareL l).sp = [] := rfl
theorem L_CloneI (a : Ints) (h : a.es.length ≤ 1000000) : L0 n_slices_Clone_Sintint [arg (cI a)] = some ⟨[.s (.mk .deep (cI (bareRow a)))], []⟩ := by
  refine L_hand rfl ?_
  rw [show (prog handF).hand n_slices_Clone_Sintint [arg (cI a)] = handClone 1 [arg (cI a)] from rfl]
  simp [handClone, h, bareRow]
theorem L_CloneP (a : Poly) (h : a.es.length ≤ 1000000) : L0 n_slices_Clone_SimplTermimplTerm [arg (cP a)] = some ⟨[.s (.mk .deep (cP (bareRow a)))], []⟩ := by
  refine L_hand rfl ?_
  rw [show (prog handF).hand n_slices_Clone_SimplTermimplTerm [arg (cP a)] = handClone 4 [arg (cP a)] from rfl]
  simp [handClone, h, bareRow]
theorem L_cmpstring (a b : ByteArray) : L0 n_bytealg_abigen_runtime_cmpstring [argV (.string a), argV (.string b)] = some (resI (cmpN a b)) := by
  refine L_hand rfl ?_
  rw [show (prog handF).hand n_bytealg_abigen_runtime_cmpstring [argV (.string a), argV (.string b)] = handCmp [argV (.string a), argV (.string b)] from rfl]
  simp [handCmp]
theorem L_l1Own (a : Ints) (h : a.es.length ≤ 1000000) : L0 n_spec_l1Own [arg (cI a)] = some ⟨[.s (.mk .deep (cI (bareRow a)))], []⟩ := by
  refine L_body (b := b_spec_l1Own) rfl rfl 0 ?_
  intro fuel _
  have hm : a.es.length * 8 ≤ 140737488355328 := by omega
  have hm2 : a.es.length ≤ 9223372036854775807 := by omega
  have hT : (a.es.map eI).take a.es.length = a.es.map eI := List.take_of_length_le (by simp)
  have hD : (a.es.map eI).drop a.es.length = [] := List.drop_eq_nil_of_le (by simp)
  simp -implicitDefEqProofs [b_spec_l1Own, hm, hm2, bareRow_es, bareRow_sp, hT, hD]
theorem L_spec_caSystem (a : Sys) (h : a.es.length ≤ 1000000) (hp : ∀ p ∈ a.es, p.es.length ≤ 1000000) : L0 n_spec_caSystem [arg (cS a)] = some ⟨[.s (.mk .deep (cS (bareS a)))], []⟩ := by
  refine L_body (b := b_spec_caSystem) rfl rfl a.es.length ?_
  intro fuel hfuel
  obtain ⟨R, hR⟩ : ∃ R : Nat → List (List C), R = fun i => (a.es.take i).map (fun x => eP (bareRow x)) := ⟨_, rfl⟩
  have hR0 : R 0 = [] := by rw [hR]; rfl
  have hRs : ∀ i (h : i < a.es.length), R i ++ [eP (bareRow a.es[i])] = R (i + 1) := by
    intro i h
    rw [hR]
    simp only [List.take_succ_eq_append_getElem h, List.map_append, List.map_cons, List.map_nil]
  have hRl : ∀ i, i ≤ a.es.length → (R i).length = i := by intro i h; rw [hR]; simp; omega
  have hRn : R a.es.length = a.es.map (fun x => eP (bareRow x)) := by rw [hR]; simp
  have hT : (R a.es.length).take a.es.length = R a.es.length := List.take_of_length_le (by rw [hRl _ (Nat.le_refl _)]; exact Nat.le_refl _)
  have hD : (R a.es.length).drop a.es.length = [] := List.drop_eq_nil_of_le (by rw [hRl _ (Nat.le_refl _)]; exact Nat.le_refl _)
  have hres : cS (bareS a) = .sl 1 (R a.es.length) [] := by rw [hRn]; simp [bareS_es, bareS_sp, Function.comp_def]
  rw [hres]
  clear hR hRn hres
  simp -implicitDefEqProofs [b_spec_caSystem]
  rw [K_start (fr' := ⟨asl [(3, .sv (.ref 1000000 [] 0 0)), (6, .sv (.c (cS a))), (7, .sv (.v (int a.es.length))), (8, .sv (.v (int (0 : Nat))))], asl [(1000000, .arr true false (.sl 1 (R 0) []))], []⟩) (by simp [hR0])]
  refine K_for2 (fun i => ⟨asl [(3, .sv (.ref 1000000 [] 0 i)), (6, .sv (.c (cS a))), (7, .sv (.v (int a.es.length))), (8, .sv (.v (int i)))], asl [(1000000, .arr true false (.sl 1 (R i) []))], []⟩) (fun i => ⟨asl [(3, .sv (.ref 65088 [] 0 i)), (6, .sv (.c (cS a))), (7, .sv (.v (int a.es.length))), (8, .sv (.v (int i)))], asl [(65088, .arr true false (.sl 1 (R i) []))], []⟩) 0 a.es.length (by omega) (by omega) (by intro i _ _; simp) ?_ ?_
  · intro i _ hi K
    have hl := hRl i (by omega)
    have hm : (i + 1) * 24 ≤ 140737488355328 := by omega
    have hm2 : i + 1 ≤ 9223372036854775807 := by omega
    have hT2 : (R i).take i = R i := List.take_of_length_le (by omega)
    have hs := hRs i hi
    have hq := hp _ (List.getElem_mem hi)
    have hm3 : a.es[i].es.length * 32 ≤ 140737488355328 := by omega
    have hm4 : a.es[i].es.length ≤ 9223372036854775807 := by omega
    have hT3 : (a.es[i].es.map eT).take a.es[i].es.length = a.es[i].es.map eT := List.take_of_length_le (by simp)
    have hD3 : (a.es[i].es.map eT).drop a.es[i].es.length = [] := List.drop_eq_nil_of_le (by simp)
    have hs : R i ++ [[C.fl 4 (a.es[i].es.map eT) []]] = R (i + 1) := hs
    simp -implicitDefEqProofs [l1_spec_caSystem, hi, hl, hm, hm2, hT2, hm3, hm4, hT3, hD3, hs, wrap_suc (show i < 9223372036854775807 by omega)]
  · intro _
    have hl := hRl a.es.length (Nat.le_refl _)
    simp -implicitDefEqProofs [l1_spec_caSystem, hl, hT, hD]
theorem L_impl_copySystem (a : Sys) (h : a.es.length ≤ 1000000) (hp : ∀ p ∈ a.es, p.es.length ≤ 1000000) : L0 n_impl_copySystem [arg (cS a)] = some ⟨[.s (.mk .deep (cS (bareS a)))], []⟩ := by
  refine L_body (b := b_impl_copySystem) rfl rfl a.es.length ?_
  intro fuel hfuel
  obtain ⟨R, hR⟩ : ∃ R : Nat → List (List C), R = fun i => (a.es.take i).map (fun x => eP (bareRow x)) := ⟨_, rfl⟩
  have hR0 : R 0 = [] := by rw [hR]; rfl
  have hRs : ∀ i (h : i < a.es.length), R i ++ [eP (bareRow a.es[i])] = R (i + 1) := by
    intro i h
    rw [hR]
    simp only [List.take_succ_eq_append_getElem h, List.map_append, List.map_cons, List.map_nil]
  have hRl : ∀ i, i ≤ a.es.length → (R i).length = i := by intro i h; rw [hR]; simp; omega
  have hRn : R a.es.length = a.es.map (fun x => eP (bareRow x)) := by rw [hR]; simp
  have hT : (R a.es.length).take a.es.length = R a.es.length := List.take_of_length_le (by rw [hRl _ (Nat.le_refl _)]; exact Nat.le_refl _)
  have hD : (R a.es.length).drop a.es.length = [] := List.drop_eq_nil_of_le (by rw [hRl _ (Nat.le_refl _)]; exact Nat.le_refl _)
  have hres : cS (bareS a) = .sl 1 (R a.es.length) [] := by rw [hRn]; simp [bareS_es, bareS_sp, Function.comp_def]
  rw [hres]
  clear hR hRn hres
  simp -implicitDefEqProofs [b_impl_copySystem]
  rw [K_start (fr' := ⟨asl [(3, .sv (.ref 1000000 [] 0 0)), (6, .sv (.c (cS a))), (7, .sv (.v (int a.es.length))), (8, .sv (.v (int (0 : Nat))))], asl [(1000000, .arr true false (.sl 1 (R 0) []))], []⟩) (by simp [hR0])]
  refine K_for2 (fun i => ⟨asl [(3, .sv (.ref 1000000 [] 0 i)), (6, .sv (.c (cS a))), (7, .sv (.v (int a.es.length))), (8, .sv (.v (int i)))], asl [(1000000, .arr true false (.sl 1 (R i) []))], []⟩) (fun i => ⟨asl [(3, .sv (.ref 65024 [] 0 i)), (6, .sv (.c (cS a))), (7, .sv (.v (int a.es.length))), (8, .sv (.v (int i)))], asl [(65024, .arr true false (.sl 1 (R i) []))], []⟩) 0 a.es.length (by omega) (by omega) (by intro i _ _; simp) ?_ ?_
  · intro i _ hi K
    have hl := hRl i (by omega)
    have hm : (i + 1) * 24 ≤ 140737488355328 := by omega
    have hm2 : i + 1 ≤ 9223372036854775807 := by omega
    have hT2 : (R i).take i = R i := List.take_of_length_le (by omega)
    have hs := hRs i hi
    have hq := hp _ (List.getElem_mem hi)
    have hC := L_CloneP a.es[i] hq
    have hT3 : (a.es[i].es.map eT).take a.es[i].es.length = a.es[i].es.map eT := List.take_of_length_le (by simp)
    have hD3 : (a.es[i].es.map eT).drop a.es[i].es.length = [] := List.drop_eq_nil_of_le (by simp)
    have hs : R i ++ [[C.fl 4 (a.es[i].es.map eT) []]] = R (i + 1) := hs
    simp -implicitDefEqProofs [l1_impl_copySystem, hi, hl, hm, hm2, hT2, hC, bareRow_es, bareRow_sp, hT3, hD3, hs, wrap_suc (show i < 9223372036854775807 by omega)]
  · intro _
    have hl := hRl a.es.length (Nat.le_refl _)
    simp -implicitDefEqProofs [l1_impl_copySystem, hl, hT, hD]
theorem L_caOwn (e : EntryV) (h : SmallE e) : L0 n_spec_caOwn [argE e] = some ⟨[rE (bareE e)], []⟩ := by
  obtain ⟨⟨h1, h2⟩, h3, h4⟩ := h
  refine L_body (b := b_spec_caOwn) rfl rfl 0 ?_
  intro fuel _
  have hS := L_spec_caSystem e.system h1 h2
  have hl := L_l1Own e.box.low h3
  have hh := L_l1Own e.box.high h4
  have t1 : ((bareS e.system).es.map eP).take (bareS e.system).es.length = (bareS e.system).es.map eP := List.take_of_length_le (by simp)
  have t2 : ((bareS e.system).es.map eP).drop (bareS e.system).es.length = [] := List.drop_eq_nil_of_le (by simp)
  have t3 : (e.box.low.es.map eI).take e.box.low.es.length = e.box.low.es.map eI := List.take_of_length_le (by simp)
  have t4 : (e.box.low.es.map eI).drop e.box.low.es.length = [] := List.drop_eq_nil_of_le (by simp)
  have t5 : (e.box.high.es.map eI).take e.box.high.es.length = e.box.high.es.map eI := List.take_of_length_le (by simp)
  have t6 : (e.box.high.es.map eI).drop e.box.high.es.length = [] := List.drop_eq_nil_of_le (by simp)
  simp -implicitDefEqProofs [b_spec_caOwn, hS, hl, hh, bareS_sp, bareRow_es, bareRow_sp, bareE, bareB, t1, t2, t3, t4, t5, t6]
abbrev Boxes := Row BoxV
abbrev cBs (a : Boxes) : C := .sl 3 (a.es.map eB) (a.sp.map eB)
def bareBs (a : Boxes) : Boxes := ⟨a.es.map bareB, [], by have := a.ok; simp; omega⟩
theorem bareBs_es (a : Boxes) : (bareBs a).es = a.es.map bareB := rfl
theorem bareBs_sp (a : Boxes) : (bareBs a).sp = [] := rfl
theorem L_impl_copyBoxes (a : Boxes) (h : a.es.length ≤ 1000000) (hp : ∀ b ∈ a.es, b.low.es.length ≤ 1000000 ∧ b.high.es.length ≤ 1000000) : L0 n_impl_copyBoxes [arg (cBs a)] = some ⟨[.s (.mk .deep (cBs (bareBs a)))], []⟩ := by
  refine L_body (b := b_impl_copyBoxes) rfl rfl a.es.length ?_
  intro fuel hfuel
  obtain ⟨R, hR⟩ : ∃ R : Nat → List (List C), R = fun i => (a.es.take i).map (fun x => eB (bareB x)) := ⟨_, rfl⟩
  have hR0 : R 0 = [] := by rw [hR]; rfl
  have hRs : ∀ i (h : i < a.es.length), R i ++ [eB (bareB a.es[i])] = R (i + 1) := by
    intro i h
    rw [hR]
    simp only [List.take_succ_eq_append_getElem h, List.map_append, List.map_cons, List.map_nil]
  have hRl : ∀ i, i ≤ a.es.length → (R i).length = i := by intro i h; rw [hR]; simp; omega
  have hRn : R a.es.length = a.es.map (fun x => eB (bareB x)) := by rw [hR]; simp
  have hT : (R a.es.length).take a.es.length = R a.es.length := List.take_of_length_le (by rw [hRl _ (Nat.le_refl _)]; exact Nat.le_refl _)
  have hD : (R a.es.length).drop a.es.length = [] := List.drop_eq_nil_of_le (by rw [hRl _ (Nat.le_refl _)]; exact Nat.le_refl _)
  have hres : cBs (bareBs a) = .sl 3 (R a.es.length) [] := by rw [hRn]; simp [bareBs_es, bareBs_sp, Function.comp_def]
  rw [hres]
  clear hR hRn hres
  simp -implicitDefEqProofs [b_impl_copyBoxes]
  rw [K_start (fr' := ⟨asl [(3, .sv (.ref 1000000 [] 0 0)), (6, .sv (.c (cBs a))), (7, .sv (.v (int a.es.length))), (8, .sv (.v (int (0 : Nat))))], asl [(1000000, .arr true false (.sl 3 (R 0) []))], []⟩) (by simp [hR0])]
  refine K_for2 (fun i => ⟨asl [(3, .sv (.ref 1000000 [] 0 i)), (6, .sv (.c (cBs a))), (7, .sv (.v (int a.es.length))), (8, .sv (.v (int i)))], asl [(1000000, .arr true false (.sl 3 (R i) []))], []⟩) (fun i => ⟨asl [(3, .sv (.ref 65472 [] 0 i)), (6, .sv (.c (cBs a))), (7, .sv (.v (int a.es.length))), (8, .sv (.v (int i)))], asl [(65472, .arr true false (.sl 3 (R i) []))], []⟩) 0 a.es.length (by omega) (by omega) (by intro i _ _; simp) ?_ ?_
  · intro i _ hi K
    have hl := hRl i (by omega)
    have hm : (i + 1) * 56 ≤ 140737488355328 := by omega
    have hm2 : i + 1 ≤ 9223372036854775807 := by omega
    have hT2 : (R i).take i = R i := List.take_of_length_le (by omega)
    have hs := hRs i hi
    obtain ⟨q1, q2⟩ := hp _ (List.getElem_mem hi)
    have hl1 := L_CloneI a.es[i].low q1
    have hh1 := L_CloneI a.es[i].high q2
    have t3 : (a.es[i].low.es.map eI).take a.es[i].low.es.length = a.es[i].low.es.map eI := List.take_of_length_le (by simp)
    have t4 : (a.es[i].low.es.map eI).drop a.es[i].low.es.length = [] := List.drop_eq_nil_of_le (by simp)
    have t5 : (a.es[i].high.es.map eI).take a.es[i].high.es.length = a.es[i].high.es.map eI := List.take_of_length_le (by simp)
    have t6 : (a.es[i].high.es.map eI).drop a.es[i].high.es.length = [] := List.drop_eq_nil_of_le (by simp)
    have hs : R i ++ [[C.val (int a.es[i].k), C.fl 1 (a.es[i].low.es.map eI) [], C.fl 1 (a.es[i].high.es.map eI) []]] = R (i + 1) := hs
    simp -implicitDefEqProofs [l1_impl_copyBoxes, hi, hl, hm, hm2, hT2, hl1, hh1, bareRow_es, bareRow_sp, t3, t4, t5, t6, hs, wrap_suc (show i < 9223372036854775807 by omega)]
  · intro _
    have hl := hRl a.es.length (Nat.le_refl _)
    simp -implicitDefEqProofs [l1_impl_copyBoxes, hl, hT, hD]
theorem L_copyBox1 (b : BoxV) (h1 : b.low.es.length ≤ 1000000) (h2 : b.high.es.length ≤ 1000000) : L0 n_impl_copyBoxes [arg (.sl 3 [[.val (int b.k), .fl 1 (b.low.es.map eI) (b.low.sp.map eI), .fl 1 (b.high.es.map eI) (b.high.sp.map eI)]] [])] = some ⟨[.s (.mk .deep (.sl 3 [[.val (int b.k), .fl 1 (b.low.es.map eI) [], .fl 1 (b.high.es.map eI) []]] []))], []⟩ := by
  have h := L_impl_copyBoxes ⟨[b], [], by simp⟩ (by simp) (fun b' hb => by simp at hb; subst hb; exact ⟨h1, h2⟩)
  exact h
theorem L_copyEntry (e : EntryV) (h : SmallE e) : L0 n_impl_copyEntry [argPE e 0] = some ⟨[rE (bareE e)], []⟩ := by
  obtain ⟨⟨h1, h2⟩, h3, h4⟩ := h
  refine L_body (b := b_impl_copyEntry) rfl rfl 0 ?_
  intro fuel _
  have hS := L_impl_copySystem e.system h1 h2
  have hB := L_copyBox1 e.box h3 h4
  have t1 : ((bareS e.system).es.map eP).take (bareS e.system).es.length = (bareS e.system).es.map eP := List.take_of_length_le (by simp)
  have t2 : ((bareS e.system).es.map eP).drop (bareS e.system).es.length = [] := List.drop_eq_nil_of_le (by simp)
  have t3 : (e.box.low.es.map eI).take e.box.low.es.length = e.box.low.es.map eI := List.take_of_length_le (by simp)
  have t4 : (e.box.low.es.map eI).drop e.box.low.es.length = [] := List.drop_eq_nil_of_le (by simp)
  have t5 : (e.box.high.es.map eI).take e.box.high.es.length = e.box.high.es.map eI := List.take_of_length_le (by simp)
  have t6 : (e.box.high.es.map eI).drop e.box.high.es.length = [] := List.drop_eq_nil_of_le (by simp)
  simp -implicitDefEqProofs [b_impl_copyEntry, hS, hB, bareS_sp, bareRow_es, bareRow_sp, bareE, bareB, t1, t2, t3, t4, t5, t6]
theorem L_spec_caOwnAll (a : Entries) (h : a.es.length ≤ 1000000) (hp : ∀ e ∈ a.es, SmallE e) : L0 n_spec_caOwnAll [arg (cE a)] = some ⟨[.s (.mk .deep (cE (bareL a)))], []⟩ := by
  refine L_body (b := b_spec_caOwnAll) rfl rfl a.es.length ?_
  intro fuel hfuel
  obtain ⟨R, hR⟩ : ∃ R : Nat → List (List C), R = fun i => (a.es.take i).map (fun x => eE (bareE x)) := ⟨_, rfl⟩
  have hR0 : R 0 = [] := by rw [hR]; rfl
  have hRs : ∀ i (h : i < a.es.length), R i ++ [eE (bareE a.es[i])] = R (i + 1) := by
    intro i h
    rw [hR]
    simp only [List.take_succ_eq_append_getElem h, List.map_append, List.map_cons, List.map_nil]
  have hRl : ∀ i, i ≤ a.es.length → (R i).length = i := by intro i h; rw [hR]; simp; omega
  have hRn : R a.es.length = a.es.map (fun x => eE (bareE x)) := by rw [hR]; simp
  have hT : (R a.es.length).take a.es.length = R a.es.length := List.take_of_length_le (by rw [hRl _ (Nat.le_refl _)]; exact Nat.le_refl _)
  have hD : (R a.es.length).drop a.es.length = [] := List.drop_eq_nil_of_le (by rw [hRl _ (Nat.le_refl _)]; exact Nat.le_refl _)
  have hres : cE (bareL a) = .sl 8 (R a.es.length) [] := by rw [hRn]; simp [bareL_es, bareL_sp, Function.comp_def]
  rw [hres]
  clear hR hRn hres
  simp -implicitDefEqProofs [b_spec_caOwnAll]
  rw [K_start (fr' := ⟨asl [(3, .sv (.ref 1000000 [] 0 0)), (6, .sv (.c (cE a))), (7, .sv (.v (int a.es.length))), (8, .sv (.v (int (0 : Nat))))], asl [(1000000, .arr true false (.sl 8 (R 0) []))], []⟩) (by simp [hR0])]
  refine K_for2 (fun i => ⟨asl [(3, .sv (.ref 1000000 [] 0 i)), (6, .sv (.c (cE a))), (7, .sv (.v (int a.es.length))), (8, .sv (.v (int i)))], asl [(1000000, .arr true false (.sl 8 (R i) []))], []⟩) (fun i => ⟨asl [(3, .sv (.ref 65024 [] 0 i)), (6, .sv (.c (cE a))), (7, .sv (.v (int a.es.length))), (8, .sv (.v (int i)))], asl [(65024, .arr true false (.sl 8 (R i) []))], []⟩) 0 a.es.length (by omega) (by omega) (by intro i _ _; simp) ?_ ?_
  · intro i _ hi K
    have hl := hRl i (by omega)
    have hm : (i + 1) * 120 ≤ 140737488355328 := by omega
    have hm2 : i + 1 ≤ 9223372036854775807 := by omega
    have hT2 : (R i).take i = R i := List.take_of_length_le (by omega)
    have hs := hRs i hi
    have hq := hp _ (List.getElem_mem hi)
    have hC := L_caOwn a.es[i] hq
    have t1 : ((bareS a.es[i].system).es.map eP).take (bareS a.es[i].system).es.length = (bareS a.es[i].system).es.map eP := List.take_of_length_le (by simp)
    have t2 : ((bareS a.es[i].system).es.map eP).drop (bareS a.es[i].system).es.length = [] := List.drop_eq_nil_of_le (by simp)
    have t3 : (a.es[i].box.low.es.map eI).take a.es[i].box.low.es.length = a.es[i].box.low.es.map eI := List.take_of_length_le (by simp)
    have t4 : (a.es[i].box.low.es.map eI).drop a.es[i].box.low.es.length = [] := List.drop_eq_nil_of_le (by simp)
    have t5 : (a.es[i].box.high.es.map eI).take a.es[i].box.high.es.length = a.es[i].box.high.es.map eI := List.take_of_length_le (by simp)
    have t6 : (a.es[i].box.high.es.map eI).drop a.es[i].box.high.es.length = [] := List.drop_eq_nil_of_le (by simp)
    have hs : R i ++ [[C.val (.string a.es[i].name), C.sl 1 ((bareS a.es[i].system).es.map eP) [], C.val (int a.es[i].box.k), C.fl 1 (a.es[i].box.low.es.map eI) [], C.fl 1 (a.es[i].box.high.es.map eI) [], C.val (int a.es[i].least), C.val (int a.es[i].most), C.val (int a.es[i].version)]] = R (i + 1) := hs
    simp -implicitDefEqProofs [l1_spec_caOwnAll, hi, hl, hm, hm2, hT2, hC, bareS_sp, bareRow_es, bareRow_sp, bareE, bareB, t1, t2, t3, t4, t5, t6, hs, wrap_suc (show i < 9223372036854775807 by omega)]
  · intro _
    have hl := hRl a.es.length (Nat.le_refl _)
    simp -implicitDefEqProofs [l1_spec_caOwnAll, hl, hT, hD]
theorem L_impl_copyEntries (a : Entries) (h : a.es.length ≤ 1000000) (hp : ∀ e ∈ a.es, SmallE e) : L0 n_impl_copyEntries [arg (cE a)] = some ⟨[.s (.mk .deep (cE (bareL a)))], []⟩ := by
  refine L_body (b := b_impl_copyEntries) rfl rfl a.es.length ?_
  intro fuel hfuel
  obtain ⟨R, hR⟩ : ∃ R : Nat → List (List C), R = fun i => (a.es.take i).map (fun x => eE (bareE x)) := ⟨_, rfl⟩
  have hR0 : R 0 = [] := by rw [hR]; rfl
  have hRs : ∀ i (h : i < a.es.length), R i ++ [eE (bareE a.es[i])] = R (i + 1) := by
    intro i h
    rw [hR]
    simp only [List.take_succ_eq_append_getElem h, List.map_append, List.map_cons, List.map_nil]
  have hRl : ∀ i, i ≤ a.es.length → (R i).length = i := by intro i h; rw [hR]; simp; omega
  have hRn : R a.es.length = a.es.map (fun x => eE (bareE x)) := by rw [hR]; simp
  have hT : (R a.es.length).take a.es.length = R a.es.length := List.take_of_length_le (by rw [hRl _ (Nat.le_refl _)]; exact Nat.le_refl _)
  have hD : (R a.es.length).drop a.es.length = [] := List.drop_eq_nil_of_le (by rw [hRl _ (Nat.le_refl _)]; exact Nat.le_refl _)
  have hres : cE (bareL a) = .sl 8 (R a.es.length) [] := by rw [hRn]; simp [bareL_es, bareL_sp, Function.comp_def]
  rw [hres]
  clear hR hRn hres
  simp -implicitDefEqProofs [b_impl_copyEntries]
  rw [K_start (fr' := ⟨asl [(0, .sv (.c (cE a))), (3, .sv (.ref 1000000 [] 0 0)), (6, .sv (.v (int a.es.length))), (7, .sv (.v (int (0 : Nat))))], asl [(1000000, .arr true false (.sl 8 (R 0) []))], []⟩) (by simp [hR0])]
  refine K_for2 (fun i => ⟨asl [(0, .sv (.c (cE a))), (3, .sv (.ref 1000000 [] 0 i)), (6, .sv (.v (int a.es.length))), (7, .sv (.v (int i)))], asl [(1000000, .arr true false (.sl 8 (R i) []))], []⟩) (fun i => ⟨asl [(0, .sv (.c (cE a))), (3, .sv (.ref 65024 [] 0 i)), (6, .sv (.v (int a.es.length))), (7, .sv (.v (int i)))], asl [(65024, .arr true false (.sl 8 (R i) []))], []⟩) 0 a.es.length (by omega) (by omega) (by intro i _ _; simp) ?_ ?_
  · intro i _ hi K
    have hl := hRl i (by omega)
    have hm : (i + 1) * 120 ≤ 140737488355328 := by omega
    have hm2 : i + 1 ≤ 9223372036854775807 := by omega
    have hT2 : (R i).take i = R i := List.take_of_length_le (by omega)
    have hs := hRs i hi
    have hq := hp _ (List.getElem_mem hi)
    have hC := L_copyEntry a.es[i] hq
    have t1 : ((bareS a.es[i].system).es.map eP).take (bareS a.es[i].system).es.length = (bareS a.es[i].system).es.map eP := List.take_of_length_le (by simp)
    have t2 : ((bareS a.es[i].system).es.map eP).drop (bareS a.es[i].system).es.length = [] := List.drop_eq_nil_of_le (by simp)
    have t3 : (a.es[i].box.low.es.map eI).take a.es[i].box.low.es.length = a.es[i].box.low.es.map eI := List.take_of_length_le (by simp)
    have t4 : (a.es[i].box.low.es.map eI).drop a.es[i].box.low.es.length = [] := List.drop_eq_nil_of_le (by simp)
    have t5 : (a.es[i].box.high.es.map eI).take a.es[i].box.high.es.length = a.es[i].box.high.es.map eI := List.take_of_length_le (by simp)
    have t6 : (a.es[i].box.high.es.map eI).drop a.es[i].box.high.es.length = [] := List.drop_eq_nil_of_le (by simp)
    have hs : R i ++ [[C.val (.string a.es[i].name), C.sl 1 ((bareS a.es[i].system).es.map eP) [], C.val (int a.es[i].box.k), C.fl 1 (a.es[i].box.low.es.map eI) [], C.fl 1 (a.es[i].box.high.es.map eI) [], C.val (int a.es[i].least), C.val (int a.es[i].most), C.val (int a.es[i].version)]] = R (i + 1) := hs
    simp -implicitDefEqProofs [l1_impl_copyEntries, hi, hl, hm, hm2, hT2, hC, bareS_sp, bareRow_es, bareRow_sp, bareE, bareB, t1, t2, t3, t4, t5, t6, hs, wrap_suc (show i < 9223372036854775807 by omega)]
  · intro _
    have hl := hRl a.es.length (Nat.le_refl _)
    simp -implicitDefEqProofs [l1_impl_copyEntries, hl, hT, hD]
end Go.Proofs.YtecmolmlojehgaaGreat.T
namespace Go.Proofs.YtecmolmlojehgaaGreat.T
open Go
set_option maxHeartbeats 2000000
attribute [-simp] List.getElem_cons_drop List.map_drop List.map_take
def eqN (a b : ByteArray) : Bool := a.toList == b.toList
def placeGo (n : ByteArray) : List EntryV → Nat
  | [] => 0
  | e :: r => if lessN e.name n then placeGo n r + 1 else 0
theorem placeGo_le (n : ByteArray) : ∀ l, placeGo n l ≤ l.length
  | [] => Nat.le_refl _
  | e :: r => by
    have := placeGo_le n r
    simp only [placeGo]
    split <;> simp <;> omega
theorem L_caPlace (l : Entries) (n : ByteArray) : L0 n_spec_caPlace [arg (cE l), argV (.string n)] = some (resI (placeGo n l.es : Nat)) := by
  have hok := l.ok
  refine L_body (b := b_spec_caPlace) rfl rfl l.es.length ?_
  intro fuel hfuel
  simp -implicitDefEqProofs [b_spec_caPlace]
  refine (K_loop (fun (i : Nat) => ⟨asl [(0, .sv (.c (cE l))), (1, .sv (.v (.string n))), (5, .sv (.v (int i)))], asl [], []⟩) (fun i => some (resI ((i + placeGo n (l.es.drop i) : Nat) : Int))) (fun i => l.es.length - i) (fun i => i ≤ l.es.length) ?_ 0 (by simp) (by omega)).trans (by simp)
  intro i hi k hk
  by_cases hlt : i < l.es.length
  · rw [drop_cons hlt]
    cases h : lessN l.es[i].name n
    · have h' : Op.bytesLess l.es[i].name.toList n.toList = false := h
      simp -implicitDefEqProofs [l1_spec_caPlace, hlt, h, h', placeGo]
    · have h' : Op.bytesLess l.es[i].name.toList n.toList = true := h
      have hgo := hk (i + 1) (by omega) (by omega)
      have e : i + placeGo n (l.es[i] :: l.es.drop (i + 1)) = i + 1 + placeGo n (l.es.drop (i + 1)) := by simp [placeGo, h]; omega
      rw [e, ← hgo]
      simp -implicitDefEqProofs [l1_spec_caPlace, hlt, h', wrap_suc (show i < 9223372036854775807 by omega)]
  · rw [drop_end hlt]
    simp -implicitDefEqProofs [l1_spec_caPlace, hlt, placeGo]
def atB (l : List EntryV) (k : Nat) (n : ByteArray) : Bool :=
  match l[k]? with
  | some e => eqN e.name n
  | none => false
theorem L_caAt (l : Entries) (k : Nat) (n : ByteArray) : L0 n_spec_caAt [arg (cE l), argI k, argV (.string n)] = some (resB (atB l.es k n)) := by
  refine L_body (b := b_spec_caAt) rfl rfl 0 ?_
  intro fuel _
  by_cases hlt : k < l.es.length
  · have e : atB l.es k n = (l.es[k].name.toList == n.toList) := by simp [atB, hlt, eqN]
    rw [e]
    simp -implicitDefEqProofs [b_spec_caAt, hlt]
  · have e : atB l.es k n = false := by simp [atB, List.getElem?_eq_none (Nat.le_of_not_lt hlt)]
    rw [e]
    simp -implicitDefEqProofs [b_spec_caAt, hlt]
theorem L_CompareString (a b : ByteArray) : L0 n_bytealg_CompareString [argV (.string a), argV (.string b)] = some (resI (cmpN a b)) := by
  refine L_body (b := b_bytealg_CompareString) rfl rfl 0 ?_
  intro fuel _
  simp -implicitDefEqProofs [b_bytealg_CompareString, L_cmpstring]
theorem L_Compare (a b : ByteArray) : L0 n_strings_Compare [argV (.string a), argV (.string b)] = some (resI (cmpN a b)) := by
  refine L_body (b := b_strings_Compare) rfl rfl 0 ?_
  intro fuel _
  simp -implicitDefEqProofs [b_strings_Compare, L_CompareString]
theorem L_entryCmp (e : EntryV) (n : ByteArray) : L0 n_impl_entryPlace_in1 [argE e, argV (.string n)] = some (resI (cmpN e.name n)) := by
  refine L_body (b := b_impl_entryPlace_in1) rfl rfl 0 ?_
  intro fuel _
  simp -implicitDefEqProofs [b_impl_entryPlace_in1, L_Compare]
/-- All that comes before is in front. -/
def Mono (l : List EntryV) (n : ByteArray) : Prop := ∀ (i : Nat) (h : i < l.length), lessN l[i].name n = decide (i < placeGo n l)
theorem cmpN_neg (a b : ByteArray) : cmpN a b < 0 ↔ lessN a b = true := by
  unfold cmpN
  split
  · rename_i h; simp [h]
  · rename_i h
    split <;> simp [h]
theorem L_binarySearch (l : Entries) (n : ByteArray) (hl : l.es.length ≤ 1000000) (hm : Mono l.es n) : L0 n_slices_BinarySearchFunc_SimplEntryimplEntrystring [arg (cE l), argV (.string n), .imm (.fn 46 [])] = some ⟨[.s (.mk .imm (.val (int (placeGo n l.es : Nat)))), .s (.mk .imm (.val (.bool (atB l.es (placeGo n l.es) n))))], []⟩ := by
  have hple := placeGo_le n l.es
  have hsh : shapeOf 46 = [] := rfl
  refine L_body (b := b_slices_BinarySearchFunc_SimplEntryimplEntrystring) rfl rfl l.es.length ?_
  intro fuel hfuel
  simp -implicitDefEqProofs [b_slices_BinarySearchFunc_SimplEntryimplEntrystring, hsh]
  refine (K_loop (fun (s : Nat × Nat) => ⟨asl [(0, .sv (.c (cE l))), (1, .sv (.v (.string n))), (2, .v (.fn 46 [])), (8, .sv (.v (int l.es.length))), (9, .sv (.v (int s.1))), (10, .sv (.v (int s.2)))], asl [], []⟩) (fun _ => some ⟨[.s (.mk .imm (.val (int (placeGo n l.es : Nat)))), .s (.mk .imm (.val (.bool (atB l.es (placeGo n l.es) n))))], []⟩) (fun s => s.2 - s.1) (fun s => s.1 ≤ placeGo n l.es ∧ placeGo n l.es ≤ s.2 ∧ s.2 ≤ l.es.length) ?_ (0, l.es.length) ⟨by simp, by simpa using hple, by simp⟩ (by simpa using hfuel)).trans (by simp)
  rintro ⟨i, j⟩ ⟨h1, h2, h3⟩ k hk
  simp only at h1 h2 h3
  by_cases hlt : i < j
  · obtain ⟨h, hh⟩ : ∃ h, h = (i + j) / 2 := ⟨_, rfl⟩
    have hhl : h < l.es.length := by omega
    have w0 : IntKind.i64.wrap ((i : Int) + (j : Int)) = (i : Int) + (j : Int) := wrap64 (by omega) (by omega)
    have w1 : IntKind.u64.wrap ((i : Int) + (j : Int)) = (i : Int) + (j : Int) := by
      simp [IntKind.wrap, IntKind.bits, IntKind.signed]
      omega
    have hm1 : (2 : Int) ^ min 1 IntKind.u64.bits = 2 := by decide
    have hH : IntKind.i64.wrap ((IntKind.u64.wrap (IntKind.i64.wrap ((i : Int) + (j : Int)))).fdiv (2 ^ min 1 IntKind.u64.bits)) = (h : Int) := by
      rw [w0, w1, hm1, Int.fdiv_eq_ediv_of_nonneg _ (by omega), wrap64 (by omega) (by omega)]
      omega
    have hC := L_entryCmp l.es[h] n
    have hmh := hm h hhl
    have hws := wrap_suc (show h < 9223372036854775807 by omega)
    by_cases hp : h < placeGo n l.es
    · have hneg : cmpN l.es[h].name n < 0 := (cmpN_neg _ _).2 (by rw [hmh]; simpa using hp)
      have hgo := hk (h + 1, j) ⟨by simp; omega, by simp; omega, by simp; omega⟩ (by simp; omega)
      rw [← hgo]
      simp -implicitDefEqProofs [l1_slices_BinarySearchFunc_SimplEntryimplEntrystring, hsh, hlt, hH, hhl, hC, hneg, hws]
    · have hneg : ¬ (cmpN l.es[h].name n < 0) := by rw [cmpN_neg, hmh]; simpa using hp
      have hgo := hk (i, h) ⟨by simp; omega, by simp; omega, by simp; omega⟩ (by simp; omega)
      rw [← hgo]
      simp -implicitDefEqProofs [l1_slices_BinarySearchFunc_SimplEntryimplEntrystring, hsh, hlt, hH, hhl, hC, hneg]
  · have hij : i = placeGo n l.es := by omega
    by_cases hend : i < l.es.length
    · have hC := L_entryCmp l.es[i] n
      have hmi := hm i hend
      have hless : lessN l.es[i].name n = false := by rw [hmi]; simp [hij]
      have hat : atB l.es (placeGo n l.es) n = (cmpN l.es[i].name n == 0) := by
        rw [← hij]
        simp only [atB, hend, List.getElem?_eq_getElem, cmpN, hless, eqN]
        cases h : (l.es[i].name.toList == n.toList) <;> simp
      rw [hat, ← hij]
      simp -implicitDefEqProofs [l1_slices_BinarySearchFunc_SimplEntryimplEntrystring, hsh, hlt, hend, hC]
    · have hat : atB l.es (placeGo n l.es) n = false := by rw [← hij]; simp [atB, List.getElem?_eq_none (Nat.le_of_not_lt hend)]
      rw [hat, ← hij]
      simp -implicitDefEqProofs [l1_slices_BinarySearchFunc_SimplEntryimplEntrystring, hsh, hlt, hend]
theorem L_entryPlace (l : Entries) (n : ByteArray) (hl : l.es.length ≤ 1000000) (hm : Mono l.es n) : L0 n_impl_entryPlace [arg (cE l), argV (.string n)] = some ⟨[.s (.mk .imm (.val (int (placeGo n l.es : Nat)))), .s (.mk .imm (.val (.bool (atB l.es (placeGo n l.es) n))))], []⟩ := by
  have hB := L_binarySearch l n hl hm
  refine L_body (b := b_impl_entryPlace) rfl rfl 0 ?_
  intro fuel _
  simp -implicitDefEqProofs [b_impl_entryPlace, hB]
end Go.Proofs.YtecmolmlojehgaaGreat.T
namespace Go.Proofs.YtecmolmlojehgaaGreat.T
open Go
set_option maxHeartbeats 4000000
attribute [-simp] List.getElem_cons_drop List.map_drop List.map_take
def setRow {α : Type} (l : Row α) (k : Nat) (e : α) : Row α := ⟨l.es.set k e, l.sp, by have := l.ok; simpa using this⟩
def preRow {α : Type} (l : Row α) (k : Nat) : Row α := ⟨l.es.take k, l.es.drop k ++ l.sp, by have := l.ok; simp; omega⟩
def postRow {α : Type} (l : Row α) (k : Nat) : Row α := ⟨l.es.drop k, l.sp, by have := l.ok; simp; omega⟩
theorem L_caPut (l : Entries) (e : EntryV) (k : Nat) (hl : l.es.length ≤ 1000000) (hp : ∀ x ∈ l.es, SmallE x) (he : SmallE e) (hk : placeGo e.name l.es = k) (hat : atB l.es k e.name = true) : L0 n_spec_caPut [arg (cE l), argE e] = some ⟨[.s (.mk .deep (cE (bareL (setRow l k e))))], []⟩ := by
  have hlt : k < l.es.length := by
    apply Nat.lt_of_not_le
    intro h
    simp [atB, List.getElem?_eq_none h] at hat
  refine L_body (b := b_spec_caPut) rfl rfl 0 ?_
  intro fuel _
  have hP := L_caPlace l e.name
  rw [hk] at hP
  have hA := L_caAt l k e.name
  rw [hat] at hA
  have hO := L_caOwn e he
  have hkl : k ≤ l.es.length := Nat.le_of_lt hlt
  have e1 : C.sl 8 (List.take k (List.map eE l.es ++ List.map eE l.sp)) (List.drop k (List.map eE l.es ++ List.map eE l.sp)) = cE (preRow l k) := by
    rw [List.take_append_of_le_length (by simpa using hkl), List.drop_append_of_le_length (by simpa using hkl)]
    simp [preRow, List.map_take, List.map_drop]
  have e2 : C.sl 8 (List.take (l.es.length - (k + 1)) (List.drop (k + 1) (List.map eE l.es ++ List.map eE l.sp))) (List.drop (k + 1 + (l.es.length - (k + 1))) (List.map eE l.es ++ List.map eE l.sp)) = cE (postRow l (k + 1)) := by
    rw [List.drop_append_of_le_length (by simp; omega), List.take_left' (by simp), show k + 1 + (l.es.length - (k + 1)) = l.es.length by omega, List.drop_left' (by simp)]
    simp [postRow, List.map_drop]
  have h1 := L_spec_caOwnAll (preRow l k) (by simp [preRow]; omega) (fun x hx => hp x (List.mem_of_mem_take hx))
  have h2 := L_spec_caOwnAll (postRow l (k + 1)) (by simp [postRow]; omega) (fun x hx => hp x (List.mem_of_mem_drop hx))
  have hws := wrap_suc (show k < 9223372036854775807 by omega)
  obtain ⟨P, hPd⟩ : ∃ P, P = (bareL (preRow l k)).es.map eE := ⟨_, rfl⟩
  obtain ⟨Q, hQd⟩ : ∃ Q, Q = (bareL (postRow l (k + 1))).es.map eE := ⟨_, rfl⟩
  have hPl : P.length = k := by rw [hPd]; simp [bareL, preRow]; omega
  have hQl : Q.length = l.es.length - (k + 1) := by rw [hQd]; simp [bareL, postRow]
  have h1' : L0 n_spec_caOwnAll [arg (C.sl 8 (List.take k (List.map eE l.es ++ List.map eE l.sp)) (List.drop k (List.map eE l.es ++ List.map eE l.sp)))] = some ⟨[.s (.mk .deep (.sl 8 P []))], []⟩ := by
    rw [e1, h1, hPd]; rfl
  have h2' : L0 n_spec_caOwnAll [arg (C.sl 8 (List.take (l.es.length - (k + 1)) (List.drop (k + 1) (List.map eE l.es ++ List.map eE l.sp))) (List.drop (k + 1 + (l.es.length - (k + 1))) (List.map eE l.es ++ List.map eE l.sp)))] = some ⟨[.s (.mk .deep (.sl 8 Q []))], []⟩ := by
    rw [e2, h2, hQd]; rfl
  have hres : cE (bareL (setRow l k e)) = .sl 8 (P ++ [eE (bareE e)] ++ Q) [] := by
    rw [hPd, hQd]
    simp only [cE, bareL, setRow, preRow, postRow, List.map_nil]
    rw [List.set_eq_take_append_cons_drop, if_pos hlt]
    simp [List.map_take, List.map_drop]
  rw [hres]
  clear hres hPd hQd h1 h2 e1 e2
  have hb : (k : Int) ≤ (l.es.length : Int) + (l.sp.length : Int) := by omega
  have hb2 : (k : Int) + 1 ≤ (l.es.length : Int) := by omega
  have hb3 : (l.es.length : Int) ≤ (l.es.length : Int) + (l.sp.length : Int) := by omega
  have hb4 : (0 : Int) ≤ (k : Int) + 1 := by omega
  have hm1 : (k + 1) * 120 ≤ 140737488355328 := by omega
  have hm2 : k + 1 ≤ 9223372036854775807 := by omega
  have hm3 : (k + 1 + (l.es.length - (k + 1))) * 120 ≤ 140737488355328 := by omega
  have hm4 : k + 1 + (l.es.length - (k + 1)) ≤ 9223372036854775807 := by omega
  have hT1 : P.take k = P := List.take_of_length_le (by omega)
  have hT2 : Q.take (l.es.length - (k + 1)) = Q := List.take_of_length_le (by omega)
  have hcast : ((k : Int) + 1).toNat = k + 1 := by omega
  simp -implicitDefEqProofs [b_spec_caPut, hP, hA, hO, h1', h2', hPl, hQl, hws, hlt, hkl, hb, hb2, hb3, hb4, hm1, hm2, hm3, hm4, hT1, hT2, hcast]
  have hx : ∀ x : List C, (P ++ [x]).take (k + 1) = P ++ [x] := fun x => List.take_of_length_le (by simp [hPl])
  rw [hx, List.take_of_length_le (by simp [hPl, hQl]; omega)]
  simp
abbrev resL (ok : Bool) (l : Entries) : Res := ⟨[.s (.mk .deep (if ok then cE l else .sl 8 [] [])), .s (.mk .imm (.val (.bool ok)))], []⟩
theorem lessN_congr {a b : ByteArray} (h : a.toList = b.toList) (c : ByteArray) : lessN c a = lessN c b := by unfold lessN; rw [h]
theorem placeGo_congr {a b : ByteArray} (h : a.toList = b.toList) : ∀ l, placeGo a l = placeGo b l
  | [] => rfl
  | e :: r => by simp only [placeGo, lessN_congr h, placeGo_congr h r]
theorem L_catalogueResult (r : Entries) (hsp : r.sp = []) : L0 n_impl_catalogueResult [own (.sl 8 (r.es.map eE) []) r.es.length] = some (if catOk (qL r) then ⟨[.s (.mk .deep (cE r)), .s (.mk .imm (.val (.bool true)))], [none]⟩ else ⟨[.s (.mk .deep (.sl 8 [] [])), .s (.mk .imm (.val (.bool false)))], [some (.arr true false (.sl 8 (r.es.map eE) []))]⟩) := by
  refine L_body (b := b_impl_catalogueResult) rfl rfl 0 ?_
  intro fuel _
  have hC := L_isCatalogue (hand := handF) r
  have hT : (r.es.map eE).take r.es.length = r.es.map eE := List.take_of_length_le (by simp)
  have hD : (r.es.map eE).drop r.es.length = [] := List.drop_eq_nil_of_le (by simp)
  have hC : L0 n_impl_isCatalogue [arg (.sl 8 (r.es.map eE) [])] = some (resB (catOk (qL r))) := by
    have e : cE r = .sl 8 (r.es.map eE) [] := by unfold cE; rw [hsp]; rfl
    rw [← e]; exact hC
  cases c : catOk (qL r)
  · rw [c] at hC
    simp -implicitDefEqProofs [b_impl_catalogueResult, hC, hT, hD]
  · rw [c] at hC
    simp -implicitDefEqProofs [b_impl_catalogueResult, hC, hT, hD, hsp]
end Go.Proofs.YtecmolmlojehgaaGreat.T
namespace Go.Proofs.YtecmolmlojehgaaGreat.T
open Go
set_option maxHeartbeats 2000000
attribute [-simp] List.getElem_cons_drop List.map_drop List.map_take
theorem bytesLess_trans : ∀ {a b c : List UInt8}, Op.bytesLess a b = true → Op.bytesLess b c = true → Op.bytesLess a c = true
  | _, _, [], _, h => by cases ‹List UInt8› <;> simp [Op.bytesLess] at h
  | [], b, z :: c, _, _ => by simp [Op.bytesLess]
  | x :: a, [], z :: c, h, _ => by simp [Op.bytesLess] at h
  | x :: a, y :: b, z :: c, h1, h2 => by
    simp only [Op.bytesLess, Bool.or_eq_true, decide_eq_true_eq, Bool.and_eq_true, beq_iff_eq] at h1 h2 ⊢
    rcases h1 with h1 | ⟨rfl, h1⟩
    · rcases h2 with h2 | ⟨rfl, h2⟩
      · exact Or.inl (UInt8.lt_trans h1 h2)
      · exact Or.inl h1
    · rcases h2 with h2 | ⟨rfl, h2⟩
      · exact Or.inl h2
      · exact Or.inr ⟨rfl, bytesLess_trans h1 h2⟩
theorem lessN_trans {a b c : ByteArray} (h1 : lessN a b = true) (h2 : lessN b c = true) : lessN a c = true := bytesLess_trans h1 h2
theorem catGo_sorted : ∀ {l : List QEntry} {prev : Option ByteArray}, catGo prev l = true → (∀ p, prev = some p → ∀ e ∈ l, lessN p e.name = true) ∧ l.Pairwise (fun a b => lessN a.name b.name = true)
  | [], prev, _ => ⟨fun _ _ e he => by simp at he, List.Pairwise.nil⟩
  | e :: r, none, h => by
    simp only [catGo, Bool.and_eq_true] at h
    obtain ⟨h1, h2⟩ := catGo_sorted h.2
    exact ⟨fun p hp => (by cases hp), List.Pairwise.cons (fun x hx => h1 _ rfl x hx) h2⟩
  | e :: r, some p, h => by
    simp only [catGo, Bool.and_eq_true] at h
    obtain ⟨_, h3, h4⟩ := h
    obtain ⟨h1, h2⟩ := catGo_sorted h4
    refine ⟨fun p' hp x hx => ?_, List.Pairwise.cons (fun x hx => h1 _ rfl x hx) h2⟩
    injection hp with hp
    subst hp
    simp only [List.mem_cons] at hx
    rcases hx with rfl | hx
    · exact h3
    · exact lessN_trans h3 (h1 _ rfl x hx)
theorem place_iff (n : ByteArray) : ∀ {l : List EntryV}, l.Pairwise (fun a b => lessN a.name b.name = true) → ∀ (i : Nat) (h : i < l.length), lessN l[i].name n = true ↔ i < placeGo n l
  | [], _, i, h => by simp at h
  | e :: r, hp, i, h => by
    obtain ⟨h1, h2⟩ := List.pairwise_cons.1 hp
    by_cases c : lessN e.name n = true
    · have hpl : placeGo n (e :: r) = placeGo n r + 1 := by rw [placeGo, if_pos c]
      rw [hpl]
      cases i with
      | zero => simp [c]
      | succ i =>
        have := place_iff n h2 i (by simpa using h)
        simp only [List.getElem_cons_succ, this]
        omega
    · have hpl : placeGo n (e :: r) = 0 := by rw [placeGo, if_neg c]
      rw [hpl]
      refine ⟨fun hx => ?_, fun hx => absurd hx (Nat.not_lt_zero _)⟩
      exfalso
      have hm := List.getElem_mem h
      simp only [List.mem_cons] at hm
      rcases hm with hm | hm
      · rw [hm] at hx; exact c hx
      · exact c (lessN_trans (h1 _ hm) hx)
theorem place_mono (n : ByteArray) {l : List EntryV} (hp : l.Pairwise (fun a b => lessN a.name b.name = true)) (i : Nat) (h : i < l.length) : lessN l[i].name n = decide (i < placeGo n l) := by
  rw [Bool.eq_iff_iff, decide_eq_true_iff]
  exact place_iff n hp i h
theorem mono_of {l : Entries} (h : catOk (qL l) = true) (n : ByteArray) : Mono l.es n := by
  simp only [catOk, Bool.and_eq_true] at h
  have := (catGo_sorted h.1).2
  unfold qL at this
  rw [List.pairwise_map] at this
  exact place_mono n this
theorem catGo_set : ∀ {l : List QEntry} {prev : Option ByteArray} {k : Nat} {a b : QEntry}, catGo prev l = true → l[k]? = some a → b.name = a.name → catGo prev (l.set k b) = entryOk b
  | [], _, k, a, b, _, h, _ => by simp at h
  | e :: r, none, 0, a, b, hc, h, hn => by
    simp only [List.getElem?_cons_zero, Option.some.injEq] at h
    subst h
    simp only [catGo, Bool.and_eq_true] at hc
    simp only [List.set_cons_zero, catGo, hn, hc.2, Bool.and_true]
  | e :: r, some p, 0, a, b, hc, h, hn => by
    simp only [List.getElem?_cons_zero, Option.some.injEq] at h
    subst h
    simp only [catGo, Bool.and_eq_true] at hc
    simp only [List.set_cons_zero, catGo, hn, hc.2.1, hc.2.2, Bool.and_true]
  | e :: r, none, k + 1, a, b, hc, h, hn => by
    simp only [catGo, Bool.and_eq_true] at hc
    simp only [List.set_cons_succ, catGo, hc.1, Bool.true_and]
    exact catGo_set hc.2 (by simpa using h) hn
  | e :: r, some p, k + 1, a, b, hc, h, hn => by
    simp only [catGo, Bool.and_eq_true] at hc
    simp only [List.set_cons_succ, catGo, hc.1, hc.2.1, Bool.true_and]
    exact catGo_set hc.2.2 (by simpa using h) hn
theorem qE_bare (e : EntryV) : qE (bareE e) = qE e := by
  have h1 : pS (bareS e.system) = pS e.system := by simp [pS, bareS, bareRow, Function.comp_def]
  simp only [qE, bareE, h1]
  rfl
theorem qL_bareL (l : Entries) : qL (bareL l) = qL l := by
  simp only [qL, bareL, List.map_map, Function.comp_def, qE_bare]
theorem qL_set (l : Entries) (k : Nat) (e : EntryV) : qL (setRow l k e) = (qL l).set k (qE e) := by
  simp only [qL, setRow, List.map_set]
/-! ### What can be read of entries decides -/
theorem placeGo_q (n : ByteArray) : ∀ {a b : List EntryV}, a.map qE = b.map qE → placeGo n a = placeGo n b
  | [], [], _ => rfl
  | [], _ :: _, h => by simp at h
  | _ :: _, [], h => by simp at h
  | x :: a, y :: b, h => by
    simp only [List.map_cons, List.cons.injEq] at h
    have hn : x.name = y.name := congrArg QEntry.name h.1
    simp only [placeGo, hn, placeGo_q n h.2]
theorem get_q {a b : List EntryV} (h : a.map qE = b.map qE) (k : Nat) : (a[k]?).map qE = (b[k]?).map qE := by
  rw [← List.getElem?_map, ← List.getElem?_map, h]
theorem atB_q {a b : List EntryV} (h : a.map qE = b.map qE) (k : Nat) (n : ByteArray) : atB a k n = atB b k n := by
  have := get_q h k
  unfold atB
  cases ha : a[k]? with
  | none =>
    rw [ha] at this
    cases hb : b[k]? with
    | none => rfl
    | some y => rw [hb] at this; cases this
  | some x =>
    rw [ha] at this
    cases hb : b[k]? with
    | none => rw [hb] at this; cases this
    | some y =>
      rw [hb] at this
      simp only [Option.map_some, Option.some.injEq] at this
      have hn : x.name = y.name := congrArg QEntry.name this
      simp only [hn]
def pQ (q : QEntry) : PEntry := ⟨q.name.toList, q.system, q.box, q.least, q.most, q.version⟩
theorem pE_q (e : EntryV) : pE e = pQ (qE e) := rfl
theorem pL_q (l : Entries) : l.es.map pE = (qL l).map pQ := by simp [qL, Function.comp_def, pE_q]
theorem qE_to (e : EntryV) (b : Bool) (h : SmallE e) : qE (toEntryV e b) = qE e := by
  obtain ⟨⟨h1, h2⟩, h3, h4⟩ := h
  have e1 : pS (toSys e.system b) = pS e.system := by
    unfold pS
    rw [toSys_es _ _ h1, List.map_map]
    apply List.map_congr_left
    intro p hp
    exact toPoly_es p b (h2 p hp)
  have e2 : pB (toBoxV e.box b) = pB e.box := by
    simp only [pB, toBoxV, toInts_es _ _ h3, toInts_es _ _ h4]
  simp only [qE, toEntryV, e1, e2]
theorem toEntries_es (a : Entries) (b : Bool) (h : a.es.length ≤ 1000000) : (toEntries a b).es = a.es.map (fun e => toEntryV e b) := by
  by_cases hb : b = true ∧ a.es.length = 0
  · obtain ⟨rfl, h0⟩ := hb
    rw [(copyRow_bare h0).1]; symm; simpa using h0
  · rw [(copyRow_full hb h).1]
theorem qL_to (a : Entries) (b : Bool) (h : a.es.length ≤ 1000000) (hp : ∀ e ∈ a.es, SmallE e) : qL (toEntries a b) = qL a := by
  unfold qL
  rw [toEntries_es a b h, List.map_map]
  apply List.map_congr_left
  intro e he
  exact qE_to e b (hp e he)
end Go.Proofs.YtecmolmlojehgaaGreat.T
namespace Go.Proofs.YtecmolmlojehgaaGreat.T
open Go
set_option maxHeartbeats 8000000
attribute [-simp] List.getElem_cons_drop List.map_drop List.map_take
theorem L_sz_neg (a : Entries) (left : Int) (h0 : left < 0) (h1 : -4611686018427387904 ≤ left) (h2 : a.es.length ≤ 4611686018427387904) : L0 n_laws_szEntryS [arg (cE a), argI left] = some (resI (-1)) := by
  refine L_body (b := b_laws_szEntryS) rfl rfl 0 ?_
  intro fuel _
  have hw := wrap64 (n := left - a.es.length) (by omega) (by omega)
  have hn : left - a.es.length < 0 := by omega
  simp -implicitDefEqProofs [b_laws_szEntryS, hw, hn]
def empty8 : Entries := ⟨[], [], by simp⟩
theorem small_to {e : EntryV} (h : SmallE e) (b : Bool) : SmallE (toEntryV e b) := by
  obtain ⟨⟨h1, h2⟩, h3, h4⟩ := h
  refine ⟨⟨?_, ?_⟩, ?_, ?_⟩
  · simp only [toEntryV, toSys_es _ _ h1, List.length_map]; exact h1
  · intro p hp
    simp only [toEntryV, toSys_es _ _ h1, List.mem_map] at hp
    obtain ⟨q, hq, rfl⟩ := hp
    rw [toPoly_es _ _ (h2 q hq)]
    exact h2 q hq
  · simp only [toEntryV, toBoxV, toInts_es _ _ h3]; exact h3
  · simp only [toEntryV, toBoxV, toInts_es _ _ h4]; exact h4
theorem roomy_copy {α β : Type} {f : α → β} {fill : β} {a : Row α} (h : a.es.length ≤ 1000000) : Roomy (copyRow f fill a false) := by
  obtain ⟨h1, h2⟩ := copyRow_full (f := f) (fill := fill) (bare := false) (by simp) h
  unfold Roomy
  rw [h1, h2]
  simp [h]
theorem roomy_to {a : Entries} (h : a.es.length ≤ 1000000) (hp : ∀ e ∈ a.es, SmallE e) : RoomyL (toEntries a false) := by
  refine ⟨roomy_copy h, fun e he => ?_⟩
  rw [toEntries_es a false h, List.mem_map] at he
  obtain ⟨x, hx, rfl⟩ := he
  obtain ⟨⟨h1, h2⟩, h3, h4⟩ := hp x hx
  refine ⟨⟨roomy_copy h1, fun p hpp => ?_⟩, roomy_copy h3, roomy_copy h4⟩
  simp only [toEntryV, toSys_es _ _ h1, List.mem_map] at hpp
  obtain ⟨q, hq, rfl⟩ := hpp
  exact roomy_copy (h2 q hq)
theorem sum_le_of {α : Type} {f g : α → Nat} {l : List α} {c d : Nat} (h : ∀ x ∈ l, f x ≤ c * g x + d) : (l.map f).sum ≤ c * (l.map g).sum + d * l.length := by
  induction l with
  | nil => simp
  | cons x r ih =>
    have h1 := h x (by simp)
    have h2 := ih (fun y hy => h y (by simp [hy]))
    simp only [List.map_cons, List.sum_cons, List.length_cons, Nat.mul_add, Nat.mul_one]
    omega
theorem mem_le_sum {α : Type} {f : α → Nat} {l : List α} {x : α} (h : x ∈ l) : f x ≤ (l.map f).sum := by
  induction l with
  | nil => simp at h
  | cons y r ih =>
    simp only [List.mem_cons] at h
    simp only [List.map_cons, List.sum_cons]
    rcases h with rfl | h
    · omega
    · have := ih h; omega
def cntQ (q : QEntry) : Nat := 1 + (q.system.map (fun p => 4 * p.length)).sum + 1 + q.box.low.length + q.box.high.length + 3
theorem cntE_q (e : EntryV) : cntE e = cntQ (qE e) := by
  simp only [cntE, cntQ, qE, pS, pB, List.map_map, Function.comp_def]
  rfl
theorem endL_q {a b : List EntryV} (h : a.map qE = b.map qE) (k : Nat) : endL cntE k a = endL cntE k b := by
  have e : ∀ l : List EntryV, (l.map cntE).sum = ((l.map qE).map cntQ).sum := by
    intro l; rw [List.map_map]; congr 1; apply List.map_congr_left; intro x _; exact cntE_q x
  simp only [endL, e, h]
theorem cntE_le (e : EntryV) : cntE e ≤ 4 * nEntry e + 5 := by
  have : (e.system.es.map cntP).sum ≤ 4 * (e.system.es.map nPoly).sum + 0 * e.system.es.length := sum_le_of (fun p _ => by simp [cntP, nPoly])
  simp only [cntE, nEntry, nSys, nBox]
  omega
end Go.Proofs.YtecmolmlojehgaaGreat.T
namespace Go.Proofs.YtecmolmlojehgaaGreat.T
open Go
variable {hand : Call}
set_option maxHeartbeats 1000000
attribute [-simp] List.getElem_cons_drop List.map_drop List.map_map
/-- Terms, cell by cell. -/
theorem eqCells_T (a b : TermV) : eqCells [0, 0, 0, 0] (sT a) (sT b) = some (a == b) := by
  obtain ⟨c, x, y, z⟩ := a
  obtain ⟨c', x', y', z'⟩ := b
  have e : ((⟨c, x, y, z⟩ : TermV) == ⟨c', x', y', z'⟩) = (c == c' && (x == x' && (y == y' && z == z'))) := by
    rw [Bool.eq_iff_iff]; simp
  rw [e]
  simp [eqCells, eqCell]
theorem eqCells_self (t : TermV) : eqCells [0, 0, 0, 0] (sT t) (sT t) = some true := by rw [eqCells_T]; simp
theorem eqCells_ne {a b : TermV} (h : a ≠ b) : eqCells [0, 0, 0, 0] (sT a) (sT b) = some false := by rw [eqCells_T]; simp [h]
attribute [-simp] eqCells
theorem L_spec_l1Same (a b : Ints) : L (prog hand) n_spec_l1Same [arg (cI a), arg (cI b)] = some (resB (a.es == b.es)) := by
  have ha := a.ok
  refine L_body (b := b_spec_l1Same) rfl rfl a.es.length ?_
  intro fuel hfuel
  by_cases h : a.es.length = b.es.length
  · simp -implicitDefEqProofs [b_spec_l1Same, h]
    refine (K_it (fun i : Nat => [(13, vI i)]) (fun _ => []) (fun i => some (resB ((a.es.drop i) == (b.es.drop i)))) (fun i => a.es.length - i) (fun i => i ≤ a.es.length) 0 (by simp) (by omega) (by simp) ?_).trans (by simp)
    intro i hi k hk
    by_cases hlt : i < a.es.length
    · have hlt2 : i < b.es.length := by omega
      rw [drop_cons hlt, drop_cons hlt2]
      have hs := wrap_succ (show i < 9223372036854775807 by omega)
      by_cases he : a.es[i] = b.es[i]
      · simp -implicitDefEqProofs [l1_spec_l1Same, hlt, hlt2, he]
        exact (hk (i + 1) _ (by omega) (by omega) (by simp [hs])).trans (by simp)
      · simp -implicitDefEqProofs [l1_spec_l1Same, hlt, hlt2, he]
    · have hlt2 : ¬ i < b.es.length := by omega
      simp -implicitDefEqProofs [l1_spec_l1Same, hlt, hlt2]
      rw [drop_end hlt, drop_end (by omega)]
      try rfl
  · simp -implicitDefEqProofs [b_spec_l1Same, h]
    try exact fun e => h (by simpa using congrArg List.length e)
theorem L_spec_txSame (a b : Poly) : L (prog hand) n_spec_txSame [arg (cP a), arg (cP b)] = some (resB (a.es == b.es)) := by
  have ha := a.ok
  refine L_body (b := b_spec_txSame) rfl rfl a.es.length ?_
  intro fuel hfuel
  by_cases h : a.es.length = b.es.length
  · simp -implicitDefEqProofs [b_spec_txSame, h]
    refine (K_it (fun i : Nat => [(14, vI i)]) (fun _ => []) (fun i => some (resB ((a.es.drop i) == (b.es.drop i)))) (fun i => a.es.length - i) (fun i => i ≤ a.es.length) 0 (by simp) (by omega) (by simp) ?_).trans (by simp)
    intro i hi k hk
    by_cases hlt : i < a.es.length
    · have hlt2 : i < b.es.length := by omega
      rw [drop_cons hlt, drop_cons hlt2]
      have hs := wrap_succ (show i < 9223372036854775807 by omega)
      by_cases he : a.es[i] = b.es[i]
      · simp -implicitDefEqProofs [l1_spec_txSame, hlt, hlt2, he, eqCells_self]
        exact (hk (i + 1) _ (by omega) (by omega) (by simp [hs])).trans (by simp)
      · simp -implicitDefEqProofs [l1_spec_txSame, hlt, hlt2, he, eqCells_ne he]
    · have hlt2 : ¬ i < b.es.length := by omega
      simp -implicitDefEqProofs [l1_spec_txSame, hlt, hlt2]
      rw [drop_end hlt, drop_end (by omega)]
      try rfl
  · simp -implicitDefEqProofs [b_spec_txSame, h]
    try exact fun e => h (by simpa using congrArg List.length e)
theorem L_slices_Equal_SimplTermimplTerm (a b : Poly) : L (prog hand) n_slices_Equal_SimplTermimplTerm [arg (cP a), arg (cP b)] = some (resB (a.es == b.es)) := by
  have ha := a.ok
  refine L_body (b := b_slices_Equal_SimplTermimplTerm) rfl rfl a.es.length ?_
  intro fuel hfuel
  by_cases h : a.es.length = b.es.length
  · simp -implicitDefEqProofs [b_slices_Equal_SimplTermimplTerm, h]
    refine (K_it (fun i : Nat => [(13, vI i)]) (fun _ => []) (fun i => some (resB ((a.es.drop i) == (b.es.drop i)))) (fun i => a.es.length - i) (fun i => i ≤ a.es.length) 0 (by simp) (by omega) (by simp) ?_).trans (by simp)
    intro i hi k hk
    by_cases hlt : i < a.es.length
    · have hlt2 : i < b.es.length := by omega
      rw [drop_cons hlt, drop_cons hlt2]
      have hs := wrap_succ (show i < 9223372036854775807 by omega)
      by_cases he : a.es[i] = b.es[i]
      · simp -implicitDefEqProofs [l1_slices_Equal_SimplTermimplTerm, hlt, hlt2, he, eqCells_self]
        exact (hk (i + 1) _ (by omega) (by omega) (by simp [hs])).trans (by simp)
      · simp -implicitDefEqProofs [l1_slices_Equal_SimplTermimplTerm, hlt, hlt2, he, eqCells_ne he]
    · have hlt2 : ¬ i < b.es.length := by omega
      simp -implicitDefEqProofs [l1_slices_Equal_SimplTermimplTerm, hlt, hlt2]
      rw [drop_end hlt, drop_end (by omega)]
      try rfl
  · simp -implicitDefEqProofs [b_slices_Equal_SimplTermimplTerm, h]
    try exact fun e => h (by simpa using congrArg List.length e)
theorem L_EqualFunc (a b : Sys) : L (prog hand) n_slices_EqualFunc_SSimplTermSSimplTermSimplTermSimplTerm [arg (cS a), arg (cS b), .imm (.fn n_slices_Equal_SimplTermimplTerm [])] = some (resB (pS a == pS b)) := by
  have ha := a.ok
  have hsh : shapeOf n_slices_Equal_SimplTermimplTerm = [] := rfl
  refine L_body (b := b_slices_EqualFunc_SSimplTermSSimplTermSimplTermSimplTerm) rfl rfl a.es.length ?_
  intro fuel hfuel
  by_cases h : a.es.length = b.es.length
  · simp -implicitDefEqProofs [b_slices_EqualFunc_SSimplTermSSimplTermSimplTermSimplTerm, h]
    refine (K_it (fun i : Nat => [(17, vI i)]) (fun _ => []) (fun i => some (resB ((a.es.drop i).map (·.es) == (b.es.drop i).map (·.es)))) (fun i => a.es.length - i) (fun i => i ≤ a.es.length) 0 (by simp) (by omega) (by simp) ?_).trans (by simp [pS])
    intro i hi k hk
    by_cases hlt : i < a.es.length
    · have hlt2 : i < b.es.length := by omega
      rw [drop_cons hlt, drop_cons hlt2]
      have hs := wrap_succ (show i < 9223372036854775807 by omega)
      by_cases he : a.es[i].es = b.es[i].es
      · simp -implicitDefEqProofs [l1_slices_EqualFunc_SSimplTermSSimplTermSimplTermSimplTerm, hlt, hlt2, he, L_slices_Equal_SimplTermimplTerm, hsh]
        exact (hk (i + 1) _ (by omega) (by omega) (by simp [hs])).trans (by simp)
      · simp -implicitDefEqProofs [l1_slices_EqualFunc_SSimplTermSSimplTermSimplTermSimplTerm, hlt, hlt2, he, L_slices_Equal_SimplTermimplTerm, hsh]
    · have hlt2 : ¬ i < b.es.length := by omega
      simp -implicitDefEqProofs [l1_slices_EqualFunc_SSimplTermSSimplTermSimplTermSimplTerm, hlt, hlt2]
      rw [drop_end hlt, drop_end (by omega)]
      try rfl
  · simp -implicitDefEqProofs [b_slices_EqualFunc_SSimplTermSSimplTermSimplTermSimplTerm, h, pS]
    try exact fun e => h (by simpa using congrArg List.length e)
def sameQ (a b : EntryV) : Bool := pS a.system == pS b.system && pB a.box == pB b.box
theorem L_caSame (a b : EntryV) : L (prog hand) n_spec_caSame [argE a, argE b] = some (resB (sameQ a b)) := by
  have ha := a.system.ok
  refine L_body (b := b_spec_caSame) rfl rfl a.system.es.length ?_
  intro fuel hfuel
  by_cases h : a.system.es.length = b.system.es.length
  · by_cases h1 : a.box.k = b.box.k
    · by_cases h2 : a.box.low.es = b.box.low.es
      · by_cases h3 : a.box.high.es = b.box.high.es
        · have hq : sameQ a b = (pS a.system == pS b.system) := by simp [sameQ, pB, h1, h2, h3]
          rw [hq]
          simp -implicitDefEqProofs [b_spec_caSame, h, h1, h2, h3, L_spec_l1Same]
          refine (K_it (fun i : Nat => [(46, vI i)]) (fun _ => []) (fun i => some (resB ((a.system.es.drop i).map (·.es) == (b.system.es.drop i).map (·.es)))) (fun i => a.system.es.length - i) (fun i => i ≤ a.system.es.length) 0 (by simp) (by omega) (by simp) ?_).trans (by simp [pS])
          intro i hi k hk
          by_cases hlt : i < a.system.es.length
          · have hlt2 : i < b.system.es.length := by omega
            rw [drop_cons hlt, drop_cons hlt2]
            have hs := wrap_succ (show i < 9223372036854775807 by omega)
            by_cases he : a.system.es[i].es = b.system.es[i].es
            · simp -implicitDefEqProofs [l1_spec_caSame, hlt, hlt2, he, L_spec_txSame]
              exact (hk (i + 1) _ (by omega) (by omega) (by simp [hs])).trans (by simp)
            · simp -implicitDefEqProofs [l1_spec_caSame, hlt, hlt2, he, L_spec_txSame]
          · have hlt2 : ¬ i < b.system.es.length := by omega
            simp -implicitDefEqProofs [l1_spec_caSame, hlt, hlt2]
            rw [drop_end hlt, drop_end (by omega)]
            try rfl
        · have hq : sameQ a b = false := by simp [sameQ, pB, h1, h2, h3]
          simp -implicitDefEqProofs [b_spec_caSame, h, h1, h2, h3, L_spec_l1Same, hq]
      · have hq : sameQ a b = false := by simp [sameQ, pB, h1, h2]
        simp -implicitDefEqProofs [b_spec_caSame, h, h1, h2, L_spec_l1Same, hq]
    · have hq : sameQ a b = false := by simp [sameQ, pB, h1]
      simp -implicitDefEqProofs [b_spec_caSame, h, h1, hq]
  · have hq : sameQ a b = false := by
      simp only [sameQ, Bool.and_eq_false_iff]
      exact Or.inl (by simpa [pS] using fun e => h (by simpa using congrArg List.length e))
    simp -implicitDefEqProofs [b_spec_caSame, h, hq]
end Go.Proofs.YtecmolmlojehgaaGreat.T
namespace Go.Proofs.YtecmolmlojehgaaGreat.T
open Go
variable {hand : Call}
set_option maxHeartbeats 2000000
attribute [-simp] List.getElem_cons_drop List.map_drop List.map_map eqCells
def shl (k x : Int) : Int := IntKind.i64.wrap (x * 2 ^ (min k.toNat 64))
def shlL (k : Int) (l : List Int) : List Int := l.map (shl k)
theorem shlL_length (k : Int) (l : List Int) : (shlL k l).length = l.length := by simp [shlL]
theorem L_scaled (a : Ints) (k : Int) (hk : 0 ≤ k) (ha : a.es.length ≤ 1000000) : L (prog hand) n_impl_scaled [arg (cI a), argI k] = some ⟨[.s (.mk .deep (.fl 1 ((shlL k a.es).map eI) []))], []⟩ := by
  refine L_body (b := b_impl_scaled) rfl rfl a.es.length ?_
  intro fuel hfuel
  have hneg : ¬ (k < 0) := by omega
  simp -implicitDefEqProofs [b_impl_scaled]
  refine (K_it (fun s : Nat × List Int => [(10, vI s.1), (5, .sv (.ref 64320 [] 0 s.2.length))]) (fun s => [(64320, .arr true false (.fl 1 (s.2.map eI) []))]) (fun s => some ⟨[.s (.mk .deep (.fl 1 ((s.2 ++ shlL k (a.es.drop s.1)).map eI) []))], []⟩) (fun s => a.es.length - s.1) (fun s => s.1 ≤ a.es.length ∧ s.2.length = s.1) (0, []) (by simp) (by simp; omega) (by simp) ?_).trans (by simp)
  rintro ⟨i, acc⟩ ⟨hi, hacc⟩ K hK
  simp only at hi hacc
  by_cases hlt : i < a.es.length
  · rw [drop_cons hlt]
    have hs := wrap_succ (show i < 9223372036854775807 by omega)
    have hm : (acc.length + 1) * 8 ≤ 140737488355328 := by omega
    have hm2 : acc.length + 1 ≤ 9223372036854775807 := by omega
    simp -implicitDefEqProofs [l1_impl_scaled, hlt, hneg, hm, hm2]
    refine (hK (i + 1, acc ++ [shl k a.es[i]]) _ ⟨by simp; omega, by simp; omega⟩ (by simp; omega) (by simp [hs, shl]; rfl)).trans (by simp [shlL])
  · rw [drop_end hlt]
    simp -implicitDefEqProofs [l1_impl_scaled, hlt, shlL]
abbrev argPB (b : BoxV) : Arg := .imm (.s (.pm (eB b) 0))
abbrev rBox (k : Int) (lo hi : List Int) : RV := .agg [.mk .imm (.val (int k)), .mk .deep (.fl 1 (lo.map eI) []), .mk .deep (.fl 1 (hi.map eI) [])]
def topK (a b : BoxV) : Int := if a.k < b.k then b.k else a.k
theorem L_align (a b : BoxV) (ha0 : 0 ≤ a.k) (ha1 : a.k ≤ 1000) (hb0 : 0 ≤ b.k) (hb1 : b.k ≤ 1000) (a1 : a.low.es.length ≤ 1000000) (a2 : a.high.es.length ≤ 1000000) (b1 : b.low.es.length ≤ 1000000) (b2 : b.high.es.length ≤ 1000000) :
    L (prog hand) n_impl_align [argPB a, argPB b] = some ⟨[.s (.mk .imm (.val (int (topK a b)))), rBox (topK a b) (shlL (topK a b - a.k) a.low.es) (shlL (topK a b - a.k) a.high.es), rBox (topK a b) (shlL (topK a b - b.k) b.low.es) (shlL (topK a b - b.k) b.high.es)], []⟩ := by
  refine L_body (b := b_impl_align) rfl rfl 0 ?_
  intro fuel _
  have hk0 : 0 ≤ topK a b - a.k := by unfold topK; split <;> omega
  have hk1 : 0 ≤ topK a b - b.k := by unfold topK; split <;> omega
  have w1 : IntKind.i64.wrap (topK a b - a.k) = topK a b - a.k := wrap64 (by omega) (by unfold topK; split <;> omega)
  have w2 : IntKind.i64.wrap (topK a b - b.k) = topK a b - b.k := wrap64 (by omega) (by unfold topK; split <;> omega)
  have hm : (if a.k < b.k then b.k else a.k) = topK a b := rfl
  have e1 := L_scaled (hand := hand) a.low _ hk0 a1
  have e2 := L_scaled (hand := hand) a.high _ hk0 a2
  have e3 := L_scaled (hand := hand) b.low _ hk1 b1
  have e4 := L_scaled (hand := hand) b.high _ hk1 b2
  generalize topK a b = t at hm w1 w2 e1 e2 e3 e4 ⊢
  simp -implicitDefEqProofs [b_impl_align, hm, w1, w2, e1, e2, e3, e4]
def cmpL : List Int → List Int → Int
  | [], [] => 0
  | [], _ :: _ => -1
  | _ :: _, [] => 1
  | x :: xs, y :: ys => if sgn (x - y) ≠ 0 then sgn (x - y) else cmpL xs ys
theorem cmpL_zero : ∀ {a b : List Int}, cmpL a b = 0 ↔ a = b
  | [], [] => by simp [cmpL]
  | [], _ :: _ => by simp [cmpL]
  | _ :: _, [] => by simp [cmpL]
  | x :: xs, y :: ys => by
    unfold cmpL
    by_cases h : sgn (x - y) = 0
    · rw [if_neg (by simpa using h), cmpL_zero (a := xs)]
      have : x = y := by rw [sgn_zero] at h; omega
      simp [this]
    · rw [if_pos h]
      have : x ≠ y := fun e => h (by rw [sgn_zero]; omega)
      simp [h, this]
theorem L_slicesCompare (xs ys : List Int) (sx sy : List (List Value)) (hx : xs.length ≤ 1000000) (hy : ys.length ≤ 1000000) : L (prog hand) n_slices_Compare_Sintint [arg (.fl 1 (xs.map eI) sx), arg (.fl 1 (ys.map eI) sy)] = some (resI (cmpL xs ys)) := by
  refine L_body (b := b_slices_Compare_Sintint) rfl rfl xs.length ?_
  intro fuel hfuel
  simp -implicitDefEqProofs [b_slices_Compare_Sintint]
  refine (K_it (fun i : Nat => [(11, vI i)]) (fun _ => []) (fun i => some (resI (cmpL (xs.drop i) (ys.drop i)))) (fun i => xs.length - i) (fun i => i ≤ xs.length ∧ i ≤ ys.length) 0 (by simp) (by omega) (by simp) ?_).trans (by simp)
  rintro i ⟨hi, hi2⟩ k hk
  by_cases hlt : i < xs.length
  · rw [drop_cons hlt]
    by_cases hlt2 : i < ys.length
    · have hge : ¬ (ys.length ≤ i) := by omega
      rw [drop_cons hlt2]
      have hs := wrap_succ (show i < 9223372036854775807 by omega)
      by_cases h : sgn (xs[i] - ys[i]) = 0
      · simp -implicitDefEqProofs [l1_slices_Compare_Sintint, hlt, hlt2, hge, L_cmpCompare, h, cmpL]
        exact hk (i + 1) _ ⟨by omega, by omega⟩ (by omega) (by simp [hs])
      · simp -implicitDefEqProofs [l1_slices_Compare_Sintint, hlt, hlt2, hge, L_cmpCompare, h, cmpL]
    · have hge : ys.length ≤ i := by omega
      rw [drop_end hlt2]
      simp -implicitDefEqProofs [l1_slices_Compare_Sintint, hlt, hge, cmpL]
  · rw [drop_end hlt]
    by_cases hlt2 : i < ys.length
    · have : xs.length < ys.length := by omega
      rw [drop_cons hlt2]
      simp -implicitDefEqProofs [l1_slices_Compare_Sintint, hlt, this, cmpL]
    · have : ¬ (xs.length < ys.length) := by omega
      rw [drop_end hlt2]
      simp -implicitDefEqProofs [l1_slices_Compare_Sintint, hlt, this, cmpL]
theorem L_compareBoxes (a b : BoxV) (ha0 : 0 ≤ a.k) (ha1 : a.k ≤ 1000) (hb0 : 0 ≤ b.k) (hb1 : b.k ≤ 1000) (a1 : a.low.es.length ≤ 1000000) (a2 : a.high.es.length ≤ 1000000) (b1 : b.low.es.length ≤ 1000000) (b2 : b.high.es.length ≤ 1000000) :
    L (prog hand) n_impl_compareBoxes [argB a, argB b] = some (resI (orL [cmpL (shlL (topK a b - a.k) a.low.es) (shlL (topK a b - b.k) b.low.es), cmpL (shlL (topK a b - a.k) a.high.es) (shlL (topK a b - b.k) b.high.es)])) := by
  refine L_body (b := b_impl_compareBoxes) rfl rfl 0 ?_
  intro fuel _
  have e1 := L_align (hand := hand) a b ha0 ha1 hb0 hb1 a1 a2 b1 b2
  rw [← shlL_length (topK a b - a.k)] at a1 a2
  rw [← shlL_length (topK a b - b.k)] at b1 b2
  generalize shlL (topK a b - a.k) a.low.es = x1 at e1 a1 ⊢
  generalize shlL (topK a b - a.k) a.high.es = x2 at e1 a2 ⊢
  generalize shlL (topK a b - b.k) b.low.es = y1 at e1 b1 ⊢
  generalize shlL (topK a b - b.k) b.high.es = y2 at e1 b2 ⊢
  have c1 := L_slicesCompare (hand := hand) x1 y1 [] [] a1 b1
  have c2 := L_slicesCompare (hand := hand) x2 y2 [] [] a2 b2
  have hO := L_cmpOr (hand := hand) [cmpL x1 y1, cmpL x2 y2] (by simp)
  simp only [List.map_cons, List.map_nil] at hO
  simp -implicitDefEqProofs [b_impl_compareBoxes, e1, c1, c2, hO]
/-! ### Valid boxes -/
theorem shl_val {k x : Int} (hk0 : 0 ≤ k) (hk : k ≤ 8) (h1 : -1000000 ≤ x) (h2 : x ≤ 1000000) : shl k x = x * 2 ^ k.toNat := by
  have hm : min k.toNat 64 = k.toNat := by omega
  unfold shl
  rw [hm]
  have h8 : k = 0 ∨ k = 1 ∨ k = 2 ∨ k = 3 ∨ k = 4 ∨ k = 5 ∨ k = 6 ∨ k = 7 ∨ k = 8 := by omega
  rcases h8 with rfl | rfl | rfl | rfl | rfl | rfl | rfl | rfl | rfl <;> (refine wrap64 ?_ ?_ <;> simp <;> omega)
theorem shl_inj {k x y : Int} (hk0 : 0 ≤ k) (hk : k ≤ 8) (h1 : -1000000 ≤ x) (h2 : x ≤ 1000000) (h3 : -1000000 ≤ y) (h4 : y ≤ 1000000) (h : shl k x = shl k y) : x = y := by
  rw [shl_val hk0 hk h1 h2, shl_val hk0 hk h3 h4] at h
  have hp : (2 : Int) ^ k.toNat ≠ 0 := by
    have := Int.pow_pos (n := 2) (m := k.toNat) (by decide)
    omega
  exact Int.eq_of_mul_eq_mul_right hp h
theorem shl_even {k x : Int} (hk0 : 0 < k) (hk : k ≤ 8) (h1 : -1000000 ≤ x) (h2 : x ≤ 1000000) : par (shl k x) = false := by
  rw [shl_val (by omega) hk h1 h2]
  have h8 : k = 1 ∨ k = 2 ∨ k = 3 ∨ k = 4 ∨ k = 5 ∨ k = 6 ∨ k = 7 ∨ k = 8 := by omega
  have : ∃ m, x * 2 ^ k.toNat = 2 * m := by
    rcases h8 with rfl | rfl | rfl | rfl | rfl | rfl | rfl | rfl
    · exact ⟨x, by simp; omega⟩
    · exact ⟨x * 2, by simp; omega⟩
    · exact ⟨x * 4, by simp; omega⟩
    · exact ⟨x * 8, by simp; omega⟩
    · exact ⟨x * 16, by simp; omega⟩
    · exact ⟨x * 32, by simp; omega⟩
    · exact ⟨x * 64, by simp; omega⟩
    · exact ⟨x * 128, by simp; omega⟩
  obtain ⟨m, hm⟩ := this
  rw [hm]
  simp [par]
theorem shl_zero {x : Int} (h1 : -1000000 ≤ x) (h2 : x ≤ 1000000) : shl 0 x = x := by rw [shl_val (by omega) (by omega) h1 h2]; simp
theorem shlL_inj {k : Int} (hk0 : 0 ≤ k) (hk : k ≤ 8) : ∀ {l m : List Int}, (∀ x ∈ l, -1000000 ≤ x ∧ x ≤ 1000000) → (∀ x ∈ m, -1000000 ≤ x ∧ x ≤ 1000000) → shlL k l = shlL k m → l = m
  | [], [], _, _, _ => rfl
  | [], _ :: _, _, _, h => by simp [shlL] at h
  | _ :: _, [], _, _, h => by simp [shlL] at h
  | x :: l, y :: m, h1, h2, h => by
    simp only [shlL, List.map_cons, List.cons.injEq] at h
    have := shlL_inj hk0 hk (fun z hz => h1 z (by simp [hz])) (fun z hz => h2 z (by simp [hz])) h.2
    rw [this, shl_inj hk0 hk (h1 x (by simp)).1 (h1 x (by simp)).2 (h2 y (by simp)).1 (h2 y (by simp)).2 h.1]
/-- What a box's sides say. -/
theorem sidesGo_spec {M : Int} : ∀ {lo hi : List Int} {odd : Bool}, lo.length = hi.length → sidesGo M odd lo hi = true → (∀ x ∈ lo, -M ≤ x ∧ x ≤ M) ∧ (∀ x ∈ hi, -M ≤ x ∧ x ≤ M) ∧ (odd = true ∨ ∃ x, (x ∈ lo ∨ x ∈ hi) ∧ par x = true)
  | [], [], odd, _, h => ⟨by simp, by simp, Or.inl h⟩
  | [], _ :: _, _, hl, _ => by simp at hl
  | _ :: _, [], _, hl, _ => by simp at hl
  | x :: lo, y :: hi, odd, hl, h => by
    simp only [sidesGo, Bool.and_eq_true] at h
    obtain ⟨h1, h2, _, h4⟩ := h
    obtain ⟨k1, k2, k3⟩ := sidesGo_spec (by simpa using hl) h4
    have i1 := inR_true h1
    have i2 := inR_true h2
    refine ⟨fun z hz => ?_, fun z hz => ?_, ?_⟩
    · simp only [List.mem_cons] at hz
      rcases hz with rfl | hz
      · exact i1
      · exact k1 z hz
    · simp only [List.mem_cons] at hz
      rcases hz with rfl | hz
      · exact i2
      · exact k2 z hz
    · rcases k3 with k3 | ⟨z, hz, hp⟩
      · simp only [Bool.or_eq_true] at k3
        rcases k3 with k3 | k3 | k3
        · exact Or.inl k3
        · exact Or.inr ⟨x, Or.inl (by simp), k3⟩
        · exact Or.inr ⟨y, Or.inr (by simp), k3⟩
      · exact Or.inr ⟨z, by rcases hz with hz | hz <;> simp [hz], hp⟩
theorem boxOk_spec {b : PBox} (h : boxOk b = true) : 0 ≤ b.k ∧ b.k ≤ 8 ∧ 1 ≤ b.low.length ∧ b.low.length ≤ 3 ∧ b.high.length = b.low.length ∧ (∀ x ∈ b.low, -2048 ≤ x ∧ x ≤ 2048) ∧ (∀ x ∈ b.high, -2048 ≤ x ∧ x ≤ 2048) ∧ (b.k = 0 ∨ ∃ x, (x ∈ b.low ∨ x ∈ b.high) ∧ par x = true) := by
  simp only [boxOk, Bool.and_eq_true, decide_eq_true_eq] at h
  obtain ⟨h1, h2, h3, h4⟩ := h
  have i1 := inR_true h1
  have i2 := inR_true h2
  obtain ⟨k1, k2, k3⟩ := sidesGo_spec (by omega) h4
  obtain ⟨n, hn⟩ : ∃ n : Nat, b.k = n := ⟨b.k.toNat, by omega⟩
  have hp := pow_le (k := n) (by omega)
  rw [hn] at k1 k2
  simp only [Int.toNat_natCast] at k1 k2
  refine ⟨i1.1, i1.2, by omega, by omega, h3, fun x hx => ?_, fun x hx => ?_, ?_⟩
  · have := k1 x hx; omega
  · have := k2 x hx; omega
  · rcases k3 with k3 | k3
    · exact Or.inl (by simpa using k3)
    · exact Or.inr k3
theorem same_scaled {a b : BoxV} (ha : boxOk (pB a) = true) (hb : boxOk (pB b) = true) : (shlL (topK a b - a.k) a.low.es = shlL (topK a b - b.k) b.low.es ∧ shlL (topK a b - a.k) a.high.es = shlL (topK a b - b.k) b.high.es) ↔ pB a = pB b := by
  obtain ⟨a1, a2, _, _, _, a3, a4, a5⟩ := boxOk_spec ha
  obtain ⟨b1, b2, _, _, _, b3, b4, b5⟩ := boxOk_spec hb
  simp only [pB] at a1 a2 a3 a4 a5 b1 b2 b3 b4 b5
  have wide : ∀ {l : List Int}, (∀ x ∈ l, -2048 ≤ x ∧ x ≤ 2048) → ∀ x ∈ l, -1000000 ≤ x ∧ x ≤ 1000000 := fun h x hx => by have := h x hx; omega
  have zero : ∀ {l : List Int}, (∀ x ∈ l, -2048 ≤ x ∧ x ≤ 2048) → shlL 0 l = l := by
    intro l h
    unfold shlL
    conv => rhs; rw [← List.map_id l]
    apply List.map_congr_left
    intro x hx
    have := h x hx
    exact shl_zero (by omega) (by omega)
  have even : ∀ {k : Int} {l : List Int}, 0 < k → k ≤ 8 → (∀ x ∈ l, -2048 ≤ x ∧ x ≤ 2048) → ∀ x ∈ shlL k l, par x = false := by
    intro k l h0 h8 h x hx
    simp only [shlL, List.mem_map] at hx
    obtain ⟨y, hy, rfl⟩ := hx
    have := h y hy
    exact shl_even h0 h8 (by omega) (by omega)
  constructor
  · rintro ⟨h1, h2⟩
    by_cases hk : a.k = b.k
    · have ht : topK a b = a.k := by unfold topK; rw [if_neg (by omega)]
      rw [ht, hk, Int.sub_self] at h1 h2
      rw [zero a3, zero b3] at h1
      rw [zero a4, zero b4] at h2
      simp only [pB, hk, h1, h2]
    · exfalso
      by_cases hlt : a.k < b.k
      · have ht : topK a b = b.k := by unfold topK; rw [if_pos hlt]
        rw [ht, Int.sub_self, zero b3] at h1
        rw [ht, Int.sub_self, zero b4] at h2
        rcases b5 with b5 | ⟨x, hx, hp⟩
        · omega
        · rcases hx with hx | hx
          · rw [← h1] at hx
            rw [even (by omega) (by omega) a3 x hx] at hp; cases hp
          · rw [← h2] at hx
            rw [even (by omega) (by omega) a4 x hx] at hp; cases hp
      · have ht : topK a b = a.k := by unfold topK; rw [if_neg hlt]
        rw [ht, Int.sub_self, zero a3] at h1
        rw [ht, Int.sub_self, zero a4] at h2
        rcases a5 with a5 | ⟨x, hx, hp⟩
        · omega
        · rcases hx with hx | hx
          · rw [h1] at hx
            rw [even (by omega) (by omega) b3 x hx] at hp; cases hp
          · rw [h2] at hx
            rw [even (by omega) (by omega) b4 x hx] at hp; cases hp
  · intro h
    simp only [pB, PBox.mk.injEq] at h
    obtain ⟨h1, h2, h3⟩ := h
    rw [h1, h2, h3]
    exact ⟨rfl, rfl⟩
theorem L_sameBox (a b : BoxV) (ha : boxOk (pB a) = true) (hb : boxOk (pB b) = true) : L (prog hand) n_impl_sameBox [argB a, argB b] = some (resB (pB a == pB b)) := by
  obtain ⟨a1, a2, _, a6, a7, _⟩ := boxOk_spec ha
  obtain ⟨b1, b2, _, b6, b7, _⟩ := boxOk_spec hb
  have hs := same_scaled ha hb
  simp only [pB] at a1 a2 a6 a7 b1 b2 b6 b7
  refine L_body (b := b_impl_sameBox) rfl rfl 0 ?_
  intro fuel _
  have hc := L_compareBoxes (hand := hand) a b a1 (by omega) b1 (by omega) (by omega) (by omega) (by omega) (by omega)
  by_cases h : a.low.es.length = b.low.es.length
  · have e : (orL [cmpL (shlL (topK a b - a.k) a.low.es) (shlL (topK a b - b.k) b.low.es), cmpL (shlL (topK a b - a.k) a.high.es) (shlL (topK a b - b.k) b.high.es)] == 0) = (pB a == pB b) := by
      rw [Bool.eq_iff_iff, beq_iff_eq, beq_iff_eq, ← hs, ← cmpL_zero, ← cmpL_zero]
      simp only [orL]
      constructor
      · intro h
        split at h
        · rename_i h1; exact absurd h h1
        · rename_i h1
          split at h
          · rename_i h2; exact absurd h h2
          · rename_i h2; exact ⟨Decidable.not_not.1 h1, Decidable.not_not.1 h2⟩
      · rintro ⟨h1, h2⟩
        simp [h1, h2]
    rw [← e]
    generalize orL [cmpL (shlL (topK a b - a.k) a.low.es) (shlL (topK a b - b.k) b.low.es), cmpL (shlL (topK a b - a.k) a.high.es) (shlL (topK a b - b.k) b.high.es)] = r at hc ⊢
    simp -implicitDefEqProofs [b_impl_sameBox, h, hc]
  · have e : (pB a == pB b) = false := by
      rw [beq_eq_false_iff_ne]
      intro e
      simp only [pB, PBox.mk.injEq] at e
      exact h (by rw [e.2.1])
    rw [e]
    simp -implicitDefEqProofs [b_impl_sameBox, h]
theorem L_sameSystem (a b : EntryV) (ha : boxOk (pB a.box) = true) (hb : boxOk (pB b.box) = true) : L (prog hand) n_impl_sameSystem [argPE a 0, argPE b 0] = some (resB (sameQ a b)) := by
  refine L_body (b := b_impl_sameSystem) rfl rfl 0 ?_
  intro fuel _
  have h1 := L_EqualFunc (hand := hand) a.system b.system
  have h2 := L_sameBox (hand := hand) a.box b.box ha hb
  unfold sameQ
  generalize (pS a.system == pS b.system) = q at h1 ⊢
  cases q with
  | false => simp -implicitDefEqProofs [b_impl_sameSystem, h1]
  | true => simp -implicitDefEqProofs [b_impl_sameSystem, h1, h2]
end Go.Proofs.YtecmolmlojehgaaGreat.T
namespace Go.Proofs.YtecmolmlojehgaaGreat.T
open Go
set_option maxHeartbeats 4000000
attribute [-simp] List.getElem_cons_drop List.map_drop List.map_take List.map_map eqCells
def insRow {α : Type} (l : Row α) (k : Nat) (e : α) : Row α := if h : l.es.length + 1 ≤ 9223372036854775807 then ⟨l.es.take k ++ [e] ++ l.es.drop k, [], by simp; omega⟩ else l
theorem insRow_es {α : Type} {l : Row α} (h : l.es.length ≤ 1000000) (k : Nat) (e : α) : (insRow l k e).es = l.es.take k ++ [e] ++ l.es.drop k := by
  unfold insRow; rw [dif_pos (by omega)]
theorem insRow_sp {α : Type} {l : Row α} (h : l.es.length ≤ 1000000) (k : Nat) (e : α) : (insRow l k e).sp = [] := by
  unfold insRow; rw [dif_pos (by omega)]
/-- The row with an entry in its place. -/
def putRow (l : Entries) (e : EntryV) : Entries := if atB l.es (placeGo e.name l.es) e.name = true then setRow l (placeGo e.name l.es) e else insRow l (placeGo e.name l.es) e
theorem L_caPut_new (l : Entries) (e : EntryV) (k : Nat) (hl : l.es.length ≤ 1000000) (hp : ∀ x ∈ l.es, SmallE x) (he : SmallE e) (hk : placeGo e.name l.es = k) (hat : atB l.es k e.name = false) : L0 n_spec_caPut [arg (cE l), argE e] = some ⟨[.s (.mk .deep (cE (bareL (insRow l k e))))], []⟩ := by
  have hkl : k ≤ l.es.length := by rw [← hk]; exact placeGo_le _ _
  refine L_body (b := b_spec_caPut) rfl rfl 0 ?_
  intro fuel _
  have hP := L_caPlace l e.name
  rw [hk] at hP
  have hA := L_caAt l k e.name
  rw [hat] at hA
  have hO := L_caOwn e he
  have e1 : C.sl 8 (List.take k (List.map eE l.es ++ List.map eE l.sp)) (List.drop k (List.map eE l.es ++ List.map eE l.sp)) = cE (preRow l k) := by
    rw [List.take_append_of_le_length (by simpa using hkl), List.drop_append_of_le_length (by simpa using hkl)]
    simp [preRow, List.map_take, List.map_drop]
  have e2 : C.sl 8 (List.take (l.es.length - k) (List.drop k (List.map eE l.es ++ List.map eE l.sp))) (List.map eE l.sp) = cE (postRow l k) := by
    rw [List.drop_append_of_le_length (by simp; omega), List.take_left' (by simp)]
    simp [postRow, List.map_drop]
  have h1 := L_spec_caOwnAll (preRow l k) (by simp [preRow]; omega) (fun x hx => hp x (List.mem_of_mem_take hx))
  have h2 := L_spec_caOwnAll (postRow l k) (by simp [postRow]; omega) (fun x hx => hp x (List.mem_of_mem_drop hx))
  obtain ⟨P, hPd⟩ : ∃ P, P = (bareL (preRow l k)).es.map eE := ⟨_, rfl⟩
  obtain ⟨Q, hQd⟩ : ∃ Q, Q = (bareL (postRow l k)).es.map eE := ⟨_, rfl⟩
  have hPl : P.length = k := by rw [hPd]; simp [bareL, preRow]; omega
  have hQl : Q.length = l.es.length - k := by rw [hQd]; simp [bareL, postRow]
  have h1' : L0 n_spec_caOwnAll [arg (C.sl 8 (List.take k (List.map eE l.es ++ List.map eE l.sp)) (List.drop k (List.map eE l.es ++ List.map eE l.sp)))] = some ⟨[.s (.mk .deep (.sl 8 P []))], []⟩ := by
    rw [e1, h1, hPd]; rfl
  have h2' : L0 n_spec_caOwnAll [arg (C.sl 8 (List.take (l.es.length - k) (List.drop k (List.map eE l.es ++ List.map eE l.sp))) (List.map eE l.sp))] = some ⟨[.s (.mk .deep (.sl 8 Q []))], []⟩ := by
    rw [e2, h2, hQd]; rfl
  have hres : cE (bareL (insRow l k e)) = .sl 8 (P ++ [eE (bareE e)] ++ Q) [] := by
    rw [hPd, hQd]
    simp only [cE, bareL, insRow_es hl, preRow, postRow, List.map_nil]
    simp [List.map_take, List.map_drop]
  rw [hres]
  clear hres hPd hQd h1 h2 e1 e2
  have hb : (k : Int) ≤ (l.es.length : Int) + (l.sp.length : Int) := by omega
  have hb2 : (k : Int) ≤ (l.es.length : Int) := by omega
  have hb3 : (l.es.length : Int) ≤ (l.es.length : Int) + (l.sp.length : Int) := by omega
  have hm1 : (k + 1) * 120 ≤ 140737488355328 := by omega
  have hm2 : k + 1 ≤ 9223372036854775807 := by omega
  have hm3 : (k + 1 + (l.es.length - k)) * 120 ≤ 140737488355328 := by omega
  have hm4 : k + 1 + (l.es.length - k) ≤ 9223372036854775807 := by omega
  have hT1 : P.take k = P := List.take_of_length_le (by omega)
  have hT2 : Q.take (l.es.length - k) = Q := List.take_of_length_le (by omega)
  simp -implicitDefEqProofs [b_spec_caPut, hP, hA, hO, h1', h2', hPl, hQl, hkl, hb, hb2, hb3, hm1, hm2, hm3, hm4, hT1, hT2]
  have hx : ∀ x : List C, (P ++ [x]).take (k + 1) = P ++ [x] := fun x => List.take_of_length_le (by simp [hPl])
  rw [hx, List.take_of_length_le (by simp [hPl, hQl]; omega)]
  simp
theorem L_caPutRow (l : Entries) (e : EntryV) (hl : l.es.length ≤ 1000000) (hp : ∀ x ∈ l.es, SmallE x) (he : SmallE e) : L0 n_spec_caPut [arg (cE l), argE e] = some ⟨[.s (.mk .deep (cE (bareL (putRow l e))))], []⟩ := by
  unfold putRow
  cases hat : atB l.es (placeGo e.name l.es) e.name with
  | true => exact L_caPut l e _ hl hp he rfl hat
  | false => exact L_caPut_new l e _ hl hp he rfl hat
/-- Two entries of a name, met. -/
def meetE (x e : EntryV) : EntryV := ⟨x.name, x.nok, x.system, x.box, max x.least e.least, min x.most e.most, x.version⟩
theorem L_caMeet (x e : EntryV) : L0 n_spec_caMeet [argE x, argE e] =
    some ⟨[.agg ((if e.version < x.version then sE x else if x.version < e.version then sE e else if sameQ x e = true then sE (meetE x e) else [.c (.val (.string ⟨#[]⟩)), .c (.sl 1 [] []), .c (.val (int 0)), .c (.fl 1 [] []), .c (.fl 1 [] []), .c (.val (int 0)), .c (.val (int 0)), .c (.val (int 0))]).map (fun s => match s with | .c c => RC.mk (if sameQ x e = true ∨ e.version < x.version ∨ x.version < e.version then .imm else if c.isVal then .imm else .deep) c | _ => RC.mk .imm .hole)), .s (.mk .imm (.val (.bool (if e.version < x.version then true else if x.version < e.version then true else if sameQ x e = true then entryOk (qE (meetE x e)) else false))))], []⟩ := by
  refine L_body (b := b_spec_caMeet) rfl rfl 0 ?_
  intro fuel _
  by_cases h1 : e.version < x.version
  · simp -implicitDefEqProofs [b_spec_caMeet, h1]
  by_cases h2 : x.version < e.version
  · simp -implicitDefEqProofs [b_spec_caMeet, h1, h2]
  have hS := L_caSame (hand := handF) x e
  cases h3 : sameQ x e with
  | false =>
    rw [h3] at hS
    simp -implicitDefEqProofs [b_spec_caMeet, h1, h2, hS, h3]
  | true =>
    rw [h3] at hS
    have hE := L_caEntry (hand := handF) (meetE x e)
    have hE : L0 n_spec_caEntry [.imm (.agg [.c (.val (.string x.name)), .c (cS x.system), .c (.val (int x.box.k)), .c (cI x.box.low), .c (cI x.box.high), .c (.val (int (max x.least e.least))), .c (.val (int (min x.most e.most))), .c (.val (int x.version))])] = some (resB (entryOk (qE (meetE x e)))) := hE
    simp -implicitDefEqProofs [b_spec_caMeet, h1, h2, hS, h3, L_l1Most, L_l1Least, hE]
    exact ⟨rfl, ⟨rfl, rfl⟩, rfl, ⟨rfl, rfl⟩, ⟨rfl, rfl⟩, rfl, rfl, rfl⟩
end Go.Proofs.YtecmolmlojehgaaGreat.T
namespace Go.Proofs.YtecmolmlojehgaaGreat.T
open Go
set_option maxHeartbeats 8000000
attribute [-simp] List.getElem_cons_drop List.map_drop List.map_take List.map_map eqCells
theorem bareRow_bare {α : Type} (a : Row α) : bareRow (bareRow a) = bareRow a := rfl
theorem bareS_bare (s : Sys) : bareS (bareS s) = bareS s := by
  simp only [bareS, List.map_map]
  rfl
theorem bareB_bare (b : BoxV) : bareB (bareB b) = bareB b := rfl
theorem bareE_bare (e : EntryV) : bareE (bareE e) = bareE e := by
  simp only [bareE, bareS_bare]; rfl
theorem bareE_name (e : EntryV) : (bareE e).name = e.name := rfl
theorem bareE_version (e : EntryV) : (bareE e).version = e.version := rfl
theorem sameQ_bare (x e : EntryV) : sameQ (bareE x) (bareE e) = sameQ x e := by
  have h : ∀ s : Sys, pS (bareS s) = pS s := fun s => by simp [pS, bareS, bareRow, Function.comp_def, List.map_map]
  simp only [sameQ, bareE, h]; rfl
theorem meetE_bare (x e : EntryV) : bareE (meetE x e) = meetE (bareE x) (bareE e) := rfl
theorem placeGo_bare (n : ByteArray) : ∀ l : List EntryV, placeGo n (l.map bareE) = placeGo n l
  | [] => rfl
  | e :: r => by simp only [List.map_cons, placeGo, bareE_name, placeGo_bare n r]
theorem atB_bare (l : List EntryV) (k : Nat) (n : ByteArray) : atB (l.map bareE) k n = atB l k n := by
  unfold atB
  rw [List.getElem?_map]
  cases l[k]? <;> rfl
/-- Entries with another one in its place. -/
def putL (l : List EntryV) (e : EntryV) : List EntryV := if atB l (placeGo e.name l) e.name = true then l.set (placeGo e.name l) (bareE e) else l.take (placeGo e.name l) ++ [bareE e] ++ l.drop (placeGo e.name l)
theorem putL_length (l : List EntryV) (e : EntryV) : (putL l e).length ≤ l.length + 1 := by
  unfold putL
  split
  · simp
  · simp; omega
theorem putL_mem {l : List EntryV} {e x : EntryV} (h : x ∈ putL l e) : x ∈ l ∨ x = bareE e := by
  unfold putL at h
  split at h
  · exact List.mem_or_eq_of_mem_set h
  · simp only [List.mem_append, List.mem_singleton] at h
    rcases h with (h | h) | h
    · exact Or.inl (List.mem_of_mem_take h)
    · exact Or.inr h
    · exact Or.inl (List.mem_of_mem_drop h)
/-- All are bare. -/
def Bare (l : List EntryV) : Prop := ∀ x ∈ l, bareE x = x
theorem Bare.map {l : List EntryV} (h : Bare l) : l.map bareE = l := by
  conv => rhs; rw [← List.map_id l]
  exact List.map_congr_left (fun x hx => h x hx)
theorem bare_map (l : List EntryV) : Bare (l.map bareE) := fun x hx => by
  simp only [List.mem_map] at hx
  obtain ⟨y, _, rfl⟩ := hx
  exact bareE_bare y
theorem Bare.put {l : List EntryV} (h : Bare l) (e : EntryV) : Bare (putL l e) := fun x hx => by
  rcases putL_mem hx with hx | rfl
  · exact h x hx
  · exact bareE_bare e
theorem L_putL (l : List EntryV) (m : EntryV) (hb : Bare l) (hl : l.length ≤ 1000000) (hp : ∀ x ∈ l, SmallE x) (he : SmallE m) : L0 n_spec_caPut [arg (.sl 8 (l.map eE) []), argE m] = some ⟨[.s (.mk .deep (.sl 8 ((putL l m).map eE) []))], []⟩ := by
  have h := L_caPutRow ⟨l, [], by simp; omega⟩ m hl hp he
  have e : cE (bareL (putRow ⟨l, [], by simp; omega⟩ m)) = .sl 8 ((putL l m).map eE) [] := by
    unfold putRow putL
    split
    · simp only [cE, bareL, setRow, List.map_set, hb.map, List.map_nil]
    · have h1 : (insRow (⟨l, [], by simp; omega⟩ : Entries) (placeGo m.name l) m).es = l.take (placeGo m.name l) ++ [m] ++ l.drop (placeGo m.name l) := insRow_es hl _ _
      simp only [cE, bareL, h1, List.map_append, List.map_cons, List.map_nil, List.map_take, List.map_drop, hb.map]
  rw [e] at h
  exact h
theorem small_bare {e : EntryV} (h : SmallE e) : SmallE (bareE e) := by
  obtain ⟨⟨h1, h2⟩, h3, h4⟩ := h
  refine ⟨⟨by simpa [bareE, bareS] using h1, ?_⟩, h3, h4⟩
  intro p hp
  simp only [bareE, bareS, List.mem_map] at hp
  obtain ⟨q, hq, rfl⟩ := hp
  exact h2 q hq
theorem small_meet {x e : EntryV} (h : SmallE x) : SmallE (meetE x e) := h
/-- What an entry becomes where a has one of its name. -/
def meetOpt (a : List EntryV) (e : EntryV) : Option EntryV :=
  if atB a (placeGo e.name a) e.name = true then
    match a[placeGo e.name a]? with
    | some x => if e.version < x.version then some x else if x.version < e.version then some e else if sameQ x e = true then (if entryOk (qE (meetE x e)) = true then some (meetE x e) else none) else none
    | none => none
  else some e
def specGo (a : List EntryV) : List EntryV → List EntryV → Option (List EntryV)
  | out, [] => some out
  | out, e :: r =>
    match meetOpt a e with
    | some m => specGo a (putL out m) r
    | none => none
def joinFin (o : Option (List EntryV)) : Bool × List EntryV :=
  match o with
  | some out => if catOk (out.map qE) = true then (true, out) else (false, [])
  | none => (false, [])
abbrev resJ (r : Bool × List EntryV) : Res := ⟨[.s (.mk .deep (.sl 8 (r.2.map eE) [])), .s (.mk .imm (.val (.bool r.1)))], []⟩
theorem qL_list {l : List EntryV} (h : l.length ≤ 1000000) : qL ⟨l, [], by simp; omega⟩ = l.map qE := rfl
theorem L_caGood' (l : List EntryV) (h : l.length ≤ 1000000) : L0 n_spec_caGood [arg (.sl 8 (l.map eE) [])] = some (resB (catOk (l.map qE))) := L_caGood (hand := handF) ⟨l, [], by simp; omega⟩
theorem L_specJoin (X Y : Entries) (hxy : X.es.length + Y.es.length ≤ 1000000) (px : ∀ e ∈ X.es, SmallE e) (py : ∀ e ∈ Y.es, SmallE e) :
    L0 n_spec_JoinCatalogues [arg (cE X), arg (cE Y)] = some (resJ (if catOk (qL X) = true ∧ catOk (qL Y) = true then joinFin (specGo X.es (X.es.map bareE) Y.es) else (false, []))) := by
  refine L_body (b := b_spec_JoinCatalogues) rfl rfl Y.es.length ?_
  intro fuel hfuel
  cases c1 : catOk (qL X) with
  | false => simp -implicitDefEqProofs [b_spec_JoinCatalogues, L_caGood, c1]
  | true =>
  cases c2 : catOk (qL Y) with
  | false => simp -implicitDefEqProofs [b_spec_JoinCatalogues, L_caGood, c1, c2]
  | true =>
  have hO := L_spec_caOwnAll X (by omega) px
  have hO : L0 n_spec_caOwnAll [arg (cE X)] = some ⟨[.s (.mk .deep (.sl 8 ((X.es.map bareE).map eE) []))], []⟩ := hO
  have hnl : (X.es.map bareE).length ≤ X.es.length := by simp
  have hps : ∀ x ∈ X.es.map bareE, SmallE x := by
    intro x hx
    simp only [List.mem_map] at hx
    obtain ⟨y, hy, rfl⟩ := hx
    exact small_bare (px y hy)
  have hbr := bare_map X.es
  generalize X.es.map bareE = out0 at hO hnl hps hbr ⊢
  simp -implicitDefEqProofs [b_spec_JoinCatalogues, L_caGood, c1, c2, hO]
  refine (K_it (fun s : Nat × List EntryV => [(24, vI s.1), (6, .sv (.ref 65344 [] 0 s.2.length))]) (fun s => [(65344, .arr true false (.sl 8 (s.2.map eE) []))]) (fun s => some (resJ (joinFin (specGo X.es s.2 (Y.es.drop s.1))))) (fun s => Y.es.length - s.1) (fun s => s.1 ≤ Y.es.length ∧ s.2.length ≤ X.es.length + s.1 ∧ Bare s.2 ∧ ∀ x ∈ s.2, SmallE x) (0, out0) ⟨by simp, by simpa using hnl, hbr, hps⟩ (by simp; omega) (by simp) ?_).trans (by simp)
  rintro ⟨i, out⟩ ⟨hi, hl, hb, hp⟩ K hK
  simp only at hi hl hb hp
  by_cases hlt : i < Y.es.length
  · rw [drop_cons hlt]
    have hs := wrap_succ (show i < 9223372036854775807 by omega)
    have hsm := py _ (List.getElem_mem hlt)
    have hP := L_caPlace X Y.es[i].name
    have hA := L_caAt X (placeGo Y.es[i].name X.es) Y.es[i].name
    obtain ⟨k, hk⟩ : ∃ k, k = placeGo Y.es[i].name X.es := ⟨_, rfl⟩
    have step : ∀ m, SmallE m → L0 n_spec_caPut [arg (.sl 8 (out.map eE) []), argE m] = some ⟨[.s (.mk .deep (.sl 8 ((putL out m).map eE) []))], []⟩ := fun m hm => L_putL out m hb (by omega) hp hm
    have hsmall : ∀ m, SmallE m → ∀ x ∈ putL out m, SmallE x := fun m hm x hx => by
      rcases putL_mem hx with hx | rfl
      · exact hp x hx
      · exact small_bare hm
    have hlen : ∀ m, (putL out m).length ≤ X.es.length + (i + 1) := fun m => by have := putL_length out m; omega
    rw [← hk] at hP hA
    simp only [specGo, meetOpt]
    rw [← hk]
    cases hat : atB X.es k Y.es[i].name with
    | false =>
      rw [hat] at hA
      simp only [Bool.false_eq_true, if_false]
      have hgo := hK (i + 1, putL out Y.es[i])
      have hst := step _ hsm
      have hl' := hlen Y.es[i]
      have hb' := hb.put Y.es[i]
      have hs' := hsmall _ hsm
      generalize putL out Y.es[i] = out' at hgo hst hl' hb' hs' ⊢
      simp -implicitDefEqProofs [l1_spec_JoinCatalogues, hlt, hP, hA, hst]
      exact hgo _ ⟨by simp; omega, hl', hb', hs'⟩ (by simp; omega) (by simp [hs])
    | true =>
      rw [hat] at hA
      have hkl : k < X.es.length := by
        apply Nat.lt_of_not_le
        intro h
        simp [atB, List.getElem?_eq_none h] at hat
      have hxs := px _ (List.getElem_mem hkl)
      have hM := L_caMeet X.es[k] Y.es[i]
      rw [List.getElem?_eq_getElem hkl]
      simp only [if_true]
      generalize hx : X.es[k] = x at hM hxs ⊢
      by_cases v1 : Y.es[i].version < x.version
      · simp only [v1, if_true] at hM ⊢
        simp at hM
        have hgo := hK (i + 1, putL out x)
        have hst := step _ hxs
        have hl' := hlen x
        have hb' := hb.put x
        have hs' := hsmall _ hxs
        generalize putL out x = out' at hgo hst hl' hb' hs' ⊢
        simp -implicitDefEqProofs [l1_spec_JoinCatalogues, hlt, hkl, hx, hP, hA, hM, hst]
        exact hgo _ ⟨by simp; omega, hl', hb', hs'⟩ (by simp; omega) (by simp [hs])
      · by_cases v2 : x.version < Y.es[i].version
        · simp only [v1, v2, if_true, if_false] at hM ⊢
          simp at hM
          have hgo := hK (i + 1, putL out Y.es[i])
          have hst := step _ hsm
          have hl' := hlen Y.es[i]
          have hb' := hb.put Y.es[i]
          have hs' := hsmall _ hsm
          generalize putL out Y.es[i] = out' at hgo hst hl' hb' hs' ⊢
          simp -implicitDefEqProofs [l1_spec_JoinCatalogues, hlt, hkl, hx, hP, hA, hM, hst]
          exact hgo _ ⟨by simp; omega, hl', hb', hs'⟩ (by simp; omega) (by simp [hs])
        · cases v3 : sameQ x Y.es[i] with
          | false =>
            simp only [v1, v2, v3, if_false] at hM ⊢
            simp at hM
            simp -implicitDefEqProofs [l1_spec_JoinCatalogues, hlt, hkl, hx, hP, hA, hM, joinFin]
          | true =>
            simp only [v1, v2, v3, if_true, if_false] at hM ⊢
            cases v4 : entryOk (qE (meetE x Y.es[i])) with
            | false =>
              rw [v4] at hM
              simp at hM
              simp -implicitDefEqProofs [l1_spec_JoinCatalogues, hlt, hkl, hx, hP, hA, hM, joinFin]
            | true =>
              rw [v4] at hM
              simp at hM
              simp only [if_true]
              have hgo := hK (i + 1, putL out (meetE x Y.es[i]))
              have hst := step _ (small_meet (e := Y.es[i]) hxs)
              have hl' := hlen (meetE x Y.es[i])
              have hb' := hb.put (meetE x Y.es[i])
              have hs' := hsmall _ (small_meet (e := Y.es[i]) hxs)
              generalize putL out (meetE x Y.es[i]) = out' at hgo hst hl' hb' hs' ⊢
              generalize meetE x Y.es[i] = m at hM hst
              simp -implicitDefEqProofs [l1_spec_JoinCatalogues, hlt, hkl, hx, hP, hA, hM, hst]
              exact hgo _ ⟨by simp; omega, hl', hb', hs'⟩ (by simp; omega) (by simp [hs])
  · rw [drop_end hlt]
    have hG := L_caGood' out (by omega)
    cases c3 : catOk (out.map qE) with
    | false =>
      rw [c3] at hG
      simp -implicitDefEqProofs [l1_spec_JoinCatalogues, hlt, hG, specGo, joinFin, c3]
    | true =>
      rw [c3] at hG
      simp -implicitDefEqProofs [l1_spec_JoinCatalogues, hlt, hG, specGo, joinFin, c3]
end Go.Proofs.YtecmolmlojehgaaGreat.T
namespace Go.Proofs.YtecmolmlojehgaaGreat.T
open Go
set_option maxHeartbeats 8000000
attribute [-simp] List.getElem_cons_drop List.map_drop List.map_take List.map_map eqCells
abbrev SortedL (l : List EntryV) : Prop := l.Pairwise (fun a b => lessN a.name b.name = true)
theorem L_entryPlace' (l : List EntryV) (n : ByteArray) (hl : l.length ≤ 1000000) (hs : SortedL l) : L0 n_impl_entryPlace [arg (.sl 8 (l.map eE) []), argV (.string n)] = some ⟨[.s (.mk .imm (.val (int (placeGo n l : Nat)))), .s (.mk .imm (.val (.bool (atB l (placeGo n l) n))))], []⟩ :=
  L_entryPlace ⟨l, [], by simp; omega⟩ n hl (place_mono n hs)
theorem L_Insert (R : List (List C)) (x : List C) (k n : Nat) (hn : n = R.length) (hk : k ≤ n) (hl : n ≤ 1000000) :
    L0 n_slices_Insert_SimplEntryimplEntry [own (.sl 8 R []) n, argI k, own (.sl 8 [x] []) 1] = some ⟨[.s (.mk .deep (.sl 8 (R.take k ++ [x] ++ R.drop k) []))], [none, none]⟩ := by
  subst hn
  refine L_hand rfl ?_
  rw [show (prog handF).hand n_slices_Insert_SimplEntryimplEntry [own (.sl 8 R []) R.length, argI k, own (.sl 8 [x] []) 1] = handInsert 8 [own (.sl 8 R []) R.length, argI k, own (.sl 8 [x] []) 1] from rfl]
  simp [handInsert, hk, hl]
def implGo : List EntryV → List EntryV → Option (List EntryV)
  | out, [] => some out
  | out, e :: r =>
    if atB out (placeGo e.name out) e.name = true then
      match out[placeGo e.name out]? with
      | some x => if x.version < e.version then implGo (out.set (placeGo e.name out) e) r
        else if e.version = x.version then (if sameQ e x = true then implGo (out.set (placeGo e.name out) (meetE x e)) r else none)
        else implGo out r
      | none => none
    else implGo (out.take (placeGo e.name out) ++ [e] ++ out.drop (placeGo e.name out)) r
theorem placeGo_ge (n : ByteArray) : ∀ (l : List EntryV) (h : placeGo n l < l.length), lessN (l[placeGo n l]).name n = false
  | [], h => by simp at h
  | e :: r, h => by
    cases c : lessN e.name n with
    | false =>
      have hpl : placeGo n (e :: r) = 0 := by rw [placeGo, if_neg (by rw [c]; simp)]
      simp only [hpl, List.getElem_cons_zero, c]
    | true =>
      have hpl : placeGo n (e :: r) = placeGo n r + 1 := by rw [placeGo, if_pos c]
      simp only [hpl, List.getElem_cons_succ]
      rw [hpl] at h
      exact placeGo_ge n r (by simpa using h)
theorem bytes_tri : ∀ (a b : List UInt8), Op.bytesLess a b = false → a ≠ b → Op.bytesLess b a = true
  | [], [], _, h => absurd rfl h
  | [], y :: b, h, _ => by simp [Op.bytesLess] at h
  | x :: a, [], _, _ => by simp [Op.bytesLess]
  | x :: a, y :: b, h, hn => by
    simp only [Op.bytesLess, Bool.or_eq_false_iff, decide_eq_false_iff_not, Bool.and_eq_false_iff] at h
    simp only [Op.bytesLess, Bool.or_eq_true, decide_eq_true_eq, Bool.and_eq_true, beq_iff_eq]
    by_cases e : x = y
    · subst e
      refine Or.inr ⟨rfl, bytes_tri a b ?_ (fun h => hn (by rw [h]))⟩
      simpa using h.2
    · refine Or.inl ?_
      have := h.1
      simp only [UInt8.lt_iff_toNat_lt] at this ⊢
      have : x.toNat ≠ y.toNat := fun h => e (UInt8.toNat_inj.1 h)
      omega
theorem sorted_ins {l : List EntryV} (hs : SortedL l) (e : EntryV) (hat : atB l (placeGo e.name l) e.name = false) : SortedL (l.take (placeGo e.name l) ++ [e] ++ l.drop (placeGo e.name l)) := by
  have hpm := place_mono e.name hs
  obtain ⟨k, hk⟩ : ∃ k, k = placeGo e.name l := ⟨_, rfl⟩
  have hge := placeGo_ge e.name l
  rw [← hk] at hat ⊢
  have h1 : ∀ x ∈ l.take k, lessN x.name e.name = true := by
    intro x hx
    obtain ⟨i, hi, rfl⟩ := List.getElem_of_mem hx
    simp only [List.length_take] at hi
    rw [List.getElem_take, hpm i (by omega)]
    simp; omega
  have h2 : ∀ x ∈ l.drop k, lessN e.name x.name = true := by
    intro x hx
    by_cases hkl : k < l.length
    · have h0 : lessN e.name l[k].name = true := by
        have h3 := hge (by omega)
        simp only [← hk] at h3
        refine bytes_tri _ _ h3 ?_
        intro h
        simp [atB, List.getElem?_eq_getElem hkl] at hat
        have h2 : eqN l[k].name e.name = true := by simp only [eqN, beq_iff_eq]; exact h
        rw [h2] at hat; cases hat
      obtain ⟨i, hi, rfl⟩ := List.getElem_of_mem hx
      simp only [List.length_drop] at hi
      rw [List.getElem_drop]
      cases i with
      | zero => exact h0
      | succ i =>
        have := List.pairwise_iff_getElem.1 hs k (k + (i + 1)) hkl (by omega) (by omega)
        exact lessN_trans h0 this
    · rw [List.drop_eq_nil_of_le (by omega)] at hx; simp at hx
  have h3 : SortedL (l.take k) := hs.sublist (List.take_sublist _ _)
  have h4 : SortedL (l.drop k) := hs.sublist (List.drop_sublist _ _)
  rw [List.append_assoc]
  refine List.pairwise_append.2 ⟨h3, ?_, ?_⟩
  · simp only [List.singleton_append, List.pairwise_cons]
    exact ⟨h2, h4⟩
  · intro a ha b hb
    simp only [List.singleton_append, List.mem_cons] at hb
    rcases hb with rfl | hb
    · exact h1 a ha
    · exact lessN_trans (h1 a ha) (h2 b hb)
abbrev nmL (x : EntryV) : List UInt8 := x.name.toList
theorem sorted_names {l m : List EntryV} (h : l.map nmL = m.map nmL) (hs : SortedL l) : SortedL m := by
  have e : ∀ l : List EntryV, SortedL l ↔ (l.map nmL).Pairwise (fun a b => Op.bytesLess a b = true) := fun l => by rw [List.pairwise_map]; rfl
  rw [e] at hs ⊢
  rw [← h]; exact hs
theorem names_set {l : List EntryV} {k : Nat} {x e : EntryV} (h : l[k]? = some x) (hn : nmL e = nmL x) : (l.set k e).map nmL = l.map nmL := by
  rw [List.map_set, hn]
  apply List.ext_getElem?
  intro i
  by_cases hi : i = k
  · subst hi
    have : i < l.length := by
      apply Nat.lt_of_not_le; intro h2; rw [List.getElem?_eq_none h2] at h; simp at h
    rw [List.getElem?_set_self (by simpa using this), List.getElem?_map, h]; rfl
  · rw [List.getElem?_set_ne (Ne.symm hi)]
theorem L_implJoin (X Y : Entries) (hxy : X.es.length + Y.es.length ≤ 1000000) (px : ∀ e ∈ X.es, SmallE e) (py : ∀ e ∈ Y.es, SmallE e) (sx : catOk (qL X) = true → SortedL X.es) (bx : catOk (qL X) = true → ∀ e ∈ X.es, boxOk (pB e.box) = true) (by' : catOk (qL Y) = true → ∀ e ∈ Y.es, boxOk (pB e.box) = true) :
    L0 n_impl_JoinCatalogues [arg (cE X), arg (cE Y)] = some (resJ (if catOk (qL X) = true ∧ catOk (qL Y) = true then joinFin (implGo (X.es.map bareE) (Y.es.map bareE)) else (false, []))) := by
  refine L_body (b := b_impl_JoinCatalogues) rfl rfl Y.es.length ?_
  intro fuel hfuel
  cases c1 : catOk (qL X) with
  | false => simp -implicitDefEqProofs [b_impl_JoinCatalogues, L_isCatalogue, c1]
  | true =>
  cases c2 : catOk (qL Y) with
  | false => simp -implicitDefEqProofs [b_impl_JoinCatalogues, L_isCatalogue, c1, c2]
  | true =>
  have hO := L_impl_copyEntries X (by omega) px
  have hO : L0 n_impl_copyEntries [arg (cE X)] = some ⟨[.s (.mk .deep (.sl 8 ((X.es.map bareE).map eE) []))], []⟩ := hO
  have hnl : (X.es.map bareE).length ≤ X.es.length := by simp
  have hss : SortedL (X.es.map bareE) := sorted_names (by rw [List.map_map]; rfl) (sx c1)
  have hbb : ∀ x ∈ X.es.map bareE, boxOk (pB x.box) = true := by
    intro x hx
    simp only [List.mem_map] at hx
    obtain ⟨y, hy, rfl⟩ := hx
    exact bx c1 y hy
  have by2 := by' c2
  generalize X.es.map bareE = out0 at hO hnl hss hbb ⊢
  simp -implicitDefEqProofs [b_impl_JoinCatalogues, L_isCatalogue, c1, c2, hO]
  refine (K_it (fun s : Nat × List EntryV => [(23, vI s.1), (6, .sv (.ref 65280 [] 0 s.2.length))]) (fun s => [(65280, .arr true false (.sl 8 (s.2.map eE) []))]) (fun s => some (resJ (joinFin (implGo s.2 ((Y.es.drop s.1).map bareE))))) (fun s => Y.es.length - s.1) (fun s => s.1 ≤ Y.es.length ∧ s.2.length ≤ X.es.length + s.1 ∧ SortedL s.2 ∧ ∀ x ∈ s.2, boxOk (pB x.box) = true) (0, out0) ⟨by simp, by simpa using hnl, hss, hbb⟩ (by simp; omega) (by simp) ?_).trans (by simp)
  rintro ⟨i, out⟩ ⟨hi, hl, hb, hp⟩ K hK
  simp only at hi hl hb hp
  by_cases hlt : i < Y.es.length
  · rw [drop_cons hlt, List.map_cons]
    have hs := wrap_succ (show i < 9223372036854775807 by omega)
    have hsm := py _ (List.getElem_mem hlt)
    have hbx := by2 _ (List.getElem_mem hlt)
    have hC := L_copyEntry _ hsm
    replace hbx : boxOk (pB (bareE Y.es[i]).box) = true := hbx
    have hs1 : (bareE Y.es[i]).system.sp = [] := rfl
    have hs2 : (bareE Y.es[i]).box.low.sp = [] := rfl
    have hs3 : (bareE Y.es[i]).box.high.sp = [] := rfl
    generalize bareE Y.es[i] = e at hC hbx hs1 hs2 hs3 ⊢
    have hE := L_entryPlace' out e.name (by omega) hb
    obtain ⟨k, hk⟩ : ∃ k, k = placeGo e.name out := ⟨_, rfl⟩
    have hkl0 : k ≤ out.length := by rw [hk]; exact placeGo_le _ _
    rw [← hk] at hE
    simp only [implGo]
    rw [← hk]
    have hx : eE e = [.val (.string e.name), .sl 1 (e.system.es.map eP) [], .val (int e.box.k), .fl 1 (e.box.low.es.map eI) [], .fl 1 (e.box.high.es.map eI) [], .val (int e.least), .val (int e.most), .val (int e.version)] := by simp [eE, cS, cI, hs1, hs2, hs3]
    cases hat : atB out k e.name with
    | false =>
      have hins := sorted_ins hb e (by rw [← hk]; exact hat)
      rw [← hk] at hins
      rw [hat] at hE
      simp only [Bool.false_eq_true, if_false]
      have hgo := hK (i + 1, out.take k ++ [e] ++ out.drop k)
      have hI := L_Insert (out.map eE) (eE e) k out.length (by simp) hkl0 (by omega)
      have hl' : (out.take k ++ [e] ++ out.drop k).length = out.length + 1 := by simp; omega
      have hm' : (out.take k ++ [e] ++ out.drop k).map eE = (out.map eE).take k ++ [eE e] ++ (out.map eE).drop k := by simp [List.map_take, List.map_drop]
      have hp' : ∀ x ∈ out.take k ++ [e] ++ out.drop k, boxOk (pB x.box) = true := by
        intro x hx
        simp only [List.mem_append, List.mem_singleton] at hx
        rcases hx with (hx | rfl) | hx
        · exact hp x (List.mem_of_mem_take hx)
        · exact hbx
        · exact hp x (List.mem_of_mem_drop hx)
      rw [← hm', hx] at hI
      generalize out.take k ++ [e] ++ out.drop k = out' at hgo hI hl' hp' hins ⊢
      simp -implicitDefEqProofs [l1_impl_JoinCatalogues, hlt, hC, hE, hI, hs1, hs2, hs3]
      exact hgo _ ⟨by simp; omega, by simp; omega, hins, hp'⟩ (by simp; omega) (by simp [hs])
    | true =>
      rw [hat] at hE
      have hkl : k < out.length := by
        apply Nat.lt_of_not_le
        intro h
        simp [atB, List.getElem?_eq_none h] at hat
      have hxb := hp _ (List.getElem_mem hkl)
      have hnm : nmL e = nmL out[k] := by
        simp [atB, List.getElem?_eq_getElem hkl, eqN] at hat
        exact hat.symm
      have hS : L0 n_impl_sameSystem [.imm (.s (.pm (eE e) 0)), .imm (.s (.pm (eE out[k]) 0))] = some (resB (sameQ e out[k])) := L_sameSystem (hand := handF) e out[k] hbx hxb
      rw [List.getElem?_eq_getElem hkl]
      simp only [if_true]
      have hset : ∀ y : EntryV, (out.set k y).map eE = (out.map eE).set k (eE y) := fun y => List.map_set
      have hge : (out.map eE)[k]'(by simpa using hkl) = eE out[k] := by simp
      have hsb : ∀ y : EntryV, boxOk (pB y.box) = true → ∀ x ∈ out.set k y, boxOk (pB x.box) = true := by
        intro y hy x hx
        rcases List.mem_or_eq_of_mem_set hx with hx | rfl
        · exact hp x hx
        · exact hy
      have hss : ∀ y : EntryV, nmL y = nmL out[k] → SortedL (out.set k y) := fun y hy => sorted_names (names_set (List.getElem?_eq_getElem hkl) hy).symm hb
      rw [hx] at hS
      have hgl : (out.map eE).length = out.length := by simp
      generalize out[k] = x at hS hxb hnm hge hss ⊢
      by_cases v1 : x.version < e.version
      · simp only [v1, if_true]
        have hgo := hK (i + 1, out.set k e)
        have hsb' := hsb e hbx
        have hss' := hss e hnm
        have hm' := hset e
        rw [hx] at hm'
        have hl' : (out.set k e).length = out.length := by simp
        simp -implicitDefEqProofs [l1_impl_JoinCatalogues, hlt, hkl, hC, hE, hs1, hs2, hs3, hge, hgl, v1]
        rw [← hm', ← hl']
        generalize out.set k e = out' at hgo hsb' hss' hl' ⊢
        exact hgo _ ⟨by simp; omega, by simp; omega, hss', hsb'⟩ (by simp; omega) (by simp [hs])
      · by_cases v2 : e.version = x.version
        · cases v3 : sameQ e x with
          | false =>
            rw [v3, v2] at hS
            simp -implicitDefEqProofs [l1_impl_JoinCatalogues, hlt, hkl, hC, hE, hs1, hs2, hs3, hge, hgl, v1, v2, hS, v3, joinFin]
          | true =>
            rw [v3, v2] at hS
            have hmax : max x.least e.least = if x.least < e.least then e.least else x.least := by split <;> omega
            have hmin : min x.most e.most = if e.most < x.most then e.most else x.most := by split <;> omega
            have hgo := hK (i + 1, out.set k (meetE x e))
            have hsb' := hsb (meetE x e) hxb
            have hss' := hss (meetE x e) rfl
            have hm' := hset (meetE x e)
            have hme : eE (meetE x e) = [C.val (Value.string x.name), cS x.system, C.val (int x.box.k), cI x.box.low, cI x.box.high, C.val (Value.int IntKind.i64 (if x.least < e.least then e.least else x.least)), C.val (Value.int IntKind.i64 (if e.most < x.most then e.most else x.most)), C.val (int x.version)] := by rw [← hmax, ← hmin]; rfl
            rw [hme] at hm'
            have hl' : (out.set k (meetE x e)).length = out.length := by simp
            simp -implicitDefEqProofs [l1_impl_JoinCatalogues, hlt, hkl, hC, hE, hs1, hs2, hs3, hge, hgl, v1, v2, hS]
            rw [← hm', ← hl']
            generalize out.set k (meetE x e) = out' at hgo hsb' hss' hl' ⊢
            exact hgo _ ⟨by simp; omega, by simp; omega, hss', hsb'⟩ (by simp; omega) (by simp [hs])
        · simp only [v1, v2, if_false]
          have hgo := hK (i + 1, out)
          simp -implicitDefEqProofs [l1_impl_JoinCatalogues, hlt, hkl, hC, hE, hs1, hs2, hs3, hge, hgl, v1, v2]
          exact hgo _ ⟨by simp; omega, by simp; omega, hb, hp⟩ (by simp; omega) (by simp [hs])
  · rw [drop_end hlt]
    have hR := L_catalogueResult ⟨out, [], by simp; omega⟩ rfl
    have hR : L0 n_impl_catalogueResult [own (.sl 8 (out.map eE) []) out.length] = some (if catOk (out.map qE) then ⟨[.s (.mk .deep (.sl 8 (out.map eE) [])), .s (.mk .imm (.val (.bool true)))], [none]⟩ else ⟨[.s (.mk .deep (.sl 8 [] [])), .s (.mk .imm (.val (.bool false)))], [some (.arr true false (.sl 8 (out.map eE) []))]⟩) := hR
    cases c3 : catOk (out.map qE) with
    | false =>
      rw [c3] at hR
      simp at hR
      simp -implicitDefEqProofs [l1_impl_JoinCatalogues, hlt, hR, implGo, joinFin, c3]
    | true =>
      rw [c3] at hR
      simp at hR
      simp -implicitDefEqProofs [l1_impl_JoinCatalogues, hlt, hR, implGo, joinFin, c3]
end Go.Proofs.YtecmolmlojehgaaGreat.T
