/- Rows that are copied with nothing behind them. Places of names. Tightened entries: the reference's side. Tightened entries: the program's side. -/
import Derived.Test.YtkiklfcfdopplaaMJ
import Derived.Test.YtkiklfcfdopplaaMI
namespace Go.Proofs.Ytkiklfcfdopplaa.T
open Go
set_option maxHeartbeats 2000000
attribute [-simp] List.getElem_cons_drop List.map_drop List.map_take
def cmpN (a b : ByteArray) : Int := if lessN a b then -1 else if a.toList == b.toList then 0 else 1
/-- What is proved by hand. -/
def handF : Call := fun f args =>
  match args with
  | [.imm (.s (.c (.fl sz es _)))] => if (f = n_slices_Clone_Sintint ∧ sz = 1 ∨ f = n_slices_Clone_SimplTermimplTerm ∧ sz = 4) ∧ es.length ≤ 1000000 then some ⟨[.s (.mk .deep (.fl sz es []))], []⟩ else none
  | [.imm (.s (.c (.val (.string a)))), .imm (.s (.c (.val (.string b))))] => if f = n_bytealg_abigen_runtime_cmpstring then some (resI (cmpN a b)) else none
  | _ => none
noncomputable abbrev L0 : Call := L (prog handF)
def bareRow {α : Type} (a : Row α) : Row α := ⟨a.es, [], by have := a.ok; simp; omega⟩
def bareS (s : Sys) : Sys := ⟨s.es.map bareRow, [], by have := s.ok; simp; omega⟩
def bareB (b : BoxV) : BoxV := ⟨b.k, bareRow b.low, bareRow b.high⟩
def bareE (e : EntryV) : EntryV := ⟨e.name, e.nok, bareS e.system, bareB e.box, e.least, e.most, e.version⟩
def bareL (l : Entries) : Entries := ⟨l.es.map bareE, [], by have := l.ok; simp; omega⟩
theorem bareRow_es {α : Type} (a : Row α) : (bareRow a).es = a.es := rfl
theorem bareRow_sp {α : Type} (a : Row α) : (bareRow a).sp = [] := rfl
theorem bareS_es (s : Sys) : (bareS s).es = s.es.map bareRow := rfl
theorem bareS_sp (s : Sys) : (bareS s).sp = [] := rfl
theorem bareL_es (l : Entries) : (bareL l).es = l.es.map bareE := rfl
theorem bareL_sp (l : Entries) : (bareL l).sp = [] := rfl
theorem L_CloneI (a : Ints) (h : a.es.length ≤ 1000000) : L0 n_slices_Clone_Sintint [arg (cI a)] = some ⟨[.s (.mk .deep (cI (bareRow a)))], []⟩ := by
  refine L_hand rfl ?_
  simp [prog, handF, h, bareRow]
theorem L_CloneP (a : Poly) (h : a.es.length ≤ 1000000) : L0 n_slices_Clone_SimplTermimplTerm [arg (cP a)] = some ⟨[.s (.mk .deep (cP (bareRow a)))], []⟩ := by
  refine L_hand rfl ?_
  simp [prog, handF, h, bareRow]
theorem L_cmpstring (a b : ByteArray) : L0 n_bytealg_abigen_runtime_cmpstring [argV (.string a), argV (.string b)] = some (resI (cmpN a b)) := by
  refine L_hand rfl ?_
  simp [prog, handF]
theorem L_l1Own (a : Ints) (h : a.es.length ≤ 1000000) : L0 n_spec_l1Own [arg (cI a)] = some ⟨[.s (.mk .deep (cI (bareRow a)))], []⟩ := by
  refine L_body (b := b_spec_l1Own) rfl rfl 0 ?_
  intro fuel _
  have hm : a.es.length * 8 ≤ 140737488355328 := by omega
  have hm2 : a.es.length ≤ 9223372036854775807 := by omega
  have hT : (a.es.map eI).take a.es.length = a.es.map eI := List.take_of_length_le (by simp)
  have hD : (a.es.map eI).drop a.es.length = [] := List.drop_eq_nil_of_le (by simp)
  simp -implicitDefEqProofs [b_spec_l1Own, hm, hm2, bareRow_es, bareRow_sp, hT, hD]
theorem L_spec_caSystem (a : Sys) (h : a.es.length ≤ 1000000) (hp : ∀ p ∈ a.es, p.es.length ≤ 1000000) : L0 n_spec_caSystem [arg (cS a)] = some ⟨[.s (.mk .deep (cS (bareS a)))], []⟩ := by
  refine L_body (b := b_spec_caSystem) rfl rfl a.es.length ?_
  intro fuel hfuel
  obtain ⟨R, hR⟩ : ∃ R : Nat → List (List C), R = fun i => (a.es.take i).map (fun x => eP (bareRow x)) := ⟨_, rfl⟩
  have hR0 : R 0 = [] := by rw [hR]; rfl
  have hRs : ∀ i (h : i < a.es.length), R i ++ [eP (bareRow a.es[i])] = R (i + 1) := by
    intro i h
    rw [hR]
    simp only [List.take_succ_eq_append_getElem h, List.map_append, List.map_cons, List.map_nil]
  have hRl : ∀ i, i ≤ a.es.length → (R i).length = i := by intro i h; rw [hR]; simp; omega
  have hRn : R a.es.length = a.es.map (fun x => eP (bareRow x)) := by rw [hR]; simp
  have hT : (R a.es.length).take a.es.length = R a.es.length := List.take_of_length_le (by rw [hRl _ (Nat.le_refl _)]; exact Nat.le_refl _)
  have hD : (R a.es.length).drop a.es.length = [] := List.drop_eq_nil_of_le (by rw [hRl _ (Nat.le_refl _)]; exact Nat.le_refl _)
  have hres : cS (bareS a) = .sl 1 (R a.es.length) [] := by rw [hRn]; simp [bareS_es, bareS_sp, Function.comp_def]
  rw [hres]
  clear hR hRn hres
  simp -implicitDefEqProofs [b_spec_caSystem]
  rw [K_start (fr' := ⟨asl [(3, .sv (.ref 1000000 [] 0 0)), (6, .sv (.c (cS a))), (7, .sv (.v (int a.es.length))), (8, .sv (.v (int (0 : Nat))))], asl [(1000000, .arr true false (.sl 1 (R 0) []))], []⟩) (by simp [hR0])]
  refine K_for2 (fun i => ⟨asl [(3, .sv (.ref 1000000 [] 0 i)), (6, .sv (.c (cS a))), (7, .sv (.v (int a.es.length))), (8, .sv (.v (int i)))], asl [(1000000, .arr true false (.sl 1 (R i) []))], []⟩) (fun i => ⟨asl [(3, .sv (.ref 65088 [] 0 i)), (6, .sv (.c (cS a))), (7, .sv (.v (int a.es.length))), (8, .sv (.v (int i)))], asl [(65088, .arr true false (.sl 1 (R i) []))], []⟩) 0 a.es.length (by omega) (by omega) (by intro i _ _; simp) ?_ ?_
  · intro i _ hi K
    have hl := hRl i (by omega)
    have hm : (i + 1) * 24 ≤ 140737488355328 := by omega
    have hm2 : i + 1 ≤ 9223372036854775807 := by omega
    have hT2 : (R i).take i = R i := List.take_of_length_le (by omega)
    have hs := hRs i hi
    have hq := hp _ (List.getElem_mem hi)
    have hm3 : a.es[i].es.length * 32 ≤ 140737488355328 := by omega
    have hm4 : a.es[i].es.length ≤ 9223372036854775807 := by omega
    have hT3 : (a.es[i].es.map eT).take a.es[i].es.length = a.es[i].es.map eT := List.take_of_length_le (by simp)
    have hD3 : (a.es[i].es.map eT).drop a.es[i].es.length = [] := List.drop_eq_nil_of_le (by simp)
    have hs : R i ++ [[C.fl 4 (a.es[i].es.map eT) []]] = R (i + 1) := hs
    simp -implicitDefEqProofs [l1_spec_caSystem, hi, hl, hm, hm2, hT2, hm3, hm4, hT3, hD3, hs, wrap_suc (show i < 9223372036854775807 by omega)]
  · intro _
    have hl := hRl a.es.length (Nat.le_refl _)
    simp -implicitDefEqProofs [l1_spec_caSystem, hl, hT, hD]
theorem L_impl_copySystem (a : Sys) (h : a.es.length ≤ 1000000) (hp : ∀ p ∈ a.es, p.es.length ≤ 1000000) : L0 n_impl_copySystem [arg (cS a)] = some ⟨[.s (.mk .deep (cS (bareS a)))], []⟩ := by
  refine L_body (b := b_impl_copySystem) rfl rfl a.es.length ?_
  intro fuel hfuel
  obtain ⟨R, hR⟩ : ∃ R : Nat → List (List C), R = fun i => (a.es.take i).map (fun x => eP (bareRow x)) := ⟨_, rfl⟩
  have hR0 : R 0 = [] := by rw [hR]; rfl
  have hRs : ∀ i (h : i < a.es.length), R i ++ [eP (bareRow a.es[i])] = R (i + 1) := by
    intro i h
    rw [hR]
    simp only [List.take_succ_eq_append_getElem h, List.map_append, List.map_cons, List.map_nil]
  have hRl : ∀ i, i ≤ a.es.length → (R i).length = i := by intro i h; rw [hR]; simp; omega
  have hRn : R a.es.length = a.es.map (fun x => eP (bareRow x)) := by rw [hR]; simp
  have hT : (R a.es.length).take a.es.length = R a.es.length := List.take_of_length_le (by rw [hRl _ (Nat.le_refl _)]; exact Nat.le_refl _)
  have hD : (R a.es.length).drop a.es.length = [] := List.drop_eq_nil_of_le (by rw [hRl _ (Nat.le_refl _)]; exact Nat.le_refl _)
  have hres : cS (bareS a) = .sl 1 (R a.es.length) [] := by rw [hRn]; simp [bareS_es, bareS_sp, Function.comp_def]
  rw [hres]
  clear hR hRn hres
  simp -implicitDefEqProofs [b_impl_copySystem]
  rw [K_start (fr' := ⟨asl [(3, .sv (.ref 1000000 [] 0 0)), (6, .sv (.c (cS a))), (7, .sv (.v (int a.es.length))), (8, .sv (.v (int (0 : Nat))))], asl [(1000000, .arr true false (.sl 1 (R 0) []))], []⟩) (by simp [hR0])]
  refine K_for2 (fun i => ⟨asl [(3, .sv (.ref 1000000 [] 0 i)), (6, .sv (.c (cS a))), (7, .sv (.v (int a.es.length))), (8, .sv (.v (int i)))], asl [(1000000, .arr true false (.sl 1 (R i) []))], []⟩) (fun i => ⟨asl [(3, .sv (.ref 65024 [] 0 i)), (6, .sv (.c (cS a))), (7, .sv (.v (int a.es.length))), (8, .sv (.v (int i)))], asl [(65024, .arr true false (.sl 1 (R i) []))], []⟩) 0 a.es.length (by omega) (by omega) (by intro i _ _; simp) ?_ ?_
  · intro i _ hi K
    have hl := hRl i (by omega)
    have hm : (i + 1) * 24 ≤ 140737488355328 := by omega
    have hm2 : i + 1 ≤ 9223372036854775807 := by omega
    have hT2 : (R i).take i = R i := List.take_of_length_le (by omega)
    have hs := hRs i hi
    have hq := hp _ (List.getElem_mem hi)
    have hC := L_CloneP a.es[i] hq
    have hT3 : (a.es[i].es.map eT).take a.es[i].es.length = a.es[i].es.map eT := List.take_of_length_le (by simp)
    have hD3 : (a.es[i].es.map eT).drop a.es[i].es.length = [] := List.drop_eq_nil_of_le (by simp)
    have hs : R i ++ [[C.fl 4 (a.es[i].es.map eT) []]] = R (i + 1) := hs
    simp -implicitDefEqProofs [l1_impl_copySystem, hi, hl, hm, hm2, hT2, hC, bareRow_es, bareRow_sp, hT3, hD3, hs, wrap_suc (show i < 9223372036854775807 by omega)]
  · intro _
    have hl := hRl a.es.length (Nat.le_refl _)
    simp -implicitDefEqProofs [l1_impl_copySystem, hl, hT, hD]
theorem L_caOwn (e : EntryV) (h : SmallE e) : L0 n_spec_caOwn [argE e] = some ⟨[rE (bareE e)], []⟩ := by
  obtain ⟨⟨h1, h2⟩, h3, h4⟩ := h
  refine L_body (b := b_spec_caOwn) rfl rfl 0 ?_
  intro fuel _
  have hS := L_spec_caSystem e.system h1 h2
  have hl := L_l1Own e.box.low h3
  have hh := L_l1Own e.box.high h4
  have t1 : ((bareS e.system).es.map eP).take (bareS e.system).es.length = (bareS e.system).es.map eP := List.take_of_length_le (by simp)
  have t2 : ((bareS e.system).es.map eP).drop (bareS e.system).es.length = [] := List.drop_eq_nil_of_le (by simp)
  have t3 : (e.box.low.es.map eI).take e.box.low.es.length = e.box.low.es.map eI := List.take_of_length_le (by simp)
  have t4 : (e.box.low.es.map eI).drop e.box.low.es.length = [] := List.drop_eq_nil_of_le (by simp)
  have t5 : (e.box.high.es.map eI).take e.box.high.es.length = e.box.high.es.map eI := List.take_of_length_le (by simp)
  have t6 : (e.box.high.es.map eI).drop e.box.high.es.length = [] := List.drop_eq_nil_of_le (by simp)
  simp -implicitDefEqProofs [b_spec_caOwn, hS, hl, hh, bareS_sp, bareRow_es, bareRow_sp, bareE, bareB, t1, t2, t3, t4, t5, t6]
abbrev Boxes := Row BoxV
abbrev cBs (a : Boxes) : C := .sl 3 (a.es.map eB) (a.sp.map eB)
def bareBs (a : Boxes) : Boxes := ⟨a.es.map bareB, [], by have := a.ok; simp; omega⟩
theorem bareBs_es (a : Boxes) : (bareBs a).es = a.es.map bareB := rfl
theorem bareBs_sp (a : Boxes) : (bareBs a).sp = [] := rfl
theorem L_impl_copyBoxes (a : Boxes) (h : a.es.length ≤ 1000000) (hp : ∀ b ∈ a.es, b.low.es.length ≤ 1000000 ∧ b.high.es.length ≤ 1000000) : L0 n_impl_copyBoxes [arg (cBs a)] = some ⟨[.s (.mk .deep (cBs (bareBs a)))], []⟩ := by
  refine L_body (b := b_impl_copyBoxes) rfl rfl a.es.length ?_
  intro fuel hfuel
  obtain ⟨R, hR⟩ : ∃ R : Nat → List (List C), R = fun i => (a.es.take i).map (fun x => eB (bareB x)) := ⟨_, rfl⟩
  have hR0 : R 0 = [] := by rw [hR]; rfl
  have hRs : ∀ i (h : i < a.es.length), R i ++ [eB (bareB a.es[i])] = R (i + 1) := by
    intro i h
    rw [hR]
    simp only [List.take_succ_eq_append_getElem h, List.map_append, List.map_cons, List.map_nil]
  have hRl : ∀ i, i ≤ a.es.length → (R i).length = i := by intro i h; rw [hR]; simp; omega
  have hRn : R a.es.length = a.es.map (fun x => eB (bareB x)) := by rw [hR]; simp
  have hT : (R a.es.length).take a.es.length = R a.es.length := List.take_of_length_le (by rw [hRl _ (Nat.le_refl _)]; exact Nat.le_refl _)
  have hD : (R a.es.length).drop a.es.length = [] := List.drop_eq_nil_of_le (by rw [hRl _ (Nat.le_refl _)]; exact Nat.le_refl _)
  have hres : cBs (bareBs a) = .sl 3 (R a.es.length) [] := by rw [hRn]; simp [bareBs_es, bareBs_sp, Function.comp_def]
  rw [hres]
  clear hR hRn hres
  simp -implicitDefEqProofs [b_impl_copyBoxes]
  rw [K_start (fr' := ⟨asl [(3, .sv (.ref 1000000 [] 0 0)), (6, .sv (.c (cBs a))), (7, .sv (.v (int a.es.length))), (8, .sv (.v (int (0 : Nat))))], asl [(1000000, .arr true false (.sl 3 (R 0) []))], []⟩) (by simp [hR0])]
  refine K_for2 (fun i => ⟨asl [(3, .sv (.ref 1000000 [] 0 i)), (6, .sv (.c (cBs a))), (7, .sv (.v (int a.es.length))), (8, .sv (.v (int i)))], asl [(1000000, .arr true false (.sl 3 (R i) []))], []⟩) (fun i => ⟨asl [(3, .sv (.ref 65472 [] 0 i)), (6, .sv (.c (cBs a))), (7, .sv (.v (int a.es.length))), (8, .sv (.v (int i)))], asl [(65472, .arr true false (.sl 3 (R i) []))], []⟩) 0 a.es.length (by omega) (by omega) (by intro i _ _; simp) ?_ ?_
  · intro i _ hi K
    have hl := hRl i (by omega)
    have hm : (i + 1) * 56 ≤ 140737488355328 := by omega
    have hm2 : i + 1 ≤ 9223372036854775807 := by omega
    have hT2 : (R i).take i = R i := List.take_of_length_le (by omega)
    have hs := hRs i hi
    obtain ⟨q1, q2⟩ := hp _ (List.getElem_mem hi)
    have hl1 := L_CloneI a.es[i].low q1
    have hh1 := L_CloneI a.es[i].high q2
    have t3 : (a.es[i].low.es.map eI).take a.es[i].low.es.length = a.es[i].low.es.map eI := List.take_of_length_le (by simp)
    have t4 : (a.es[i].low.es.map eI).drop a.es[i].low.es.length = [] := List.drop_eq_nil_of_le (by simp)
    have t5 : (a.es[i].high.es.map eI).take a.es[i].high.es.length = a.es[i].high.es.map eI := List.take_of_length_le (by simp)
    have t6 : (a.es[i].high.es.map eI).drop a.es[i].high.es.length = [] := List.drop_eq_nil_of_le (by simp)
    have hs : R i ++ [[C.val (int a.es[i].k), C.fl 1 (a.es[i].low.es.map eI) [], C.fl 1 (a.es[i].high.es.map eI) []]] = R (i + 1) := hs
    simp -implicitDefEqProofs [l1_impl_copyBoxes, hi, hl, hm, hm2, hT2, hl1, hh1, bareRow_es, bareRow_sp, t3, t4, t5, t6, hs, wrap_suc (show i < 9223372036854775807 by omega)]
  · intro _
    have hl := hRl a.es.length (Nat.le_refl _)
    simp -implicitDefEqProofs [l1_impl_copyBoxes, hl, hT, hD]
theorem L_copyBox1 (b : BoxV) (h1 : b.low.es.length ≤ 1000000) (h2 : b.high.es.length ≤ 1000000) : L0 n_impl_copyBoxes [arg (.sl 3 [[.val (int b.k), .fl 1 (b.low.es.map eI) (b.low.sp.map eI), .fl 1 (b.high.es.map eI) (b.high.sp.map eI)]] [])] = some ⟨[.s (.mk .deep (.sl 3 [[.val (int b.k), .fl 1 (b.low.es.map eI) [], .fl 1 (b.high.es.map eI) []]] []))], []⟩ := by
  have h := L_impl_copyBoxes ⟨[b], [], by simp⟩ (by simp) (fun b' hb => by simp at hb; subst hb; exact ⟨h1, h2⟩)
  exact h
theorem L_copyEntry (e : EntryV) (h : SmallE e) : L0 n_impl_copyEntry [argPE e 0] = some ⟨[rE (bareE e)], []⟩ := by
  obtain ⟨⟨h1, h2⟩, h3, h4⟩ := h
  refine L_body (b := b_impl_copyEntry) rfl rfl 0 ?_
  intro fuel _
  have hS := L_impl_copySystem e.system h1 h2
  have hB := L_copyBox1 e.box h3 h4
  have t1 : ((bareS e.system).es.map eP).take (bareS e.system).es.length = (bareS e.system).es.map eP := List.take_of_length_le (by simp)
  have t2 : ((bareS e.system).es.map eP).drop (bareS e.system).es.length = [] := List.drop_eq_nil_of_le (by simp)
  have t3 : (e.box.low.es.map eI).take e.box.low.es.length = e.box.low.es.map eI := List.take_of_length_le (by simp)
  have t4 : (e.box.low.es.map eI).drop e.box.low.es.length = [] := List.drop_eq_nil_of_le (by simp)
  have t5 : (e.box.high.es.map eI).take e.box.high.es.length = e.box.high.es.map eI := List.take_of_length_le (by simp)
  have t6 : (e.box.high.es.map eI).drop e.box.high.es.length = [] := List.drop_eq_nil_of_le (by simp)
  simp -implicitDefEqProofs [b_impl_copyEntry, hS, hB, bareS_sp, bareRow_es, bareRow_sp, bareE, bareB, t1, t2, t3, t4, t5, t6]
theorem L_spec_caOwnAll (a : Entries) (h : a.es.length ≤ 1000000) (hp : ∀ e ∈ a.es, SmallE e) : L0 n_spec_caOwnAll [arg (cE a)] = some ⟨[.s (.mk .deep (cE (bareL a)))], []⟩ := by
  refine L_body (b := b_spec_caOwnAll) rfl rfl a.es.length ?_
  intro fuel hfuel
  obtain ⟨R, hR⟩ : ∃ R : Nat → List (List C), R = fun i => (a.es.take i).map (fun x => eE (bareE x)) := ⟨_, rfl⟩
  have hR0 : R 0 = [] := by rw [hR]; rfl
  have hRs : ∀ i (h : i < a.es.length), R i ++ [eE (bareE a.es[i])] = R (i + 1) := by
    intro i h
    rw [hR]
    simp only [List.take_succ_eq_append_getElem h, List.map_append, List.map_cons, List.map_nil]
  have hRl : ∀ i, i ≤ a.es.length → (R i).length = i := by intro i h; rw [hR]; simp; omega
  have hRn : R a.es.length = a.es.map (fun x => eE (bareE x)) := by rw [hR]; simp
  have hT : (R a.es.length).take a.es.length = R a.es.length := List.take_of_length_le (by rw [hRl _ (Nat.le_refl _)]; exact Nat.le_refl _)
  have hD : (R a.es.length).drop a.es.length = [] := List.drop_eq_nil_of_le (by rw [hRl _ (Nat.le_refl _)]; exact Nat.le_refl _)
  have hres : cE (bareL a) = .sl 8 (R a.es.length) [] := by rw [hRn]; simp [bareL_es, bareL_sp, Function.comp_def]
  rw [hres]
  clear hR hRn hres
  simp -implicitDefEqProofs [b_spec_caOwnAll]
  rw [K_start (fr' := ⟨asl [(3, .sv (.ref 1000000 [] 0 0)), (6, .sv (.c (cE a))), (7, .sv (.v (int a.es.length))), (8, .sv (.v (int (0 : Nat))))], asl [(1000000, .arr true false (.sl 8 (R 0) []))], []⟩) (by simp [hR0])]
  refine K_for2 (fun i => ⟨asl [(3, .sv (.ref 1000000 [] 0 i)), (6, .sv (.c (cE a))), (7, .sv (.v (int a.es.length))), (8, .sv (.v (int i)))], asl [(1000000, .arr true false (.sl 8 (R i) []))], []⟩) (fun i => ⟨asl [(3, .sv (.ref 65024 [] 0 i)), (6, .sv (.c (cE a))), (7, .sv (.v (int a.es.length))), (8, .sv (.v (int i)))], asl [(65024, .arr true false (.sl 8 (R i) []))], []⟩) 0 a.es.length (by omega) (by omega) (by intro i _ _; simp) ?_ ?_
  · intro i _ hi K
    have hl := hRl i (by omega)
    have hm : (i + 1) * 120 ≤ 140737488355328 := by omega
    have hm2 : i + 1 ≤ 9223372036854775807 := by omega
    have hT2 : (R i).take i = R i := List.take_of_length_le (by omega)
    have hs := hRs i hi
    have hq := hp _ (List.getElem_mem hi)
    have hC := L_caOwn a.es[i] hq
    have t1 : ((bareS a.es[i].system).es.map eP).take (bareS a.es[i].system).es.length = (bareS a.es[i].system).es.map eP := List.take_of_length_le (by simp)
    have t2 : ((bareS a.es[i].system).es.map eP).drop (bareS a.es[i].system).es.length = [] := List.drop_eq_nil_of_le (by simp)
    have t3 : (a.es[i].box.low.es.map eI).take a.es[i].box.low.es.length = a.es[i].box.low.es.map eI := List.take_of_length_le (by simp)
    have t4 : (a.es[i].box.low.es.map eI).drop a.es[i].box.low.es.length = [] := List.drop_eq_nil_of_le (by simp)
    have t5 : (a.es[i].box.high.es.map eI).take a.es[i].box.high.es.length = a.es[i].box.high.es.map eI := List.take_of_length_le (by simp)
    have t6 : (a.es[i].box.high.es.map eI).drop a.es[i].box.high.es.length = [] := List.drop_eq_nil_of_le (by simp)
    have hs : R i ++ [[C.val (.string a.es[i].name), C.sl 1 ((bareS a.es[i].system).es.map eP) [], C.val (int a.es[i].box.k), C.fl 1 (a.es[i].box.low.es.map eI) [], C.fl 1 (a.es[i].box.high.es.map eI) [], C.val (int a.es[i].least), C.val (int a.es[i].most), C.val (int a.es[i].version)]] = R (i + 1) := hs
    simp -implicitDefEqProofs [l1_spec_caOwnAll, hi, hl, hm, hm2, hT2, hC, bareS_sp, bareRow_es, bareRow_sp, bareE, bareB, t1, t2, t3, t4, t5, t6, hs, wrap_suc (show i < 9223372036854775807 by omega)]
  · intro _
    have hl := hRl a.es.length (Nat.le_refl _)
    simp -implicitDefEqProofs [l1_spec_caOwnAll, hl, hT, hD]
theorem L_impl_copyEntries (a : Entries) (h : a.es.length ≤ 1000000) (hp : ∀ e ∈ a.es, SmallE e) : L0 n_impl_copyEntries [arg (cE a)] = some ⟨[.s (.mk .deep (cE (bareL a)))], []⟩ := by
  refine L_body (b := b_impl_copyEntries) rfl rfl a.es.length ?_
  intro fuel hfuel
  obtain ⟨R, hR⟩ : ∃ R : Nat → List (List C), R = fun i => (a.es.take i).map (fun x => eE (bareE x)) := ⟨_, rfl⟩
  have hR0 : R 0 = [] := by rw [hR]; rfl
  have hRs : ∀ i (h : i < a.es.length), R i ++ [eE (bareE a.es[i])] = R (i + 1) := by
    intro i h
    rw [hR]
    simp only [List.take_succ_eq_append_getElem h, List.map_append, List.map_cons, List.map_nil]
  have hRl : ∀ i, i ≤ a.es.length → (R i).length = i := by intro i h; rw [hR]; simp; omega
  have hRn : R a.es.length = a.es.map (fun x => eE (bareE x)) := by rw [hR]; simp
  have hT : (R a.es.length).take a.es.length = R a.es.length := List.take_of_length_le (by rw [hRl _ (Nat.le_refl _)]; exact Nat.le_refl _)
  have hD : (R a.es.length).drop a.es.length = [] := List.drop_eq_nil_of_le (by rw [hRl _ (Nat.le_refl _)]; exact Nat.le_refl _)
  have hres : cE (bareL a) = .sl 8 (R a.es.length) [] := by rw [hRn]; simp [bareL_es, bareL_sp, Function.comp_def]
  rw [hres]
  clear hR hRn hres
  simp -implicitDefEqProofs [b_impl_copyEntries]
  rw [K_start (fr' := ⟨asl [(0, .sv (.c (cE a))), (3, .sv (.ref 1000000 [] 0 0)), (6, .sv (.v (int a.es.length))), (7, .sv (.v (int (0 : Nat))))], asl [(1000000, .arr true false (.sl 8 (R 0) []))], []⟩) (by simp [hR0])]
  refine K_for2 (fun i => ⟨asl [(0, .sv (.c (cE a))), (3, .sv (.ref 1000000 [] 0 i)), (6, .sv (.v (int a.es.length))), (7, .sv (.v (int i)))], asl [(1000000, .arr true false (.sl 8 (R i) []))], []⟩) (fun i => ⟨asl [(0, .sv (.c (cE a))), (3, .sv (.ref 65024 [] 0 i)), (6, .sv (.v (int a.es.length))), (7, .sv (.v (int i)))], asl [(65024, .arr true false (.sl 8 (R i) []))], []⟩) 0 a.es.length (by omega) (by omega) (by intro i _ _; simp) ?_ ?_
  · intro i _ hi K
    have hl := hRl i (by omega)
    have hm : (i + 1) * 120 ≤ 140737488355328 := by omega
    have hm2 : i + 1 ≤ 9223372036854775807 := by omega
    have hT2 : (R i).take i = R i := List.take_of_length_le (by omega)
    have hs := hRs i hi
    have hq := hp _ (List.getElem_mem hi)
    have hC := L_copyEntry a.es[i] hq
    have t1 : ((bareS a.es[i].system).es.map eP).take (bareS a.es[i].system).es.length = (bareS a.es[i].system).es.map eP := List.take_of_length_le (by simp)
    have t2 : ((bareS a.es[i].system).es.map eP).drop (bareS a.es[i].system).es.length = [] := List.drop_eq_nil_of_le (by simp)
    have t3 : (a.es[i].box.low.es.map eI).take a.es[i].box.low.es.length = a.es[i].box.low.es.map eI := List.take_of_length_le (by simp)
    have t4 : (a.es[i].box.low.es.map eI).drop a.es[i].box.low.es.length = [] := List.drop_eq_nil_of_le (by simp)
    have t5 : (a.es[i].box.high.es.map eI).take a.es[i].box.high.es.length = a.es[i].box.high.es.map eI := List.take_of_length_le (by simp)
    have t6 : (a.es[i].box.high.es.map eI).drop a.es[i].box.high.es.length = [] := List.drop_eq_nil_of_le (by simp)
    have hs : R i ++ [[C.val (.string a.es[i].name), C.sl 1 ((bareS a.es[i].system).es.map eP) [], C.val (int a.es[i].box.k), C.fl 1 (a.es[i].box.low.es.map eI) [], C.fl 1 (a.es[i].box.high.es.map eI) [], C.val (int a.es[i].least), C.val (int a.es[i].most), C.val (int a.es[i].version)]] = R (i + 1) := hs
    simp -implicitDefEqProofs [l1_impl_copyEntries, hi, hl, hm, hm2, hT2, hC, bareS_sp, bareRow_es, bareRow_sp, bareE, bareB, t1, t2, t3, t4, t5, t6, hs, wrap_suc (show i < 9223372036854775807 by omega)]
  · intro _
    have hl := hRl a.es.length (Nat.le_refl _)
    simp -implicitDefEqProofs [l1_impl_copyEntries, hl, hT, hD]
end Go.Proofs.Ytkiklfcfdopplaa.T
namespace Go.Proofs.Ytkiklfcfdopplaa.T
open Go
set_option maxHeartbeats 2000000
attribute [-simp] List.getElem_cons_drop List.map_drop List.map_take
def eqN (a b : ByteArray) : Bool := a.toList == b.toList
def placeGo (n : ByteArray) : List EntryV → Nat
  | [] => 0
  | e :: r => if lessN e.name n then placeGo n r + 1 else 0
theorem placeGo_le (n : ByteArray) : ∀ l, placeGo n l ≤ l.length
  | [] => Nat.le_refl _
  | e :: r => by
    have := placeGo_le n r
    simp only [placeGo]
    split <;> simp <;> omega
theorem L_caPlace (l : Entries) (n : ByteArray) : L0 n_spec_caPlace [arg (cE l), argV (.string n)] = some (resI (placeGo n l.es : Nat)) := by
  have hok := l.ok
  refine L_body (b := b_spec_caPlace) rfl rfl l.es.length ?_
  intro fuel hfuel
  simp -implicitDefEqProofs [b_spec_caPlace]
  refine (K_loop (fun (i : Nat) => ⟨asl [(0, .sv (.c (cE l))), (1, .sv (.v (.string n))), (5, .sv (.v (int i)))], asl [], []⟩) (fun i => some (resI ((i + placeGo n (l.es.drop i) : Nat) : Int))) (fun i => l.es.length - i) (fun i => i ≤ l.es.length) ?_ 0 (by simp) (by omega)).trans (by simp)
  intro i hi k hk
  by_cases hlt : i < l.es.length
  · rw [drop_cons hlt]
    cases h : lessN l.es[i].name n
    · have h' : Op.bytesLess l.es[i].name.toList n.toList = false := h
      simp -implicitDefEqProofs [l1_spec_caPlace, hlt, h, h', placeGo]
    · have h' : Op.bytesLess l.es[i].name.toList n.toList = true := h
      have hgo := hk (i + 1) (by omega) (by omega)
      have e : i + placeGo n (l.es[i] :: l.es.drop (i + 1)) = i + 1 + placeGo n (l.es.drop (i + 1)) := by simp [placeGo, h]; omega
      rw [e, ← hgo]
      simp -implicitDefEqProofs [l1_spec_caPlace, hlt, h', wrap_suc (show i < 9223372036854775807 by omega)]
  · rw [drop_end hlt]
    simp -implicitDefEqProofs [l1_spec_caPlace, hlt, placeGo]
def atB (l : List EntryV) (k : Nat) (n : ByteArray) : Bool :=
  match l[k]? with
  | some e => eqN e.name n
  | none => false
theorem L_caAt (l : Entries) (k : Nat) (n : ByteArray) : L0 n_spec_caAt [arg (cE l), argI k, argV (.string n)] = some (resB (atB l.es k n)) := by
  refine L_body (b := b_spec_caAt) rfl rfl 0 ?_
  intro fuel _
  by_cases hlt : k < l.es.length
  · have e : atB l.es k n = (l.es[k].name.toList == n.toList) := by simp [atB, hlt, eqN]
    rw [e]
    simp -implicitDefEqProofs [b_spec_caAt, hlt]
  · have e : atB l.es k n = false := by simp [atB, List.getElem?_eq_none (Nat.le_of_not_lt hlt)]
    rw [e]
    simp -implicitDefEqProofs [b_spec_caAt, hlt]
theorem L_CompareString (a b : ByteArray) : L0 n_bytealg_CompareString [argV (.string a), argV (.string b)] = some (resI (cmpN a b)) := by
  refine L_body (b := b_bytealg_CompareString) rfl rfl 0 ?_
  intro fuel _
  simp -implicitDefEqProofs [b_bytealg_CompareString, L_cmpstring]
theorem L_Compare (a b : ByteArray) : L0 n_strings_Compare [argV (.string a), argV (.string b)] = some (resI (cmpN a b)) := by
  refine L_body (b := b_strings_Compare) rfl rfl 0 ?_
  intro fuel _
  simp -implicitDefEqProofs [b_strings_Compare, L_CompareString]
theorem L_entryCmp (e : EntryV) (n : ByteArray) : L0 n_impl_entryPlace_in1 [argE e, argV (.string n)] = some (resI (cmpN e.name n)) := by
  refine L_body (b := b_impl_entryPlace_in1) rfl rfl 0 ?_
  intro fuel _
  simp -implicitDefEqProofs [b_impl_entryPlace_in1, L_Compare]
/-- All that comes before is in front. -/
def Mono (l : List EntryV) (n : ByteArray) : Prop := ∀ (i : Nat) (h : i < l.length), lessN l[i].name n = decide (i < placeGo n l)
theorem cmpN_neg (a b : ByteArray) : cmpN a b < 0 ↔ lessN a b = true := by
  unfold cmpN
  split
  · rename_i h; simp [h]
  · rename_i h
    split <;> simp [h]
theorem L_binarySearch (l : Entries) (n : ByteArray) (hl : l.es.length ≤ 1000000) (hm : Mono l.es n) : L0 n_slices_BinarySearchFunc_SimplEntryimplEntrystring [arg (cE l), argV (.string n), .imm (.fn 46 [])] = some ⟨[.s (.mk .imm (.val (int (placeGo n l.es : Nat)))), .s (.mk .imm (.val (.bool (atB l.es (placeGo n l.es) n))))], []⟩ := by
  have hple := placeGo_le n l.es
  refine L_body (b := b_slices_BinarySearchFunc_SimplEntryimplEntrystring) rfl rfl l.es.length ?_
  intro fuel hfuel
  simp -implicitDefEqProofs [b_slices_BinarySearchFunc_SimplEntryimplEntrystring]
  refine (K_loop (fun (s : Nat × Nat) => ⟨asl [(0, .sv (.c (cE l))), (1, .sv (.v (.string n))), (2, .v (.fn 46 [])), (8, .sv (.v (int l.es.length))), (9, .sv (.v (int s.1))), (10, .sv (.v (int s.2)))], asl [], []⟩) (fun _ => some ⟨[.s (.mk .imm (.val (int (placeGo n l.es : Nat)))), .s (.mk .imm (.val (.bool (atB l.es (placeGo n l.es) n))))], []⟩) (fun s => s.2 - s.1) (fun s => s.1 ≤ placeGo n l.es ∧ placeGo n l.es ≤ s.2 ∧ s.2 ≤ l.es.length) ?_ (0, l.es.length) ⟨by simp, by simpa using hple, by simp⟩ (by simpa using hfuel)).trans (by simp)
  rintro ⟨i, j⟩ ⟨h1, h2, h3⟩ k hk
  simp only at h1 h2 h3
  by_cases hlt : i < j
  · obtain ⟨h, hh⟩ : ∃ h, h = (i + j) / 2 := ⟨_, rfl⟩
    have hhl : h < l.es.length := by omega
    have w0 : IntKind.i64.wrap ((i : Int) + (j : Int)) = (i : Int) + (j : Int) := wrap64 (by omega) (by omega)
    have w1 : IntKind.u64.wrap ((i : Int) + (j : Int)) = (i : Int) + (j : Int) := by
      simp [IntKind.wrap, IntKind.bits, IntKind.signed]
      omega
    have hm1 : (2 : Int) ^ min 1 IntKind.u64.bits = 2 := by decide
    have hH : IntKind.i64.wrap ((IntKind.u64.wrap (IntKind.i64.wrap ((i : Int) + (j : Int)))).fdiv (2 ^ min 1 IntKind.u64.bits)) = (h : Int) := by
      rw [w0, w1, hm1, Int.fdiv_eq_ediv_of_nonneg _ (by omega), wrap64 (by omega) (by omega)]
      omega
    have hC := L_entryCmp l.es[h] n
    have hmh := hm h hhl
    have hws := wrap_suc (show h < 9223372036854775807 by omega)
    by_cases hp : h < placeGo n l.es
    · have hneg : cmpN l.es[h].name n < 0 := (cmpN_neg _ _).2 (by rw [hmh]; simpa using hp)
      have hgo := hk (h + 1, j) ⟨by simp; omega, by simp; omega, by simp; omega⟩ (by simp; omega)
      rw [← hgo]
      simp -implicitDefEqProofs [l1_slices_BinarySearchFunc_SimplEntryimplEntrystring, hlt, hH, hhl, hC, hneg, hws]
    · have hneg : ¬ (cmpN l.es[h].name n < 0) := by rw [cmpN_neg, hmh]; simpa using hp
      have hgo := hk (i, h) ⟨by simp; omega, by simp; omega, by simp; omega⟩ (by simp; omega)
      rw [← hgo]
      simp -implicitDefEqProofs [l1_slices_BinarySearchFunc_SimplEntryimplEntrystring, hlt, hH, hhl, hC, hneg]
  · have hij : i = placeGo n l.es := by omega
    by_cases hend : i < l.es.length
    · have hC := L_entryCmp l.es[i] n
      have hmi := hm i hend
      have hless : lessN l.es[i].name n = false := by rw [hmi]; simp [hij]
      have hat : atB l.es (placeGo n l.es) n = (cmpN l.es[i].name n == 0) := by
        rw [← hij]
        simp only [atB, hend, List.getElem?_eq_getElem, cmpN, hless, eqN]
        cases h : (l.es[i].name.toList == n.toList) <;> simp
      rw [hat, ← hij]
      simp -implicitDefEqProofs [l1_slices_BinarySearchFunc_SimplEntryimplEntrystring, hlt, hend, hC]
    · have hat : atB l.es (placeGo n l.es) n = false := by rw [← hij]; simp [atB, List.getElem?_eq_none (Nat.le_of_not_lt hend)]
      rw [hat, ← hij]
      simp -implicitDefEqProofs [l1_slices_BinarySearchFunc_SimplEntryimplEntrystring, hlt, hend]
theorem L_entryPlace (l : Entries) (n : ByteArray) (hl : l.es.length ≤ 1000000) (hm : Mono l.es n) : L0 n_impl_entryPlace [arg (cE l), argV (.string n)] = some ⟨[.s (.mk .imm (.val (int (placeGo n l.es : Nat)))), .s (.mk .imm (.val (.bool (atB l.es (placeGo n l.es) n))))], []⟩ := by
  have hB := L_binarySearch l n hl hm
  refine L_body (b := b_impl_entryPlace) rfl rfl 0 ?_
  intro fuel _
  simp -implicitDefEqProofs [b_impl_entryPlace, hB]
end Go.Proofs.Ytkiklfcfdopplaa.T
namespace Go.Proofs.Ytkiklfcfdopplaa.T
open Go
set_option maxHeartbeats 2000000
attribute [-simp] List.getElem_cons_drop List.map_drop List.map_take
def setRow {α : Type} (l : Row α) (k : Nat) (e : α) : Row α := ⟨l.es.set k e, l.sp, by have := l.ok; simpa using this⟩
def preRow {α : Type} (l : Row α) (k : Nat) : Row α := ⟨l.es.take k, l.es.drop k ++ l.sp, by have := l.ok; simp; omega⟩
def postRow {α : Type} (l : Row α) (k : Nat) : Row α := ⟨l.es.drop k, l.sp, by have := l.ok; simp; omega⟩
theorem L_caPut (l : Entries) (e : EntryV) (k : Nat) (hl : l.es.length ≤ 1000000) (hp : ∀ x ∈ l.es, SmallE x) (he : SmallE e) (hk : placeGo e.name l.es = k) (hat : atB l.es k e.name = true) : L0 n_spec_caPut [arg (cE l), argE e] = some ⟨[.s (.mk .deep (cE (bareL (setRow l k e))))], []⟩ := by
  have hlt : k < l.es.length := by
    apply Nat.lt_of_not_le
    intro h
    simp [atB, List.getElem?_eq_none h] at hat
  refine L_body (b := b_spec_caPut) rfl rfl 0 ?_
  intro fuel _
  have hP := L_caPlace l e.name
  rw [hk] at hP
  have hA := L_caAt l k e.name
  rw [hat] at hA
  have hO := L_caOwn e he
  have hkl : k ≤ l.es.length := Nat.le_of_lt hlt
  have e1 : C.sl 8 (List.take k (List.map eE l.es ++ List.map eE l.sp)) (List.drop k (List.map eE l.es ++ List.map eE l.sp)) = cE (preRow l k) := by
    rw [List.take_append_of_le_length (by simpa using hkl), List.drop_append_of_le_length (by simpa using hkl)]
    simp [preRow, List.map_take, List.map_drop]
  have e2 : C.sl 8 (List.take (l.es.length - (k + 1)) (List.drop (k + 1) (List.map eE l.es ++ List.map eE l.sp))) (List.drop (k + 1 + (l.es.length - (k + 1))) (List.map eE l.es ++ List.map eE l.sp)) = cE (postRow l (k + 1)) := by
    rw [List.drop_append_of_le_length (by simp; omega), List.take_left' (by simp), show k + 1 + (l.es.length - (k + 1)) = l.es.length by omega, List.drop_left' (by simp)]
    simp [postRow, List.map_drop]
  have h1 := L_spec_caOwnAll (preRow l k) (by simp [preRow]; omega) (fun x hx => hp x (List.mem_of_mem_take hx))
  have h2 := L_spec_caOwnAll (postRow l (k + 1)) (by simp [postRow]; omega) (fun x hx => hp x (List.mem_of_mem_drop hx))
  have hws := wrap_suc (show k < 9223372036854775807 by omega)
  obtain ⟨P, hPd⟩ : ∃ P, P = (bareL (preRow l k)).es.map eE := ⟨_, rfl⟩
  obtain ⟨Q, hQd⟩ : ∃ Q, Q = (bareL (postRow l (k + 1))).es.map eE := ⟨_, rfl⟩
  have hPl : P.length = k := by rw [hPd]; simp [bareL, preRow]; omega
  have hQl : Q.length = l.es.length - (k + 1) := by rw [hQd]; simp [bareL, postRow]
  have h1' : L0 n_spec_caOwnAll [arg (C.sl 8 (List.take k (List.map eE l.es ++ List.map eE l.sp)) (List.drop k (List.map eE l.es ++ List.map eE l.sp)))] = some ⟨[.s (.mk .deep (.sl 8 P []))], []⟩ := by
    rw [e1, h1, hPd]; rfl
  have h2' : L0 n_spec_caOwnAll [arg (C.sl 8 (List.take (l.es.length - (k + 1)) (List.drop (k + 1) (List.map eE l.es ++ List.map eE l.sp))) (List.drop (k + 1 + (l.es.length - (k + 1))) (List.map eE l.es ++ List.map eE l.sp)))] = some ⟨[.s (.mk .deep (.sl 8 Q []))], []⟩ := by
    rw [e2, h2, hQd]; rfl
  have hres : cE (bareL (setRow l k e)) = .sl 8 (P ++ [eE (bareE e)] ++ Q) [] := by
    rw [hPd, hQd]
    simp only [cE, bareL, setRow, preRow, postRow, List.map_nil]
    rw [List.set_eq_take_append_cons_drop, if_pos hlt]
    simp [List.map_take, List.map_drop]
  rw [hres]
  clear hres hPd hQd h1 h2 e1 e2
  have hb : (k : Int) ≤ (l.es.length : Int) + (l.sp.length : Int) := by omega
  have hb2 : (k : Int) + 1 ≤ (l.es.length : Int) := by omega
  have hb3 : (l.es.length : Int) ≤ (l.es.length : Int) + (l.sp.length : Int) := by omega
  have hb4 : (0 : Int) ≤ (k : Int) + 1 := by omega
  have hm1 : (k + 1) * 120 ≤ 140737488355328 := by omega
  have hm2 : k + 1 ≤ 9223372036854775807 := by omega
  have hm3 : (k + 1 + (l.es.length - (k + 1))) * 120 ≤ 140737488355328 := by omega
  have hm4 : k + 1 + (l.es.length - (k + 1)) ≤ 9223372036854775807 := by omega
  have hT1 : P.take k = P := List.take_of_length_le (by omega)
  have hT2 : Q.take (l.es.length - (k + 1)) = Q := List.take_of_length_le (by omega)
  have hcast : ((k : Int) + 1).toNat = k + 1 := by omega
  simp -implicitDefEqProofs [b_spec_caPut, hP, hA, hO, h1', h2', hPl, hQl, hws, hlt, hkl, hb, hb2, hb3, hb4, hm1, hm2, hm3, hm4, hT1, hT2, hcast]
  have hx : ∀ x : List C, (P ++ [x]).take (k + 1) = P ++ [x] := fun x => List.take_of_length_le (by simp [hPl])
  rw [hx, List.take_of_length_le (by simp [hPl, hQl]; omega)]
  simp
def tight (e : EntryV) (least most : Int) : EntryV := ⟨e.name, e.nok, e.system, e.box, max e.least least, min e.most most, e.version⟩
def outE (l : Entries) (k : Nat) (least most : Int) : Entries :=
  match l.es[k]? with
  | some e => bareL (setRow l k (tight e least most))
  | none => bareL l
/-- What both give: entries, or nothing. -/
def tightOk (l : Entries) (n : ByteArray) (least most : Int) : Bool :=
  catOk (qL l) && (atB l.es (placeGo n l.es) n && (inR least 0 64 && (inR most 0 64 &&
    match l.es[placeGo n l.es]? with
    | some e => entryOk (qE (tight e least most))
    | none => false)))
abbrev resL (ok : Bool) (l : Entries) : Res := ⟨[.s (.mk .deep (if ok then cE l else .sl 8 [] [])), .s (.mk .imm (.val (.bool ok)))], []⟩
theorem lessN_congr {a b : ByteArray} (h : a.toList = b.toList) (c : ByteArray) : lessN c a = lessN c b := by unfold lessN; rw [h]
theorem placeGo_congr {a b : ByteArray} (h : a.toList = b.toList) : ∀ l, placeGo a l = placeGo b l
  | [] => rfl
  | e :: r => by simp only [placeGo, lessN_congr h, placeGo_congr h r]
theorem L_specTighten (l : Entries) (n : ByteArray) (least most : Int) (hl : l.es.length ≤ 1000000) (hp : ∀ x ∈ l.es, SmallE x) :
    L0 n_spec_TightenZeros [arg (cE l), argV (.string n), argI least, argI most] = some (resL (tightOk l n least most) (outE l (placeGo n l.es) least most)) := by
  refine L_body (b := b_spec_TightenZeros) rfl rfl 0 ?_
  intro fuel _
  have hP := L_caPlace l n
  have hA := L_caAt l (placeGo n l.es) n
  obtain ⟨k, hk⟩ : ∃ k, k = placeGo n l.es := ⟨_, rfl⟩
  rw [← hk] at hP hA
  unfold tightOk
  rw [← hk]
  cases c1 : catOk (qL l)
  · simp -implicitDefEqProofs [b_spec_TightenZeros, hP, L_caGood, c1]
  cases c2 : atB l.es k n
  · rw [c2] at hA
    simp -implicitDefEqProofs [b_spec_TightenZeros, hP, hA, L_caGood, c1]
  rw [c2] at hA
  cases c3 : inR least 0 64
  · simp -implicitDefEqProofs [b_spec_TightenZeros, hP, hA, L_caGood, L_l1In, c1, c3]
  cases c4 : inR most 0 64
  · simp -implicitDefEqProofs [b_spec_TightenZeros, hP, hA, L_caGood, L_l1In, c1, c3, c4]
  have hlt : k < l.es.length := by
    apply Nat.lt_of_not_le
    intro h
    simp [atB, List.getElem?_eq_none h] at c2
  have hE := L_caEntry (hand := handF) (tight l.es[k] least most)
  simp only [List.getElem?_eq_getElem hlt]
  cases c5 : entryOk (qE (tight l.es[k] least most))
  · rw [c5] at hE
    have hE : L0 n_spec_caEntry [.imm (.agg [.c (.val (.string l.es[k].name)), .c (cS l.es[k].system), .c (.val (int l.es[k].box.k)), .c (cI l.es[k].box.low), .c (cI l.es[k].box.high), .c (.val (int (max l.es[k].least least))), .c (.val (int (min l.es[k].most most))), .c (.val (int l.es[k].version))])] = some (resB false) := hE
    simp -implicitDefEqProofs [b_spec_TightenZeros, hP, hA, L_caGood, L_l1In, L_l1Most, L_l1Least, c1, c3, c4, hlt, hE]
  · rw [c5] at hE
    have hE : L0 n_spec_caEntry [.imm (.agg [.c (.val (.string l.es[k].name)), .c (cS l.es[k].system), .c (.val (int l.es[k].box.k)), .c (cI l.es[k].box.low), .c (cI l.es[k].box.high), .c (.val (int (max l.es[k].least least))), .c (.val (int (min l.es[k].most most))), .c (.val (int l.es[k].version))])] = some (resB true) := hE
    have heq : l.es[k].name.toList = n.toList := by simpa [atB, hlt, eqN] using c2
    have hsm0 := hp _ (List.getElem_mem hlt)
    have hsm : SmallE (tight l.es[k] least most) := hsm0
    have hPut := L_caPut l (tight l.es[k] least most) k hl hp hsm (by show placeGo l.es[k].name l.es = k; rw [placeGo_congr heq, hk]) (by simp [atB, hlt, eqN, tight])
    have hPut : L0 n_spec_caPut [arg (cE l), .imm (.agg [.c (.val (.string l.es[k].name)), .c (cS l.es[k].system), .c (.val (int l.es[k].box.k)), .c (cI l.es[k].box.low), .c (cI l.es[k].box.high), .c (.val (int (max l.es[k].least least))), .c (.val (int (min l.es[k].most most))), .c (.val (int l.es[k].version))])] = some ⟨[.s (.mk .deep (cE (bareL (setRow l k (tight l.es[k] least most)))))], []⟩ := hPut
    have hout : outE l k least most = bareL (setRow l k (tight l.es[k] least most)) := by unfold outE; rw [List.getElem?_eq_getElem hlt]
    rw [hout]
    have hT : ((bareL (setRow l k (tight l.es[k] least most))).es.map eE).take (bareL (setRow l k (tight l.es[k] least most))).es.length = (bareL (setRow l k (tight l.es[k] least most))).es.map eE := List.take_of_length_le (by simp)
    have hD : ((bareL (setRow l k (tight l.es[k] least most))).es.map eE).drop (bareL (setRow l k (tight l.es[k] least most))).es.length = [] := List.drop_eq_nil_of_le (by simp)
    have hsp : (bareL (setRow l k (tight l.es[k] least most))).sp = [] := rfl
    generalize bareL (setRow l k (tight l.es[k] least most)) = o at hPut hT hD hsp
    simp -implicitDefEqProofs [b_spec_TightenZeros, hP, hA, L_caGood, L_l1In, L_l1Most, L_l1Least, c1, c3, c4, hlt, hE, hPut, hT, hD, hsp]
end Go.Proofs.Ytkiklfcfdopplaa.T
namespace Go.Proofs.Ytkiklfcfdopplaa.T
open Go
set_option maxHeartbeats 4000000
attribute [-simp] List.getElem_cons_drop List.map_drop List.map_take
theorem L_catalogueResult (r : Entries) (hsp : r.sp = []) : L0 n_impl_catalogueResult [own (.sl 8 (r.es.map eE) []) r.es.length] = some (if catOk (qL r) then ⟨[.s (.mk .deep (cE r)), .s (.mk .imm (.val (.bool true)))], [none]⟩ else ⟨[.s (.mk .deep (.sl 8 [] [])), .s (.mk .imm (.val (.bool false)))], [some (.arr true false (.sl 8 (r.es.map eE) []))]⟩) := by
  refine L_body (b := b_impl_catalogueResult) rfl rfl 0 ?_
  intro fuel _
  have hC := L_isCatalogue (hand := handF) r
  have hT : (r.es.map eE).take r.es.length = r.es.map eE := List.take_of_length_le (by simp)
  have hD : (r.es.map eE).drop r.es.length = [] := List.drop_eq_nil_of_le (by simp)
  have hC : L0 n_impl_isCatalogue [arg (.sl 8 (r.es.map eE) [])] = some (resB (catOk (qL r))) := by
    have e : cE r = .sl 8 (r.es.map eE) [] := by unfold cE; rw [hsp]; rfl
    rw [← e]; exact hC
  cases c : catOk (qL r)
  · rw [c] at hC
    simp -implicitDefEqProofs [b_impl_catalogueResult, hC, hT, hD]
  · rw [c] at hC
    simp -implicitDefEqProofs [b_impl_catalogueResult, hC, hT, hD, hsp]
theorem L_implTighten (l : Entries) (n : ByteArray) (least most : Int) (hl : l.es.length ≤ 1000000) (hp : ∀ x ∈ l.es, SmallE x) (hm : catOk (qL l) = true → Mono l.es n)
    (hcat : catOk (qL l) = true → ∀ (k : Nat) (e : EntryV), l.es[k]? = some e → catOk (qL (bareL (setRow l k (tight e least most)))) = entryOk (qE (tight e least most))) :
    L0 n_impl_TightenZeros [arg (cE l), argV (.string n), argI least, argI most] = some (resL (tightOk l n least most) (outE l (placeGo n l.es) least most)) := by
  refine L_body (b := b_impl_TightenZeros) rfl rfl 0 ?_
  intro fuel _
  unfold tightOk
  cases c1 : catOk (qL l)
  · simp -implicitDefEqProofs [b_impl_TightenZeros, L_isCatalogue, c1]
  have hE := L_entryPlace l n hl (hm c1)
  obtain ⟨k, hk⟩ : ∃ k, k = placeGo n l.es := ⟨_, rfl⟩
  rw [← hk] at hE ⊢
  cases c3 : inR least 0 64
  · simp -implicitDefEqProofs [b_impl_TightenZeros, L_isCatalogue, L_inside, c1, c3]
  cases c4 : inR most 0 64
  · simp -implicitDefEqProofs [b_impl_TightenZeros, L_isCatalogue, L_inside, c1, c3, c4]
  cases c2 : atB l.es k n
  · rw [c2] at hE
    simp -implicitDefEqProofs [b_impl_TightenZeros, L_isCatalogue, L_inside, c1, c3, c4, hE]
  rw [c2] at hE
  have hlt : k < l.es.length := by
    apply Nat.lt_of_not_le
    intro h
    simp [atB, List.getElem?_eq_none h] at c2
  have hco := L_impl_copyEntries l hl hp
  have hcat1 := hcat c1 k l.es[k] (List.getElem?_eq_getElem hlt)
  have hout : outE l k least most = bareL (setRow l k (tight l.es[k] least most)) := by unfold outE; rw [List.getElem?_eq_getElem hlt]
  rw [hout]
  simp only [List.getElem?_eq_getElem hlt]
  have hR := L_catalogueResult (bareL (setRow l k (tight l.es[k] least most))) rfl
  rw [hcat1] at hR
  obtain ⟨R, hRd⟩ : ∃ R, R = (bareL l).es.map eE := ⟨_, rfl⟩
  have hRl : R.length = l.es.length := by rw [hRd]; simp [bareL]
  have hRk : R[k]'(by omega) = eE (bareE l.es[k]) := by subst hRd; simp [bareL]
  have hT : R.take l.es.length = R := List.take_of_length_le (by omega)
  have hD : R.drop l.es.length = [] := List.drop_eq_nil_of_le (by omega)
  have hset : (bareL (setRow l k (tight l.es[k] least most))).es.map eE = R.set k (eE (bareE (tight l.es[k] least most))) := by
    rw [hRd]; simp [bareL, setRow, List.map_set]
  have hlen : (bareL (setRow l k (tight l.es[k] least most))).es.length = l.es.length := by simp [bareL, setRow]
  rw [hset, hlen] at hR
  have hco : L0 n_impl_copyEntries [arg (cE l)] = some ⟨[.s (.mk .deep (.sl 8 R []))], []⟩ := by rw [hco, hRd]; rfl
  have hcE : cE (bareL (setRow l k (tight l.es[k] least most))) = .sl 8 (R.set k (eE (bareE (tight l.es[k] least most)))) [] := by unfold cE; rw [hset]; rfl
  rw [hcE] at hR
  have hT2 : (R.set k (eE (bareE (tight l.es[k] least most)))).take l.es.length = R.set k (eE (bareE (tight l.es[k] least most))) := List.take_of_length_le (by simp; omega)
  have hD2 : (R.set k (eE (bareE (tight l.es[k] least most)))).drop l.es.length = [] := List.drop_eq_nil_of_le (by simp; omega)
  have hmax : max l.es[k].least least = if l.es[k].least < least then least else l.es[k].least := by split <;> omega
  have hmin : min l.es[k].most most = if most < l.es[k].most then most else l.es[k].most := by split <;> omega
  obtain ⟨x, hx⟩ : ∃ x : List C, x = [C.val (Value.string (bareE l.es[k]).name), cS (bareE l.es[k]).system, C.val (int (bareE l.es[k]).box.k), cI (bareE l.es[k]).box.low, cI (bareE l.es[k]).box.high, C.val (Value.int IntKind.i64 (if l.es[k].least < least then least else l.es[k].least)), C.val (Value.int IntKind.i64 (if most < l.es[k].most then most else l.es[k].most)), C.val (int (bareE l.es[k]).version)] := ⟨_, rfl⟩
  have hex : eE (bareE (tight l.es[k] least most)) = x := by rw [hx, ← hmax, ← hmin]; rfl
  rw [hex] at hR hT2 hD2 hcE
  have hxl : (R.set k x).length = l.es.length := by simp [hRl]
  cases c5 : entryOk (qE (tight l.es[k] least most))
  · rw [c5] at hR
    show _ = some (⟨[.s (.mk .deep (.sl 8 [] [])), .s (.mk .imm (.val (.bool false)))], []⟩ : Res)
    clear hRd hset hcE hcat1 hout hex
    simp only [Bool.false_eq_true, if_false] at hR
    rw [hx] at hR hT2 hD2 hxl
    simp -implicitDefEqProofs [b_impl_TightenZeros, L_isCatalogue, L_inside, c1, c3, c4, hE, hco, hlt, hRl, hRk, hT, hD, hR, hT2, hD2]
  · rw [c5] at hR
    show _ = some (⟨[.s (.mk .deep (cE (bareL (setRow l k (tight l.es[k] least most))))), .s (.mk .imm (.val (.bool true)))], []⟩ : Res)
    rw [hcE]
    clear hRd hset hcE hcat1 hout hex
    simp only [if_true] at hR
    rw [hx] at hR hT2 hD2 hxl ⊢
    simp -implicitDefEqProofs [b_impl_TightenZeros, L_isCatalogue, L_inside, c1, c3, c4, hE, hco, hlt, hRl, hRk, hT, hD, hR, hT2, hD2]
end Go.Proofs.Ytkiklfcfdopplaa.T
