/- Operations that make new memory. Operations that write memory, append and copy. append and copy. -/
import Derived.Test.YtecmolmlojehgaaGreatMD
import Derived.Laws.Tables
import Derived.IntWalk
import Derived.Laws.BytesString
namespace Go.Proofs.YtecmolmlojehgaaGreat.T
open Go
variable (ids : Nat → FuncId)

def mMkn (o : Op) (k : K) : Bool :=
  match o with
  | .assign (.const (.slice none 0 0)) => decide (0 < k.sz)
  | .move (.const (.slice none 0 0)) => decide (0 < k.sz)
  | _ => false
def mBox (o : Op) (x : Opd) : Bool :=
  match o with
  | .box _ x' => mOpd ids x' x
  | _ => false
def zeroIs (P : Program) (t : TypeId) (z : List SV) : Bool :=
  match P.info? t with
  | some i => match i.zero with
    | some zv => all2 svOk zv.cells.toList z
    | none => false
  | none => false
def mAlloc (P : Program) (o : Op) (z : List SV) : Bool :=
  match o with
  | .alloc t => zeroIs P t z
  | _ => false
def mBuild (P : Program) (o : Op) (z : List SV) (parts : List (Nat × Nat × Opd)) : Bool :=
  match o with
  | .build t ps => zeroIs P t z &&
    match P.underlying t with
    | some (.struct fs) => fs.all (fun f => (P.info? f.type).isSome) && all2 (fun p q => mOpd ids p.2 q.2.2 && match fs[p.1]? with | some f => f.offset == q.1 && elemIs P q.2.1 f.type | none => false) ps.toList parts
    | some (.array _ e) => all2 (fun p q => mOpd ids p.2 q.2.2 && q.1 == p.1 * q.2.1 && elemIs P q.2.1 e) ps.toList parts && parts.all (fun q => elemIs P q.2.1 e) && (P.info? e).isSome
    | _ => false
  | _ => false
def mBs (P : Program) (o : Op) (k : K) (parts : List Opd) : Bool :=
  match o with
  | .buildSlice t len ps => decide (len = parts.length) && decide (len * k.sz ≤ 2 ^ 24) && decide (0 < k.sz) && under P t (isSliceT P k.sz) && all2 (fun p q => mOpd ids p.2 q) ps.toList parts && decide (ps.toList.map (·.1) = List.range len) &&
    match P.underlying t with
    | some (.slice e) => match P.info? e with
      | some i => i.zero.isSome
      | none => false
    | _ => false
  | _ => false

section
variable {ids} {P : Program} {o : Oper} {a : Act} {w : World} {home : Home} {hd : Lb → Value} {rt rt' : Rts} {av : AV} {ev : Ev} {F : Nat → Option Root}
theorem newRt_spec {id : Nat} {r : Root} (h : newRt rt id r = some rt') : rt id = none ∧ 64000 ≤ id ∧ (∀ i ∈ r.ids, (rt i).isSome = true) ∧ rt' = upd rt id r := by
  unfold newRt at h
  split at h
  · rename_i hc
    simp only [Bool.and_eq_true, Option.isNone_iff_eq_none, decide_eq_true_eq, List.all_eq_true] at hc
    injection h with h
    exact ⟨hc.1.1, hc.1.2, hc.2, h.symm⟩
  · cases h
theorem asmF_F0 (k0 : Nat) : asmF F0 k0 = F0 := by funext j; simp [asmF, F0]
theorem svR_oneCell {xs : List SV} {vs : List Value} (h : F2 (SVR w home hd rt) xs vs) : ∀ v ∈ vs, v.oneCell' = true := by
  intro v hv
  obtain ⟨i, hi⟩ := List.getElem?_of_mem hv
  have hlt : i < xs.length := by rw [h.1]; exact (List.getElem?_eq_some_iff.1 hi).1
  exact SVR.one (h.2 i _ v (List.getElem?_eq_getElem hlt) hi)
theorem cells_one {v : Value} (h : v.oneCell' = true) : v.cells = #[v] := by cases v <;> first | rfl | cases h
/-- The cells of an operand. -/
theorem EvR.C (he : EvR ids w home hd rt ev a.eval) {y : Operand} {x : Opd} (hm : mOpd ids y x = true) {xs : List SV} (h : evC ev x = some xs) : F2 (SVR w home hd rt) xs (a.eval y).cells.toList ∧ ∀ s ∈ xs, ∀ i ∈ s.ids, (rt i).isSome = true := by
  unfold evC at h
  split at h
  · rename_i c hc
    obtain ⟨h1, h2⟩ := he y x c hm hc
    cases c with
    | s s =>
      simp only [A1.cells, Option.some.injEq] at h
      subst h
      have hv : SVR w home hd rt s (a.eval y) := h1
      rw [cells_one hv.one]
      refine ⟨⟨rfl, fun i s' v h3 h4 => ?_⟩, fun s' hs => ?_⟩
      · cases i with
        | zero => simp at h3 h4; subst h3 h4; exact hv
        | succ i => simp at h3
      · simp only [List.mem_singleton] at hs; subst hs; exact h2
    | agg ys =>
      simp only [A1.cells, Option.some.injEq] at h
      subst h
      obtain ⟨vs, hv, hf⟩ := h1
      rw [hv]
      refine ⟨by simpa [Value.cells] using hf, fun s hs i hi => h2 i ?_⟩
      simp only [A1.ids, List.mem_flatMap]
      exact ⟨s, hs, hi⟩
    | fn f xs => cases h
  · cases h
theorem pointer_new (w : World) (cs : Array Value) (e : TypeId) : (newRow e cs).run P w = .ok ⟨w.heap.size, 0, none⟩ (w.alloc (.cells cs e)) := by
  simp only [newRow, Sem.run_bind, run_newObj, Result.andThen_ok, Sem.run_pure]; rfl
theorem ok_newbox (old : RtR w home hd rt F0) {id : Nat} {xs : List SV} {vs : List Value} (hf : F2 (SVR w home hd rt) xs vs) (h : newRt rt id (.box xs) = some rt') {e : TypeId}
    (hrun : (execOp a.eval o).run P w = .ok (.value (.pointer (some ⟨w.heap.size, 0, none⟩))) (w.alloc (.cells vs.toArray e))) : OpOk ids P o a w home hd rt (.sv (.pb id 0)) rt' := by
  obtain ⟨h1, h2, h3, rfl⟩ := newRt_spec h
  obtain ⟨home', hd', s, hh⟩ := new_box old h1 h2 hf (fun x hx i hi => h3 i (by simp only [Root.ids, List.mem_flatMap]; exact ⟨x, hx, hi⟩)) e
  refine .value hrun s ⟨⟨_, rfl⟩, fun ys hr => ?_⟩
  exact ⟨w.heap.size, hh, rfl⟩
theorem ok_box (old : RtR w home hd rt F0) (he : EvR ids w home hd rt ev a.eval) {id : Nat} {x : Opd} (hm : mBox ids o.op x = true) {xs : List SV} (hx : evC ev x = some xs) (h : newRt rt id (.box xs) = some rt') :
    OpOk ids P o a w home hd rt (.sv (.pb id 0)) rt' := by
  unfold mBox at hm
  split at hm
  · rename_i t x' ho
    refine ok_newbox old (he.C hm hx).1 h (e := t) ?_
    unfold execOp
    rw [ho]
    simp only [Instr.box, newVar, Sem.run_bind, pointer_new, Result.andThen_ok, Sem.run_pure, Array.toArray_toList]
  · cases hm
theorem zeroIs_spec {t : TypeId} {z : List SV} (h : zeroIs P t z = true) : ∃ i zv, P.info? t = some i ∧ i.zero = some zv ∧ (zeroValue t).run P w = .ok zv w ∧ F2 (SVR w home hd rt) z zv.cells.toList ∧ ∀ x ∈ z, x.ids = [] := by
  unfold zeroIs at h
  split at h
  · rename_i i hi
    split at h
    · rename_i zv hz
      obtain ⟨h1, h2⟩ := all2_iff h
      refine ⟨i, zv, hi, hz, by simp [zeroValue, run_typeInfo w hi, hz], ⟨h1.symm, fun j x v hx hv => (svOk_R (h2 j v x hv hx) w home hd rt).1⟩, fun x hx => ?_⟩
      obtain ⟨j, hj⟩ := List.getElem?_of_mem hx
      have hlt : j < zv.cells.toList.length := by rw [h1]; exact (List.getElem?_eq_some_iff.1 hj).1
      exact (svOk_R (h2 j _ x (List.getElem?_eq_getElem hlt) hj) w home hd rt).2
    · cases h
  · cases h
theorem ok_alloc (old : RtR w home hd rt F0) {id : Nat} {z : List SV} (hm : mAlloc P o.op z = true) (h : newRt rt id (.box z) = some rt') : OpOk ids P o a w home hd rt (.sv (.pb id 0)) rt' := by
  unfold mAlloc at hm
  split at hm
  · rename_i t ho
    obtain ⟨i, zv, hi, hz, hrun, hf, _⟩ := zeroIs_spec (w := w) (home := home) (hd := hd) (rt := rt) hm
    refine ok_newbox old hf h (e := t) ?_
    unfold execOp
    rw [ho]
    simp only [Instr.alloc, newVar, Sem.run_bind, hrun, pointer_new, Result.andThen_ok, Sem.run_pure, Array.toArray_toList]
  · cases hm
theorem asmHome_F0 (old : RtR w home hd rt F0) {k0 id : Nat} {B : Option Nat} {g : Nat → Path → Option Path} {b : Nat} (hb : some b ≠ B) : asmHome home k0 id B g b = home b := by
  cases h : home b with
  | none => exact asmHome_none hb h
  | some x =>
    obtain ⟨l, q⟩ := x
    cases l with
    | x => exact asmHome_x hb h
    | r i => exact asmHome_r hb h
    | t m =>
      obtain ⟨_, r, h1, _⟩ := old.lab b _ q h
      cases h1
theorem ok_mkn (old : RtR w home hd rt F0) {id : Nat} {k : K} (hm : mMkn o.op k = true) (h : newRt rt id (.arr true false k.empty) = some rt') : OpOk ids P o a w home hd rt (.sv (.ref id [] 0 0)) rt' := by
  obtain ⟨h1, h2, h3, rfl⟩ := newRt_spec h
  have hk : 0 < k.sz ∧ (execOp a.eval o).run P w = .ok (.value (.slice none 0 0)) w := by
    unfold mMkn at hm
    split at hm
    · rename_i ho; exact ⟨by simpa using hm, by unfold execOp; rw [ho]; rfl⟩
    · rename_i ho; exact ⟨by simpa using hm, by unfold execOp; rw [ho]; rfl⟩
    · cases hm
  have hs := assemble (w' := w) old h1 h2 (k0 := 0) (B := none) (fun _ _ => none) (d := true) (c := k.empty) (u := .slice none 0 0) (fun b h => by cases h) (fun _ _ _ => rfl) rfl rfl rfl (Nat.le_refl _) (CR.kempty hk.1)
  rw [asmF_F0] at hs
  refine .value hk.2 hs ⟨⟨none, 0, rfl⟩, fun d t c hr ht c' u hg hu sz m tot hsh => ?_⟩
  rw [updF_same] at hr
  injection hr with hr
  injection hr with e1 e2 e3
  subst e1 e2 e3
  have e1 : k.empty.get [] = some k.empty := by cases k <;> rfl
  rw [e1] at hg; injection hg with hg; subst hg
  have e2 : ∀ c (u : Value), hdAt w c u [] = some u := fun c u => by cases c <;> rfl
  rw [e2, updL_same] at hu; injection hu with hu; subst hu
  exact Part.self sz (Nat.le_refl _)

/-! ### Literals -/
theorem fold_set (off : Nat) : ∀ (vs : List Value) (k : Nat) (cells : Array Value), off + k + vs.length ≤ cells.size →
    ((vs.zipIdx k).foldl (fun cs (q : Value × Nat) => cs.setIfInBounds (off + q.2) q.1) cells).toList = cells.toList.take (off + k) ++ vs ++ cells.toList.drop (off + k + vs.length)
  | [], k, cells, h => by simp
  | v :: vs, k, cells, h => by
    simp only [List.length_cons] at h
    rw [List.zipIdx_cons, List.foldl_cons]
    have ih := fold_set off vs (k + 1) (cells.setIfInBounds (off + k) v) (by simp; omega)
    rw [ih]
    simp only [Array.toList_setIfInBounds]
    have hlen : off + k < cells.toList.length := by simp; omega
    have h1 : (cells.toList.set (off + k) v).take (off + (k + 1)) = cells.toList.take (off + k) ++ [v] := by
      rw [show off + (k + 1) = (off + k) + 1 by omega, List.take_succ_eq_append_getElem (by simpa using hlen)]
      simp [List.take_set_of_le]
    have h2 : (cells.toList.set (off + k) v).drop (off + (k + 1) + vs.length) = cells.toList.drop (off + k + (vs.length + 1)) := by
      rw [List.drop_set_of_lt (by omega)]
      congr 1; omega
    rw [h1, h2]
    simp
theorem setSeg_spec {α : Type} {l r xs : List α} {off : Nat} (h : setSeg l off xs = some r) : off + xs.length ≤ l.length ∧ r = l.take off ++ xs ++ l.drop (off + xs.length) := by
  unfold setSeg at h
  split at h
  · rename_i hc; injection h with h; exact ⟨hc, h.symm⟩
  · cases h
theorem F2.append {α β : Type} {R : α → β → Prop} {xs xs' : List α} {ys ys' : List β} (h : F2 R xs ys) (h' : F2 R xs' ys') : F2 R (xs ++ xs') (ys ++ ys') := by
  refine ⟨by simp [h.1, h'.1], fun i x y hx hy => ?_⟩
  by_cases hi : i < xs.length
  · rw [List.getElem?_append_left hi] at hx
    rw [List.getElem?_append_left (by rw [← h.1]; exact hi)] at hy
    exact h.2 i x y hx hy
  · rw [List.getElem?_append_right (by omega)] at hx
    rw [List.getElem?_append_right (by rw [← h.1]; omega), ← h.1] at hy
    exact h'.2 _ x y hx hy
theorem F2.take {α β : Type} {R : α → β → Prop} {xs : List α} {ys : List β} (h : F2 R xs ys) (n : Nat) : F2 R (xs.take n) (ys.take n) := by
  have := h.seg 0 n
  simpa using this
theorem F2.drop {α β : Type} {R : α → β → Prop} {xs : List α} {ys : List β} (h : F2 R xs ys) (n : Nat) : F2 R (xs.drop n) (ys.drop n) := by
  refine ⟨by simp [h.1], fun i x y hx hy => ?_⟩
  rw [List.getElem?_drop] at hx hy
  exact h.2 _ x y hx hy
theorem F2.setSeg {α β : Type} {R : α → β → Prop} {xs us r : List α} {ys vs : List β} {off : Nat} (h : F2 R xs ys) (h' : F2 R us vs) (hs : T.setSeg xs off us = some r) : F2 R r (ys.take off ++ vs ++ ys.drop (off + vs.length)) := by
  obtain ⟨_, rfl⟩ := setSeg_spec hs
  rw [← h'.1]
  exact ((h.take off).append h').append (h.drop _)
/-- Go's filling of a struct's or an array's parts. -/
theorem fill_spec {place : Nat → Option (Nat × Nat)} : ∀ {ps : List (Nat × Value)} {qs : List (Nat × Nat × List SV)} {z r : List SV} {cells : Array Value}, F2 (SVR w home hd rt) z cells.toList →
    ps.length = qs.length → (∀ (i : Nat) p q, ps[i]? = some p → qs[i]? = some q → place p.1 = some (q.1, q.2.1) ∧ F2 (SVR w home hd rt) q.2.2 p.2.cells.toList) → fillC z qs = some r →
    ∃ cells', Instr.fill place cells ps = some cells' ∧ F2 (SVR w home hd rt) r cells'.toList
  | [], [], z, r, cells, hz, _, _, h => by simp only [fillC, Option.some.injEq] at h; subst h; exact ⟨cells, rfl, hz⟩
  | [], _ :: _, _, _, _, _, hl, _, _ => by simp at hl
  | _ :: _, [], _, _, _, _, hl, _, _ => by simp at hl
  | (i, v) :: ps, (off, size, xs) :: qs, z, r, cells, hz, hl, hp, h => by
    simp only [fillC] at h
    split at h
    · rename_i hlen
      split at h
      · rename_i z1 hz1
        obtain ⟨h1, h2⟩ := hp 0 _ _ rfl rfl
        simp only at h1 h2
        have hsz : v.cells.size = size := by rw [← hlen, h2.1]; simp
        obtain ⟨hle, _⟩ := setSeg_spec hz1
        have hle2 : off + v.cells.size ≤ cells.size := by
          have e1 := hz.1
          have e2 : cells.toList.length = cells.size := Array.length_toList
          rw [hsz, ← hlen]; omega
        have hnew := hz.setSeg h2 hz1
        have hfold := fold_set off v.cells.toList 0 cells (by simpa using hle2)
        simp only [Nat.add_zero, Array.length_toList] at hfold
        have hfold' : (v.cells.zipIdx.foldl (fun cs (q : Value × Nat) => cs.setIfInBounds (off + q.2) q.1) cells) = (cells.toList.take off ++ v.cells.toList ++ cells.toList.drop (off + v.cells.size)).toArray := by
          apply Array.ext'
          rw [← Array.foldl_toList, Array.toList_zipIdx]
          exact hfold
        have ih := fill_spec (place := place) (ps := ps) (qs := qs) (z := z1) (r := r) (cells := (cells.toList.take off ++ v.cells.toList ++ cells.toList.drop (off + v.cells.size)).toArray)
          (by simpa using hnew) (by simpa using hl) (fun j p q h3 h4 => hp (j + 1) p q h3 h4) h
        obtain ⟨cells', k1, k2⟩ := ih
        refine ⟨cells', ?_, k2⟩
        simp only [Instr.fill, h1]
        rw [if_neg (by simp only [Bool.or_eq_true, decide_eq_true_eq, not_or]; omega)]
        rw [← k1]
        congr 1
      · cases h
    · cases h
theorem run_mapM_sizes {fs : Array Field} (h : fs.all (fun f => (P.info? f.type).isSome) = true) :
    (fs.mapM fun f => (do pure (f.offset, ← sizeOf f.type) : Sem (Nat × Nat))).run P w = .ok (fs.map fun f => (f.offset, P.cellsOf f.type)) w := by
  have key : ∀ (l : List Field), (∀ f ∈ l, (P.info? f.type).isSome = true) → (l.mapM fun f => (do pure (f.offset, ← sizeOf f.type) : Sem (Nat × Nat))).run P w = .ok (l.map fun f => (f.offset, P.cellsOf f.type)) w := by
    intro l
    induction l with
    | nil => intro _; rfl
    | cons f l ih =>
      intro hl
      obtain ⟨i, hi⟩ := Option.isSome_iff_exists.1 (hl f (List.mem_cons_self ..))
      rw [List.mapM_cons]
      simp only [Sem.run_bind, run_sizeOf w hi, Result.andThen_ok, Sem.run_pure, ih (fun g hg => hl g (List.mem_cons_of_mem _ hg)), List.map_cons]
  rw [Array.mapM_eq_mapM_toList]
  rw [Sem.run_map, key fs.toList (fun f hf => by
    rw [Array.all_eq_true_iff_forall_mem] at h
    exact h f (by simpa using hf))]
  simp only [Result.andThen_ok, Result.ok.injEq, and_true]
  apply Array.ext'
  simp
theorem ok_build (old : RtR w home hd rt F0) (he : EvR ids w home hd rt ev a.eval) {z : List SV} {parts : List (Nat × Nat × Opd)} (hm : mBuild ids P o.op z parts = true) {l : List (Nat × Nat × List SV)}
    (hl : mapO (fun q => (evC ev q.2.2).map (fun xs => (q.1, q.2.1, xs))) parts = some l) {xs : List SV} (h : fillC z l = some xs) : OpOk ids P o a w home hd rt (.v (.agg xs)) rt := by
  unfold mBuild at hm
  split at hm
  · rename_i t ps ho
    simp only [Bool.and_eq_true] at hm
    obtain ⟨h1, h2⟩ := hm
    obtain ⟨i, zv, hi, hz, hrun, hf, _⟩ := zeroIs_spec (w := w) (home := home) (hd := hd) (rt := rt) h1
    obtain ⟨m1, m2⟩ := mapO_spec hl
    have hparts : ∀ (j : Nat) q r, parts[j]? = some q → l[j]? = some r → r.1 = q.1 ∧ r.2.1 = q.2.1 ∧ evC ev q.2.2 = some r.2.2 := by
      intro j q r hq hr
      have := m2 j q r hq hr
      rw [Option.map_eq_some_iff] at this
      obtain ⟨ys, e1, e2⟩ := this
      subst e2
      exact ⟨rfl, rfl, e1⟩
    have fin : ∀ {place : Nat → Option (Nat × Nat)}, ps.toList.length = parts.length → (∀ (j : Nat) p q, ps.toList[j]? = some p → parts[j]? = some q → mOpd ids p.2 q.2.2 = true ∧ place p.1 = some (q.1, q.2.1)) →
        ∃ cells', Instr.fill place zv.cells (ps.map fun (i, x) => (i, a.eval x)).toList = some cells' ∧ F2 (SVR w home hd rt) xs cells'.toList := by
      intro place hlen hp
      refine fill_spec hf (by simp [hlen, m1]) (fun j p r hp' hr => ?_) h
      rw [Array.toList_map, List.getElem?_map, Option.map_eq_some_iff] at hp'
      obtain ⟨p0, hp0, rfl⟩ := hp'
      have hlt : j < parts.length := by rw [m1]; exact (List.getElem?_eq_some_iff.1 hr).1
      obtain ⟨e1, e2, e3⟩ := hparts j _ r (List.getElem?_eq_getElem hlt) hr
      obtain ⟨g1, g2⟩ := hp j p0 _ hp0 (List.getElem?_eq_getElem hlt)
      exact ⟨by rw [e1, e2]; exact g2, (he.C g1 e3).1⟩
    have fin2 : ∀ {cells' : Array Value}, (Instr.build t (ps.map fun (i, x) => (i, a.eval x))).run P w = .ok (.agg cells') w → F2 (SVR w home hd rt) xs cells'.toList → OpOk ids P o a w home hd rt (.v (.agg xs)) rt := by
      intro cells' hr hF
      refine .value (v := .agg cells') (w' := w) ?_ (Step.refl old) ⟨cells'.toList, by simp, hF⟩
      unfold execOp
      rw [ho]
      simp only [Sem.run_bind, hr, Result.andThen_ok, Sem.run_pure]
    split at h2
    · rename_i fs hd1
      simp only [Bool.and_eq_true] at h2
      obtain ⟨h3, h4⟩ := h2
      obtain ⟨g1, g2⟩ := all2_iff h4
      obtain ⟨cells', k1, k2⟩ := fin (place := fun i => (fs.map fun f => (f.offset, P.cellsOf f.type))[i]?) g1 (fun j p q hp hq => by
        have := g2 j p q hp hq
        simp only [Bool.and_eq_true] at this
        obtain ⟨e1, e2⟩ := this
        refine ⟨e1, ?_⟩
        split at e2
        · rename_i f hf'
          simp only [Bool.and_eq_true, beq_iff_eq] at e2
          obtain ⟨ti, hti, hsz⟩ := elemIs_spec e2.2
          rw [Array.getElem?_map, hf', Option.map_some]
          simp [Program.cellsOf, hti, hsz, e2.1]
        · cases e2)
      refine fin2 (cells' := cells') ?_ k2
      unfold Instr.build
      simp only [Sem.run_bind, hrun, Result.andThen_ok, run_underlying hd1, run_mapM_sizes h3, k1, Sem.run_pure]
    · rename_i n e hd1
      simp only [Bool.and_eq_true] at h2
      obtain ⟨⟨h3, h4⟩, h5⟩ := h2
      obtain ⟨ti, hti⟩ := Option.isSome_iff_exists.1 h5
      obtain ⟨g1, g2⟩ := all2_iff h3
      obtain ⟨cells', k1, k2⟩ := fin (place := fun i => some (i * ti.size, ti.size)) g1 (fun j p q hp hq => by
        have := g2 j p q hp hq
        simp only [Bool.and_eq_true, beq_iff_eq] at this
        obtain ⟨⟨e1, e2⟩, e3⟩ := this
        obtain ⟨ti', hti', hsz⟩ := elemIs_spec e3
        rw [hti] at hti'
        injection hti' with hti'
        subst hti'
        exact ⟨e1, by rw [e2, hsz]⟩)
      refine fin2 (cells' := cells') ?_ k2
      unfold Instr.build
      simp only [Sem.run_bind, hrun, Result.andThen_ok, run_underlying hd1, run_sizeOf' hti, k1, Sem.run_pure]
    · cases h2
  · cases hm

/-- Filling a row from end to end. -/
theorem fill_dense {size : Nat} : ∀ (vs : List Value) (k : Nat) (pre rest : List Value), (∀ v ∈ vs, v.cells.size = size) → pre.length = k * size → rest.length = vs.length * size →
    Instr.fill (fun i => some (i * size, size)) (pre ++ rest).toArray ((List.range' k vs.length).zip vs) = some (pre ++ vs.flatMap (fun v => v.cells.toList)).toArray
  | [], k, pre, rest, _, _, hr => by
    have : rest = [] := List.eq_nil_of_length_eq_zero (by simpa using hr)
    subst this
    simp [Instr.fill]
  | v :: vs, k, pre, rest, hv, hp, hr => by
    have h1 := hv v (List.mem_cons_self ..)
    have hlen : size ≤ rest.length := by rw [hr, List.length_cons, Nat.add_mul]; omega
    simp only [List.length_cons, List.range'_succ, List.zip_cons_cons, Instr.fill]
    rw [if_neg (by simp only [h1, Bool.or_eq_true, decide_eq_true_eq, not_or]; simp; omega)]
    have hfold := fold_set (k * size) v.cells.toList 0 (pre ++ rest).toArray (by simp; omega)
    simp only [Nat.add_zero, Array.length_toList, List.toList_toArray] at hfold
    have hfold' : (v.cells.zipIdx.foldl (fun cs (q : Value × Nat) => cs.setIfInBounds (k * size + q.2) q.1) (pre ++ rest).toArray) = ((pre ++ v.cells.toList) ++ rest.drop size).toArray := by
      apply Array.ext'
      rw [← Array.foldl_toList, Array.toList_zipIdx]
      rw [hfold, ← hp, List.take_left, List.drop_append, h1]
      simp
    have ih := fill_dense vs (k + 1) (pre ++ v.cells.toList) (rest.drop size) (fun u hu => hv u (List.mem_cons_of_mem _ hu)) (by simp [hp, h1, Nat.add_mul]) (by rw [List.length_drop, hr, List.length_cons, Nat.add_mul]; omega)
    have : (List.foldl (fun cs (q : Value × Nat) => cs.setIfInBounds (k * size + q.2) q.1) (pre ++ rest).toArray v.cells.zipIdx.toList) = ((pre ++ v.cells.toList) ++ rest.drop size).toArray := by
      rw [Array.foldl_toList]; exact hfold'
    simp only [List.flatMap_cons]
    rw [← List.append_assoc, ← ih]
    congr 1

/-! ### A row of what was taken -/
/-- Of a thing that was taken: it goes to T. -/
theorem Held.goes {w' : World} {home' : Home} (old : RtR w home hd rt F) {m : Nat} {ow : Ow} {c : C} {v : Value} (h : Held w home hd F m ow c v) {T : Tg}
    (himm : ∀ b, b < w.heap.size → home b = none → w'.heap[b]? = w.heap[b]? ∧ home' b = none)
    (hT : ∀ q b, b < w.heap.size → home b = some (.t m, q) → w'.heap[b]? = w.heap[b]? ∧ home' b = (T.exts q).lab)
    (hok : T = .imm ∨ ((∃ l p, T = .own l p) ∧ okDeep (ow, c) = true)) : CR w' home' T c v := by
  rcases h with ⟨rfl, hc⟩ | ⟨hne, hF, hv, hone⟩
  · rcases hok with rfl | ⟨_, hd'⟩
    · exact hc.move (fun q b hb hl => by rw [Tg.exts_imm] at hl ⊢; exact himm b hb hl) (Ok.imm _)
    · simp only [okDeep, Bool.or_eq_true, decide_eq_true_eq, reduceCtorEq, or_false] at hd'
      cases c <;> simp only [C.isVal, Bool.false_eq_true] at hd'
      cases hc with
      | val h => exact .val h
  · subst hv
    have hroot : CR w home (arrTg (decide (ow = .deep)) (.t m)) c (hd (.t m)) := old.root (.t m) _ hF
    by_cases hval : c.isVal = true
    · cases c <;> simp only [C.isVal, Bool.false_eq_true] at hval
      cases hroot with
      | val h => exact .val h
    · have hcase : T = .imm ∨ ((∃ l p, T = .own l p) ∧ ow = .deep) := by
        rcases hok with h | ⟨h1, h2⟩
        · exact Or.inl h
        · simp only [okDeep, Bool.or_eq_true, decide_eq_true_eq] at h2
          exact Or.inr ⟨h1, h2.resolve_left hval⟩
      rcases hcase with rfl | ⟨⟨l, p, rfl⟩, rfl⟩
      · refine hroot.move (fun q b hb hl => ?_) (Ok.imm _)
        rw [Tg.exts_imm]
        rcases arrTg_exts (decide (ow = .deep)) (.t m) q with h1 | h1
        · exact himm b hb (hl.trans h1)
        · have := hT q b hb (hl.trans h1)
          rw [Tg.exts_imm] at this; exact this
      · simp only [decide_true] at hroot
        refine hroot.move (fun q b hb hl => ?_) (Ok.own _ _ _)
        rw [exts_true_own] at hl
        exact hT q b hb hl
/-- Cells of a row of elements, one behind the other. -/
theorem flat_get {α : Type} {sz : Nat} : ∀ {l : List (List α)} {i j : Nat} {e : List α} {x : α}, (∀ e ∈ l, e.length = sz) → l[i]? = some e → e[j]? = some x → l.flatten[i * sz + j]? = some x
  | [], i, j, e, x, _, h, _ => by simp at h
  | e0 :: l, i, j, e, x, hl, hi, hj => by
    have h0 := hl e0 (List.mem_cons_self ..)
    rw [List.flatten_cons]
    cases i with
    | zero =>
      simp only [List.getElem?_cons_zero, Option.some.injEq] at hi
      subst hi
      rw [Nat.zero_mul, Nat.zero_add, List.getElem?_append_left (List.getElem?_eq_some_iff.1 hj).1]
      exact hj
    | succ i =>
      simp only [List.getElem?_cons_succ] at hi
      have := flat_get (fun e he => hl e (List.mem_cons_of_mem _ he)) hi hj
      rw [Nat.add_mul, Nat.one_mul, List.getElem?_append_right (by omega), h0, show i * sz + sz + j - sz = i * sz + j by omega]
      exact this
theorem flat_len {α : Type} {sz : Nat} : ∀ {l : List (List α)}, (∀ e ∈ l, e.length = sz) → l.flatten.length = l.length * sz
  | [], _ => by simp
  | e :: l, h => by
    rw [List.flatten_cons, List.length_append, h e (List.mem_cons_self ..), flat_len (fun e he => h e (List.mem_cons_of_mem _ he)), List.length_cons, Nat.add_mul]
    omega
/-- A new block with a row of elements. -/
theorem Hdr.new {w' : World} {home' : Home} {t : Tg} {lb : Lb × Path} (ht : t.lab = some lb) {B n cap sz e : Nat} {cur : Array Value} (h0 : 0 < sz) (hc : n ≤ cap) (hm : cap ≤ maxLen) (hb : home' B = some lb) (hg : w'.heap[B]? = some (.cells cur e (0, 0))) (hs : cur.size = cap * sz) {vs : Nat → Nat → Value}
    (hv : ∀ i j, i < n → j < sz → cur[i * sz + j]? = some (vs i j)) : Hdr w' home' t (.slice (some ⟨B, 0, none⟩) n cap) n n sz vs := by
  refine ⟨h0, Nat.le_refl _, some ⟨B, 0, none⟩, cap, rfl, hc, hm, ?_⟩
  rw [ht]
  exact Or.inr ⟨B, cur, e, rfl, hb, hg, hs, hv⟩
theorem takesL_flat : ∀ {xs : List (List SV)} {rt rt' : Rts} {l : List (List (Ow × C))}, takesL rt xs = some (l, rt') → takes rt xs.flatten = some (l.flatten, rt') ∧ l.length = xs.length ∧ ∀ (i : Nat) x y, xs[i]? = some x → l[i]? = some y → y.length = x.length
  | [], rt, rt', l, h => by
    simp only [takesL, Option.some.injEq, Prod.mk.injEq] at h
    obtain ⟨rfl, rfl⟩ := h
    exact ⟨rfl, rfl, fun i x y hx => by simp at hx⟩
  | x :: xs, rt, rt', l, h => by
    simp only [takesL] at h
    split at h
    · rename_i l1 rt1 h1
      split at h
      · rename_i ls rt2 h2
        simp only [Option.some.injEq, Prod.mk.injEq] at h
        obtain ⟨rfl, rfl⟩ := h
        obtain ⟨g1, g2, g3⟩ := takesL_flat h2
        have app : ∀ (as : List SV) {bs : List SV} {rt0 rt1 rt2 : Rts} {la lb : List (Ow × C)}, takes rt0 as = some (la, rt1) → takes rt1 bs = some (lb, rt2) → takes rt0 (as ++ bs) = some (la ++ lb, rt2) ∧ la.length = as.length := by
          intro as
          induction as with
          | nil =>
            intro bs rt0 rt1 rt2 la lb h1 h2
            simp only [takes, Option.some.injEq, Prod.mk.injEq] at h1
            obtain ⟨rfl, rfl⟩ := h1
            exact ⟨h2, rfl⟩
          | cons a as ih =>
            intro bs rt0 rt1 rt2 la lb h1 h2
            simp only [takes] at h1
            split at h1
            · rename_i o c rtm hm
              split at h1
              · rename_i l' rtn hn
                simp only [Option.some.injEq, Prod.mk.injEq] at h1
                obtain ⟨rfl, rfl⟩ := h1
                obtain ⟨e1, e2⟩ := ih hn h2
                exact ⟨by simp only [List.cons_append, takes, hm, e1], by simp [e2]⟩
              · cases h1
            · cases h1
        obtain ⟨e1, e2⟩ := app x h1 g1
        refine ⟨by rw [List.flatten_cons, List.flatten_cons]; exact e1, by simp [g2], fun i x' y' hx hy => ?_⟩
        cases i with
        | zero => simp at hx hy; subst hx hy; exact e2
        | succ i => simp at hx hy; exact g3 i x' y' hx hy
      · cases h
    · cases h
theorem idx_div {i j sz : Nat} (h : j < sz) : (i * sz + j) / sz = i := by
  rw [Nat.add_comm, Nat.add_mul_div_right _ _ (by omega), Nat.div_eq_of_lt h, Nat.zero_add]
theorem idx_mod {i j sz : Nat} (h : j < sz) : (i * sz + j) % sz = j := by
  rw [Nat.add_comm, Nat.add_mul_mod_self_right, Nat.mod_eq_of_lt h]
theorem Held.val (old : RtR w home hd rt F) {m : Nat} {ow : Ow} {u v : Value} (h : Held w home hd F m ow (.val u) v) : v = u ∧ u.oneCell' = true := by
  rcases h with ⟨_, hc⟩ | ⟨_, hF, hv, _⟩
  · cases hc with
    | val h => exact ⟨rfl, h⟩
  · have hroot : CR w home (arrTg (decide (ow = .deep)) (.t m)) (.val u) (hd (.t m)) := old.root (.t m) _ hF
    generalize hd (.t m) = x at hroot hv
    subst hv
    cases hroot with
    | val h => exact ⟨rfl, h⟩
theorem asm_imm {k0 id B : Nat} {g : Nat → Path → Option Path} {w' : World} (hB : ∀ b, b < w.heap.size → home b = none → b ≠ B) (hblk : ∀ b, b < w.heap.size → b ≠ B → w'.heap[b]? = w.heap[b]?) :
    ∀ b, b < w.heap.size → home b = none → w'.heap[b]? = w.heap[b]? ∧ asmHome home k0 id (some B) g b = none := fun b hb h =>
  ⟨hblk b hb (hB b hb h), asmHome_none (by simp [hB b hb h]) h⟩
/-- A row of elements with rows in them. -/
theorem row_new (old : RtR w home hd rt F) {sz : Nat} (h0 : 0 < sz) {es : List (List (Ow × C))} {vs : List Value} (hlen : vs.length = es.flatten.length) (hsz : ∀ e ∈ es, e.length = sz)
    (held : ∀ m q v, es.flatten[m]? = some q → vs[m]? = some v → Held w home hd F m q.1 q.2 v) {id : Nat} (hid : rt id = none) (h64 : 64000 ≤ id) {d : Bool} (hd' : d = true → ∀ e ∈ es, ∀ q ∈ e, okDeep q = true) (hn : es.length ≤ maxLen) (e : TypeId) :
    ∃ home' hd2, Step w home hd rt F (w.alloc (.cells vs.toArray e)) home' hd2 (upd rt id (.arr d false (.sl sz (es.map (·.map (·.2))) []))) F0 ∧ hd2 (.r id) = .slice (some ⟨w.heap.size, 0, none⟩) es.length es.length := by
  let g : Nat → Path → Option Path := fun m q => if d then some ((m / sz, m % sz) :: q) else none
  have hblk : ∀ b, b < w.heap.size → (w.alloc (.cells vs.toArray e)).heap[b]? = w.heap[b]? := fun b hb => heap_alloc_old w _ b hb
  have himm := asm_imm (w' := w.alloc (.cells vs.toArray e)) (home := home) (k0 := 0) (id := id) (g := g) (B := w.heap.size) (fun b hb _ => by omega) (fun b hb _ => hblk b hb)
  have hfl : es.flatten.length = es.length * sz := flat_len hsz
  have hc : CR (w.alloc (.cells vs.toArray e)) (asmHome home 0 id (some w.heap.size) g) (arrTg d (.r id)) (.sl sz (es.map (·.map (·.2))) []) (.slice (some ⟨w.heap.size, 0, none⟩) es.length es.length) := by
    refine .sl (fun i j => vs.getD (i * sz + j) undef) (fun e' he' => ?_) ?_ (fun i j e' c h1 h2 => ?_)
    · simp only [List.append_nil, List.mem_map] at he'
      obtain ⟨e0, h1, rfl⟩ := he'
      rw [List.length_map]; exact hsz e0 h1
    · simp only [List.length_map, List.length_nil, Nat.add_zero]
      have hlab : (arrTg d (.r id)).lab = some (.r id, []) := by cases d <;> rfl
      refine Hdr.new hlab h0 (Nat.le_refl _) hn asmHome_B (heap_alloc_new w _) (by simp [hlen, hfl]) (fun i j hi hj => ?_)
      have hlt : i * sz + j < vs.length := by
        rw [hlen, hfl]
        have : (i + 1) * sz ≤ es.length * sz := Nat.mul_le_mul_right _ hi
        rw [Nat.add_mul] at this; omega
      simp [List.getD_eq_getElem?_getD, List.getElem?_eq_getElem hlt]
    · rw [List.append_nil, List.getElem?_map, Option.map_eq_some_iff] at h1
      obtain ⟨e0, h3, rfl⟩ := h1
      rw [List.getElem?_map, Option.map_eq_some_iff] at h2
      obtain ⟨q, h4, rfl⟩ := h2
      have hmem := List.mem_of_getElem? h3
      have hj : j < sz := by rw [← hsz e0 hmem]; exact (List.getElem?_eq_some_iff.1 h4).1
      have hflat := flat_get hsz h3 h4
      have hlt : i * sz + j < vs.length := by rw [hlen]; exact (List.getElem?_eq_some_iff.1 hflat).1
      have hv : vs.getD (i * sz + j) undef = vs[i * sz + j] := by simp [List.getD_eq_getElem?_getD, List.getElem?_eq_getElem hlt]
      show CR _ _ _ _ (vs.getD (i * sz + j) undef)
      rw [hv]
      refine Held.goes old (held _ q _ hflat (List.getElem?_eq_getElem hlt)) himm (fun q' b hb hl => ⟨hblk b hb, ?_⟩) ?_
      · rw [asmHome_t (by simp; omega) hl (Nat.zero_le _)]
        cases d with
        | true => simp [g, idx_div hj, idx_mod hj, arrTg, Tg.ext, Tg.exts_own, Tg.lab]
        | false => simp [g, arrTg, Tg.ext, Tg.exts_imm, Tg.lab]
      · cases d with
        | true => exact Or.inr ⟨⟨_, _, rfl⟩, hd' rfl e0 hmem q (List.mem_of_getElem? h4)⟩
        | false => exact Or.inl rfl
  have hs := assemble (w' := w.alloc (.cells vs.toArray e)) old hid h64 (k0 := 0) (B := some w.heap.size) g (fun b hb => by injection hb with hb; subst hb; exact ⟨by simp, fun h => by omega⟩) (fun b hb _ => hblk b hb) rfl rfl rfl (by simp) hc
  have : asmF F 0 = F0 := by funext j; simp [asmF, F0]
  rw [this] at hs
  exact ⟨_, _, hs, updL_same _ _ _⟩
/-- A row of elements that are scalars all through. -/
theorem row_flat (old : RtR w home hd rt F) {w' : World} {sz : Nat} (h0 : 0 < sz) {es : List (List Value)} {cap : Nat} {cur : Array Value} (hsz : ∀ e ∈ es, e.length = sz) (hone : ∀ e ∈ es, ∀ v ∈ e, v.oneCell' = true)
    {id : Nat} (hid : rt id = none) (h64 : 64000 ≤ id) (hn : es.length ≤ cap) (hcm : cap ≤ maxLen) {e : TypeId} (hblk : ∀ b, b < w.heap.size → w'.heap[b]? = w.heap[b]?)
    (hg : w'.heap[w.heap.size]? = some (.cells cur e (0, 0))) (hs : cur.size = cap * sz) (hcur : ∀ (m : Nat) v, es.flatten[m]? = some v → cur[m]? = some v)
    (os : w'.os = w.os) (tape : w'.tape = w.tape) (output : w'.output = w.output) :
    ∃ home' hd2, Step w home hd rt F w' home' hd2 (upd rt id (.arr true false (.fl sz es []))) F0 ∧ hd2 (.r id) = .slice (some ⟨w.heap.size, 0, none⟩) es.length cap := by
  have hsize : w.heap.size < w'.heap.size := heap_lt hg
  have hc : CR w' (asmHome home 0 id (some w.heap.size) (fun _ _ => none)) (arrTg true (.r id)) (.fl sz es []) (.slice (some ⟨w.heap.size, 0, none⟩) es.length cap) := by
    refine .fl (fun e' he' => ?_) ?_
    · rw [List.append_nil] at he'; exact ⟨hsz e' he', hone e' he'⟩
    · rw [List.length_nil, Nat.add_zero, List.append_nil]
      refine Hdr.new (t := arrTg true (.r id)) rfl h0 hn hcm asmHome_B hg hs (fun i j hi hj => ?_)
      have h1 : es[i]? = some es[i] := List.getElem?_eq_getElem hi
      have h2 : j < (es[i]).length := by rw [hsz _ (List.getElem_mem hi)]; exact hj
      have h3 := flat_get hsz h1 (List.getElem?_eq_getElem h2)
      rw [hcur _ _ h3]
      simp [List.getD_eq_getElem?_getD, h1, List.getElem?_eq_getElem h2]
  have hst := assemble (w' := w') old hid h64 (k0 := 0) (B := some w.heap.size) (fun _ _ => none) (fun b hb => by injection hb with hb; subst hb; exact ⟨hsize, fun h => by omega⟩) (fun b hb _ => hblk b hb) os tape output (by omega) hc
  have : asmF F 0 = F0 := by funext j; simp [asmF, F0]
  rw [this] at hst
  exact ⟨_, _, hst, updL_same _ _ _⟩
/-- A reference to a new row. -/
theorem new_ref {id : Nat} {d : Bool} {c : C} {hd2 : Lb → Value} {a0 : Option Addr} {m cap n : Nat} (hh : hd2 (.r id) = .slice a0 m cap) (hn : n ≤ cap) : SVR w home hd2 (upd rt id (.arr d false c)) (.ref id [] 0 n) (.slice a0 n cap) := by
  refine ⟨⟨_, _, rfl⟩, fun d1 t1 c1 hr _ c' u hg hu sz m2 tot hsh => ?_⟩
  rw [updF_same] at hr
  injection hr with hr
  injection hr with e1 e2 e3
  subst e1 e2 e3
  have e1 : c.get [] = some c := by cases c <;> rfl
  rw [e1] at hg; injection hg with hg; subst hg
  have e2 : ∀ c (u : Value), hdAt w c u [] = some u := fun c u => by cases c <;> rfl
  rw [e2, hh] at hu; injection hu with hu; subst hu
  exact Part.self sz hn
theorem bsEs_spec {k : K} {es : List (List (Ow × C))} {d : Bool} {c : C} (h : bsEs k es = some (d, c)) : (∀ e ∈ es, e.length = k.sz) ∧
    ((∃ sz es', k = .fl sz ∧ mapO (fun e => vals (e.map (·.2))) es = some es' ∧ d = true ∧ c = .fl sz es' []) ∨
     (∃ sz, k = .sl sz ∧ d = es.all (·.all okDeep) ∧ c = .sl sz (es.map (·.map (·.2))) [])) := by
  cases k with
  | fl sz =>
    simp only [bsEs] at h
    split at h
    · rename_i hs
      simp only [List.all_eq_true, beq_iff_eq] at hs
      rw [Option.map_eq_some_iff] at h
      obtain ⟨es', h1, h2⟩ := h
      injection h2 with h2 h3
      exact ⟨hs, Or.inl ⟨sz, es', rfl, h1, h2.symm, h3.symm⟩⟩
    · cases h
  | sl sz =>
    simp only [bsEs] at h
    split at h
    · rename_i hs
      simp only [List.all_eq_true, beq_iff_eq] at hs
      injection h with h
      injection h with h2 h3
      exact ⟨hs, Or.inr ⟨sz, rfl, h2.symm, h3.symm⟩⟩
    · cases h
theorem vals_spec : ∀ {cs : List C} {vs : List Value}, vals cs = some vs → cs = vs.map .val
  | [], vs, h => by simp only [vals, Option.some.injEq] at h; subst h; rfl
  | .val v :: cs, vs, h => by
    simp only [vals] at h
    split at h
    · rename_i vs' h1
      injection h with h
      subst h
      rw [vals_spec h1]; rfl
    · cases h
  | .fl _ _ _ :: _, _, h => by cases h
  | .sl _ _ _ :: _, _, h => by cases h
  | .hole :: _, _, h => by cases h
theorem F2.flatten {α β : Type} {R : α → β → Prop} : ∀ {xs : List (List α)} {ys : List (List β)}, xs.length = ys.length → (∀ (i : Nat) x y, xs[i]? = some x → ys[i]? = some y → F2 R x y) → F2 R xs.flatten ys.flatten
  | [], [], _, _ => ⟨rfl, fun i x y hx => by simp at hx⟩
  | [], _ :: _, h, _ => by simp at h
  | _ :: _, [], h, _ => by simp at h
  | x :: xs, y :: ys, h, hr => by
    rw [List.flatten_cons, List.flatten_cons]
    exact (hr 0 x y rfl rfl).append (F2.flatten (by simpa using h) (fun i x' y' hx hy => hr (i + 1) x' y' hx hy))
theorem mBs_spec {k : K} {parts : List Opd} (h : mBs ids P o.op k parts = true) : ∃ t e ti zv ps, o.op = .buildSlice t parts.length ps ∧ P.underlying t = some (.slice e) ∧ P.info? e = some ti ∧ ti.size = k.sz ∧ ti.zero = some zv ∧ parts.length * k.sz ≤ 2 ^ 24 ∧ 0 < k.sz ∧
    ps.toList.length = parts.length ∧ (∀ (i : Nat) p q, ps.toList[i]? = some p → parts[i]? = some q → mOpd ids p.2 q = true) ∧ ps.toList.map (·.1) = List.range parts.length := by
  unfold mBs at h
  split at h
  · rename_i t len ps ho
    simp only [Bool.and_eq_true, decide_eq_true_eq] at h
    obtain ⟨⟨⟨⟨⟨⟨rfl, h1⟩, h2⟩, h3⟩, h4⟩, h5⟩, h6⟩ := h
    obtain ⟨d, hd1, hd2⟩ := under_spec h3
    obtain ⟨e, ti, rfl, hti, hsz⟩ := isSliceT_spec hd2
    rw [hd1] at h6
    simp only [hti] at h6
    obtain ⟨zv, hz⟩ := Option.isSome_iff_exists.1 h6
    obtain ⟨g1, g2⟩ := all2_iff h4
    exact ⟨t, e, ti, zv, ps, ho, hd1, hti, hsz, hz, h1, h2, g1, g2, h5⟩
  · cases h
theorem zip_of {ps : List (Nat × Operand)} {n : Nat} (f : Operand → Value) (h : ps.map (·.1) = List.range n) : (ps.map fun (i, x) => (i, f x)) = (List.range' 0 (ps.map (fun p => f p.2)).length).zip (ps.map (fun p => f p.2)) := by
  have hn : ps.length = n := by have := congrArg List.length h; simpa using this
  apply List.ext_getElem?
  intro i
  rw [List.getElem?_map]
  cases hi : ps[i]? with
  | none =>
    rw [List.getElem?_eq_none_iff] at hi
    symm
    rw [Option.map_none, List.getElem?_eq_none_iff]
    simp; omega
  | some p =>
    have hlt := (List.getElem?_eq_some_iff.1 hi).1
    have h1 : (ps.map (·.1))[i]? = some p.1 := by rw [List.getElem?_map, hi]; rfl
    rw [h, List.getElem?_range (by omega)] at h1
    injection h1 with h1
    have h2 : (List.range' 0 (ps.map (fun p => f p.2)).length)[i]? = some i := by rw [List.getElem?_range' (by simpa using hlt)]; simp
    have h3 : (ps.map (fun p => f p.2))[i]? = some (f p.2) := by rw [List.getElem?_map, hi]; rfl
    have h4 : ((List.range' 0 (ps.map (fun p => f p.2)).length).zip (ps.map (fun p => f p.2)))[i]? = some (i, f p.2) := List.getElem?_zip_eq_some.2 ⟨h2, h3⟩
    rw [Option.map_some, h4, h1]
theorem ok_bs (old : RtR w home hd rt F0) (he : EvR ids w home hd rt ev a.eval) {k : K} {parts : List Opd} (hm : mBs ids P o.op k parts = true) {l : List (List SV)} (hl : mapO (evC ev) parts = some l) {es : List (List (Ow × C))} {rt1 : Rts} (ht : takesL rt l = some (es, rt1))
    {d : Bool} {c : C} (hb : bsEs k es = some (d, c)) {id : Nat} (h : newRt rt1 id (.arr d false c) = some rt') : OpOk ids P o a w home hd rt (.sv (.ref id [] 0 parts.length)) rt' := by
  obtain ⟨t, e, ti, zv, ps, ho, hu, hti, hsz, hz, h24, hpos, hpl, hps, hidx⟩ := mBs_spec hm
  obtain ⟨m1, m2⟩ := mapO_spec hl
  obtain ⟨f1, f2, f3⟩ := takesL_flat ht
  obtain ⟨b1, b2⟩ := bsEs_spec hb
  obtain ⟨n1, n2, _, rfl⟩ := newRt_spec h
  -- the operands' cells
  let us : List Value := ps.toList.map (fun p => a.eval p.2)
  have hus : us.length = parts.length := by simp [us, hpl]
  have hcells : ∀ (i : Nat) x u, l[i]? = some x → us[i]? = some u → F2 (SVR w home hd rt) x u.cells.toList ∧ ∀ s ∈ x, ∀ i ∈ s.ids, (rt i).isSome = true := by
    intro i x u hx hu'
    simp only [us, List.getElem?_map, Option.map_eq_some_iff] at hu'
    obtain ⟨p, hp, rfl⟩ := hu'
    have hlt : i < parts.length := by rw [m1]; exact (List.getElem?_eq_some_iff.1 hx).1
    exact he.C (hps i p _ hp (List.getElem?_eq_getElem hlt)) (m2 i _ x (List.getElem?_eq_getElem hlt) hx)
  have hflat : F2 (SVR w home hd rt) l.flatten (us.flatMap (fun u => u.cells.toList)) := by
    rw [List.flatMap_def]
    refine F2.flatten (by simp [us, hpl, m1]) (fun i x y hx hy => ?_)
    rw [List.getElem?_map, Option.map_eq_some_iff] at hy
    obtain ⟨u, hu', rfl⟩ := hy
    exact (hcells i x u hx hu').1
  have hpres : ∀ x ∈ l.flatten, ∀ i ∈ x.ids, (rt i).isSome = true := by
    intro x hx
    rw [List.mem_flatten] at hx
    obtain ⟨y, hy, hxy⟩ := hx
    obtain ⟨i, hi⟩ := List.getElem?_of_mem hy
    have hlt : i < us.length := by rw [hus, m1]; exact (List.getElem?_eq_some_iff.1 hi).1
    exact (hcells i y _ hi (List.getElem?_eq_getElem hlt)).2 x hxy
  obtain ⟨home1, hd1, F1, s1, _, fn, _, _, l1, held⟩ := takes_step l.flatten (k := 0) old hflat hpres (fun _ _ => rfl) f1
  -- sizes
  have hesl : es.length = parts.length := by rw [f2, m1]
  have husz : ∀ u ∈ us, u.cells.size = ti.size := by
    intro u hu'
    obtain ⟨i, hi⟩ := List.getElem?_of_mem hu'
    have hlt : i < l.length := by rw [← m1, ← hus]; exact (List.getElem?_eq_some_iff.1 hi).1
    have hlt2 : i < es.length := by rw [f2]; exact hlt
    have g1 := (hcells i _ u (List.getElem?_eq_getElem hlt) hi).1.1
    have g2 := f3 i _ _ (List.getElem?_eq_getElem hlt) (List.getElem?_eq_getElem hlt2)
    have g3 := b1 _ (List.getElem_mem hlt2)
    rw [hsz, ← g3, g2, g1]; simp
  -- the machine's step
  let vs : List Value := us.flatMap (fun u => u.cells.toList)
  have hvl : vs.length = parts.length * ti.size := by
    have : ∀ (us : List Value), (∀ u ∈ us, u.cells.size = ti.size) → (us.flatMap (fun u => u.cells.toList)).length = us.length * ti.size := by
      intro us
      induction us with
      | nil => intro _; simp
      | cons u us ih =>
        intro hh
        rw [List.flatMap_cons, List.length_append, ih (fun x hx => hh x (List.mem_cons_of_mem _ hx)), List.length_cons, Nat.add_mul, Array.length_toList, hh u (List.mem_cons_self ..)]
        omega
    rw [this us husz, hus]
  have hrun : (execOp a.eval o).run P w = .ok (.value (.slice (some ⟨w.heap.size, 0, none⟩) parts.length parts.length)) (w.alloc (.cells vs.toArray e)) := by
    unfold execOp
    rw [ho]
    have hfill : ∀ (z0 : Array Value), Instr.fill (fun i => some (i * ti.size, ti.size)) ((Array.range (parts.length * ti.size)).map (z0[· % z0.size]!)) (ps.map fun (i, x) => (i, a.eval x)).toList = some vs.toArray := by
      intro z0
      rw [Array.toList_map, zip_of a.eval hidx]
      generalize hZ : (Array.range (parts.length * ti.size)).map (z0[· % z0.size]!) = Z
      have hZs : Z.toList.length = us.length * ti.size := by rw [← hZ]; simp [hus]
      have := fill_dense (size := ti.size) us 0 [] Z.toList husz (by simp) hZs
      simp only [List.nil_append, Array.toArray_toList] at this
      exact this
    have h24' : ¬ (parts.length * ti.size > 2 ^ 24) := by rw [hsz]; omega
    unfold Instr.buildSlice
    simp only [Sem.run_bind, run_underlying hu, Result.andThen_ok, run_sizeOf' hti]
    rw [if_neg h24']
    by_cases hz0 : parts.length * ti.size = 0
    · simp only [hz0, if_true, Sem.run_bind, Sem.run_pure, Result.andThen_ok]
      have hf0 := hfill #[]
      rw [hz0] at hf0
      simp only [hf0, Sem.run_bind, pointer_new, Result.andThen_ok, Sem.run_pure]
    · have hzv : (zeroValue e).run P w = .ok zv w := by simp [zeroValue, run_typeInfo w hti, hz]
      simp only [hz0, if_false, Sem.run_bind, hzv, Sem.run_pure, Result.andThen_ok, hfill, pointer_new]
  have hml : es.length ≤ maxLen := by
    have : parts.length ≤ parts.length * k.sz := Nat.le_mul_of_pos_right _ hpos
    unfold maxLen; omega
  have hheld : ∀ m q v, es.flatten[m]? = some q → vs[m]? = some v → Held w home1 hd1 F1 m q.1 q.2 v := fun m q v hq hv => by
    have := (held m q v hq hv).1
    rwa [Nat.zero_add] at this
  have hvs : vs.length = es.flatten.length := by rw [l1]; exact hflat.1.symm
  rcases b2 with ⟨sz, es', rfl, g1, rfl, rfl⟩ | ⟨sz, rfl, rfl, rfl⟩
  · obtain ⟨q1, q2⟩ := mapO_spec g1
    have hes' : ∀ (i : Nat) e0 e1, es[i]? = some e0 → es'[i]? = some e1 → e0.map (·.2) = e1.map .val := fun i e0 e1 h1 h2 => vals_spec (q2 i e0 e1 h1 h2)
    have hl' : ∀ e1 ∈ es', e1.length = sz := by
      intro e1 he1
      obtain ⟨i, hi⟩ := List.getElem?_of_mem he1
      have hlt : i < es.length := by rw [q1]; exact (List.getElem?_eq_some_iff.1 hi).1
      have := congrArg List.length (hes' i _ e1 (List.getElem?_eq_getElem hlt) hi)
      simp only [List.length_map] at this
      rw [← this]; exact b1 _ (List.getElem_mem hlt)
    have hval : ∀ (i j : Nat) e1 v, es'[i]? = some e1 → e1[j]? = some v → vs[i * sz + j]? = some v ∧ v.oneCell' = true := by
      intro i j e1 v h1 h2
      have hlt : i < es.length := by rw [q1]; exact (List.getElem?_eq_some_iff.1 h1).1
      have hm0 := hes' i _ e1 (List.getElem?_eq_getElem hlt) h1
      have hj : (es[i].map (·.2))[j]? = some (.val v) := by rw [hm0, List.getElem?_map, h2]; rfl
      rw [List.getElem?_map, Option.map_eq_some_iff] at hj
      obtain ⟨q, hq1, hq2⟩ := hj
      have hfg := flat_get b1 (List.getElem?_eq_getElem hlt) hq1
      have hlt3 : i * sz + j < vs.length := by rw [hvs]; exact (List.getElem?_eq_some_iff.1 hfg).1
      have := hheld _ q _ hfg (List.getElem?_eq_getElem hlt3)
      rw [hq2] at this
      obtain ⟨r1, r2⟩ := this.val s1.rel
      exact ⟨by rw [List.getElem?_eq_getElem hlt3, r1], r2⟩
    have hone : ∀ e1 ∈ es', ∀ v ∈ e1, v.oneCell' = true := by
      intro e1 he1 v hv
      obtain ⟨i, hi⟩ := List.getElem?_of_mem he1
      obtain ⟨j, hj⟩ := List.getElem?_of_mem hv
      exact (hval i j e1 v hi hj).2
    have hfl : ∀ (m : Nat) v, es'.flatten[m]? = some v → vs.toArray[m]? = some v := by
      intro m v hv
      have hlt := (List.getElem?_eq_some_iff.1 hv).1
      rw [flat_len hl'] at hlt
      have hi : m / sz < es'.length := (Nat.div_lt_iff_lt_mul hpos).2 hlt
      have hj : m % sz < (es'[m / sz]).length := by rw [hl' _ (List.getElem_mem hi)]; exact Nat.mod_lt _ hpos
      have h1 := flat_get hl' (List.getElem?_eq_getElem hi) (List.getElem?_eq_getElem hj)
      have hmm : m / sz * sz + m % sz = m := by rw [Nat.mul_comm]; exact Nat.div_add_mod m sz
      rw [hmm, hv] at h1
      injection h1 with h1
      have := (hval _ _ _ _ (List.getElem?_eq_getElem hi) (List.getElem?_eq_getElem hj)).1
      rw [hmm, ← h1] at this
      simpa using this
    obtain ⟨home2, hd2, s2, hh⟩ := row_flat s1.rel (w' := w.alloc (.cells vs.toArray e)) hpos (cap := es'.length) (cur := vs.toArray) hl' hone n1 n2 (Nat.le_refl _) (by rw [← q1]; exact hml) (e := e) (fun b hb => heap_alloc_old w _ b hb) (heap_alloc_new w _)
      (by simp [hvl, hsz, K.sz, ← q1, hesl]) hfl rfl rfl rfl
    refine .value hrun (s1.trans s2) ?_
    rw [← q1, hesl] at hh
    exact new_ref (home := home2) hh (Nat.le_refl _)
  · obtain ⟨home2, hd2, s2, hh⟩ := row_new s1.rel hpos (es := es) (vs := vs) hvs b1 hheld n1 n2 (d := es.all (·.all okDeep)) (fun hd0 e0 he0 q hq => by
      simp only [List.all_eq_true] at hd0; exact hd0 e0 he0 q hq) hml e
    refine .value hrun (s1.trans s2) ?_
    rw [hesl] at hh
    exact new_ref (home := home2) hh (Nat.le_refl _)
end
end Go.Proofs.YtecmolmlojehgaaGreat.T
namespace Go.Proofs.YtecmolmlojehgaaGreat.T
open Go
variable (ids : Nat → FuncId)

section
variable {ids} {P : Program} {o : Oper} {a : Act} {w : World} {home : Home} {hd : Lb → Value} {rt rt' : Rts} {av : AV} {ev : Ev} {F : Nat → Option Root}
/-- A flat slice's cells, one behind the other. -/
def Flat (w : World) (v : Value) (sz : Nat) (es : List (List Value)) : Prop :=
  0 < sz ∧ (∀ e ∈ es, e.length = sz ∧ ∀ u ∈ e, u.oneCell' = true) ∧ ∃ ad cap, v = .slice ad es.length cap ∧ es.length ≤ cap ∧ cap ≤ maxLen ∧
    (0 < es.length → ∃ b o', ad = some ⟨b, o', none⟩ ∧ ∀ m u, es.flatten[m]? = some u → w.cell? ⟨b, o' + m, none⟩ = some u)
theorem flat_split {α : Type} {sz : Nat} (h0 : 0 < sz) {l : List (List α)} (hl : ∀ e ∈ l, e.length = sz) {m : Nat} {u : α} (h : l.flatten[m]? = some u) : ∃ e, l[m / sz]? = some e ∧ e[m % sz]? = some u ∧ m / sz < l.length ∧ m / sz * sz + m % sz = m := by
  have hlt := (List.getElem?_eq_some_iff.1 h).1
  rw [flat_len hl] at hlt
  have hi : m / sz < l.length := (Nat.div_lt_iff_lt_mul h0).2 hlt
  have hj : m % sz < (l[m / sz]).length := by rw [hl _ (List.getElem_mem hi)]; exact Nat.mod_lt _ h0
  have hmm : m / sz * sz + m % sz = m := by rw [Nat.mul_comm]; exact Nat.div_add_mod m sz
  have h1 := flat_get hl (List.getElem?_eq_getElem hi) (List.getElem?_eq_getElem hj)
  rw [hmm, h] at h1
  exact ⟨_, List.getElem?_eq_getElem hi, by rw [List.getElem?_eq_getElem hj, h1], hi, hmm⟩
/-- Of a row (its value u), a part v. -/
theorem flat_of_row {t : Tg} {sz : Nat} {es sp : List (List Value)} {u v : Value} {off n : Nat} (h : CR w home t (.fl sz es sp) u) (hp : Part u v sz off n) (hn : off + n ≤ es.length + sp.length) : Flat w v sz (((es ++ sp).drop off).take n) := by
  cases h with
  | fl he hh =>
    have hh0 := hh
    obtain ⟨h0, hlt, a0, cap, hu, htc, hcm, _⟩ := hh
    have hlen : (((es ++ sp).drop off).take n).length = n := by rw [List.length_take, List.length_drop, List.length_append]; omega
    have hmem : ∀ e ∈ ((es ++ sp).drop off).take n, e ∈ es ++ sp := fun e h => List.mem_of_mem_drop (List.mem_of_mem_take h)
    refine ⟨h0, fun e hm => he e (hmem e hm), ?_⟩
    obtain ⟨a1, m1, cap1, a', e1, hle, rfl, ha⟩ := hp
    rw [hu] at e1
    injection e1 with e1 e2 e3
    subst e1 e3
    rw [hlen]
    refine ⟨a', cap - off, rfl, by omega, by omega, fun hpos => ?_⟩
    obtain ⟨b, o', cap2, hu2, _, _, _⟩ := hh0.cell (i := off) (j := 0) (by omega) h0
    rw [hu] at hu2
    injection hu2 with hu2 _ _
    subst hu2
    refine ⟨b, o' + off * sz, by rw [ha (by omega), Option.map_some, addr_add], fun m x hx => ?_⟩
    obtain ⟨e, g1, g2, g3, g4⟩ := flat_split h0 (fun e hm => (he e (hmem e hm)).1) hx
    rw [hlen] at g3
    rw [List.getElem?_take, if_pos g3, List.getElem?_drop] at g1
    have hj : m % sz < sz := Nat.mod_lt _ h0
    obtain ⟨b3, o3, cap3, hu3, _, _, hv3⟩ := hh0.cell (i := off + m / sz) (j := m % sz) (by omega) hj
    rw [hu] at hu3
    injection hu3 with hu3 _ _
    injection hu3 with hu3
    injection hu3 with q1 q2
    subst q1 q2
    have hval : ((es ++ sp).getD (off + m / sz) []).getD (m % sz) undef = x := by simp [List.getD_eq_getElem?_getD, g1, g2]
    rw [hval] at hv3
    rw [← hv3]
    congr 2
    rw [Nat.add_mul]; omega
theorem cont_flat (old : RtR w home hd rt F) {x : SV} {v : Value} (h : SVR w home hd rt x v) {sz : Nat} {es sp : List (List Value)} (hc : cont rt x = some (.fl sz es sp)) : Flat w v sz es := by
  cases x with
  | c c =>
    cases c with
    | val u => cases hc
    | hole => cases hc
    | sl sz' es' sp' => simp [cont] at hc
    | fl sz' es' sp' =>
      simp only [cont, Option.some.injEq, C.fl.injEq] at hc
      obtain ⟨rfl, rfl, rfl⟩ := hc
      have h' : CR w home .imm (.fl sz' es' sp') v := h
      obtain ⟨vs, hh, _⟩ := h'.open rfl
      obtain ⟨_, _, ad, cap, rfl, hle, _, _⟩ := hh
      have := flat_of_row h' (Part.self (n := es'.length) (m := es'.length) sz' (by omega)) (by omega)
      simpa using this
  | nil k =>
    obtain ⟨rfl, hk⟩ := h
    cases k with
    | sl s => simp [cont, K.empty] at hc
    | fl s =>
      simp only [cont, K.empty, Option.some.injEq, C.fl.injEq] at hc
      obtain ⟨rfl, rfl, rfl⟩ := hc
      exact ⟨hk, fun e he => (List.not_mem_nil he).elim, none, 0, rfl, Nat.le_refl _, by unfold maxLen; omega, fun h => (Nat.lt_irrefl _ h).elim⟩
  | ref id p off len =>
    simp only [cont] at hc
    split at hc
    · rename_i d c' hra
      split at hc
      · rename_i sz' m tot hs
        split at hc
        · rename_i hle
          injection hc with hc
          obtain ⟨t, c, u, k1, k2, k3, k4, k5, k6⟩ := ref_open old h hra hs
          cases c' with
          | val u => cases hs
          | hole => cases hs
          | sl a1 b1 c1 => simp [C.sub] at hc
          | fl a1 b1 c1 =>
            simp only [C.shape, Option.some.injEq, Prod.mk.injEq] at hs
            obtain ⟨rfl, rfl, rfl⟩ := hs
            simp only [C.sub, C.fl.injEq] at hc
            obtain ⟨rfl, rfl, rfl⟩ := hc
            exact flat_of_row k5 k6 hle
        · cases hc
      · cases hc
    · cases hc
  | pb id off => cases hc
  | pe id p i off => cases hc
  | pm cs off => cases hc
end
/-- A zero element's cells. -/
def cOk : Value → C → Bool
  | .slice none 0 0, .fl sz [] [] => decide (0 < sz)
  | .slice none 0 0, .sl sz [] [] => decide (0 < sz)
  | v, .val u => beqV v u
  | _, _ => false
def mMks (P : Program) (o : Op) (k : K) (bytes : Nat) (zero : List C) (len cap : Opd) : Bool :=
  match o with
  | .makeSlice t l c => mOpd ids l len && mOpd ids c cap && under P t (isSliceT P k.sz) && decide (0 < k.sz) &&
    match P.underlying t with
    | some (.slice e) => match P.info? e with
      | some i => i.bytes == bytes && match i.zero with
        | some zv => all2 cOk zv.cells.toList zero
        | none => false
      | none => false
    | _ => false
  | _ => false
section
variable {ids} {P : Program} {o : Oper} {a : Act} {w : World} {home : Home} {hd : Lb → Value} {rt rt' : Rts} {av : AV} {ev : Ev} {F : Nat → Option Root}
theorem cOk_CR {v : Value} {c : C} (h : cOk v c = true) (w : World) (home : Home) (t : Tg) : CR w home t c v := by
  unfold cOk at h
  split at h
  · exact CR.kempty (k := .fl _) (of_decide_eq_true h)
  · exact CR.kempty (k := .sl _) (of_decide_eq_true h)
  · obtain ⟨rfl, h1⟩ := beqV_eq h; exact .val h1
  · cases h
/-- The cells that make writes. -/
theorem zeros_get {zv : Array Value} {n m : Nat} (hz : 0 < zv.size) (hm : m < n * zv.size) : ((Array.range (n * zv.size)).map (zv[· % zv.size]!))[m]? = zv[m % zv.size]? := by
  have hlt : m % zv.size < zv.size := Nat.mod_lt _ hz
  simp [Array.getElem?_map, Array.getElem?_range, hm, getElem!_pos (c := zv) (i := m % zv.size) hlt, Array.getElem?_eq_getElem hlt]
theorem run_makeSlice {t e : TypeId} {ti : TypeInfo} {zv : Value} (ht : P.underlying t = some (.slice e)) (hti : P.info? e = some ti) (hz : ti.zero = some zv) (hsz : zv.cells.size = ti.size) (hpos : 0 < ti.size) {k1 k2 : IntKind} {l c : Int} (h0 : 0 ≤ l) (h1 : l ≤ c) (h2 : c * ti.bytes ≤ 140737488355328) (h3 : c ≤ 9223372036854775807) :
    (Instr.makeSlice t (.int k1 l) (.int k2 c)).run P w = .ok (.slice (some ⟨w.heap.size, 0, none⟩) l.toNat c.toNat) (w.alloc (.cells ((Array.range (c.toNat * zv.cells.size)).map (zv.cells[· % zv.cells.size]!)) e)) := by
  have e1 : IntKind.i64.wrap l = l := IntWalk.i64_in l (by omega)
  have e2 : IntKind.i64.wrap c = c := IntWalk.i64_in c (by omega)
  unfold Instr.makeSlice
  have hcc : ¬ ((ti.bytes : Int) * c > 2 ^ 48) := by rw [Int.mul_comm]; omega
  have hc0 : ¬ c < 0 := by omega
  have hl0 : ¬ l < 0 := by omega
  have hlc : ¬ l > c := by omega
  have hzv : (zeroValue e).run P w = .ok zv w := by simp [zeroValue, run_typeInfo w hti, hz]
  simp only [Sem.run_bind, run_underlying ht, Result.andThen_ok, asInt, run_asIntOf, Sem.run_pure, run_typeInfo w hti, e1, e2]
  rw [if_neg (by simp only [Bool.or_eq_true, decide_eq_true_eq, not_or]; omega)]
  simp only [Sem.run_bind, run_askRoom, Result.andThen_ok, run_sizeOf' hti]
  by_cases hn : c.toNat * ti.size = 0
  · have hc' : c.toNat = 0 := by
      rcases Nat.mul_eq_zero.1 hn with h | h <;> omega
    have hr0 : Array.range 0 = #[] := rfl
    simp only [hn, if_true, Sem.run_bind, Sem.run_pure, Result.andThen_ok, pointer_new, hc', Nat.zero_mul, hr0, List.map_toArray, List.map_nil]
  · simp only [hn, if_false, Sem.run_bind, hzv, Sem.run_pure, Result.andThen_ok, pointer_new, hsz]
theorem ok_mks (old : RtR w home hd rt F0) (he : EvR ids w home hd rt ev a.eval) {k : K} {bytes : Nat} {zero : List C} {len cap : Opd} (hm : mMks ids P o.op k bytes zero len cap = true) {l c : Int} (hl : evI ev len = some l) (hc : evI ev cap = some c)
    (h0 : 0 ≤ l) (h1 : l ≤ c) (h2 : c * bytes ≤ 140737488355328) (h3 : c ≤ 9223372036854775807) {id : Nat} {cc : C}
    (hcc : (∃ sz z, k = .fl sz ∧ vals zero = some z ∧ z.length = sz ∧ cc = .fl sz (List.replicate c.toNat z) []) ∨ (∃ sz, k = .sl sz ∧ zero.length = sz ∧ cc = .sl sz (List.replicate c.toNat zero) []))
    (h : newRt rt id (.arr true false cc) = some rt') : OpOk ids P o a w home hd rt (.sv (.ref id [] 0 l.toNat)) rt' := by
  unfold mMks at hm
  split at hm
  · rename_i t l' c' ho
    simp only [Bool.and_eq_true, decide_eq_true_eq] at hm
    obtain ⟨⟨⟨⟨g1, g2⟩, g3⟩, g4⟩, g5⟩ := hm
    obtain ⟨d, hd1, hd2⟩ := under_spec g3
    obtain ⟨e, ti, rfl, hti, hsz⟩ := isSliceT_spec hd2
    rw [hd1] at g5
    simp only [hti, Bool.and_eq_true, beq_iff_eq] at g5
    obtain ⟨rfl, g6⟩ := g5
    split at g6
    · rename_i zv hz
      obtain ⟨z1, z2⟩ := all2_iff g6
      have hksz : zero.length = k.sz := by
        rcases hcc with ⟨sz, z, rfl, e1, e2, _⟩ | ⟨sz, rfl, e1, _⟩
        · rw [vals_spec e1, List.length_map]; exact e2
        · exact e1
      have hzs : zv.cells.size = ti.size := by rw [hsz, ← hksz, ← z1]; simp
      obtain ⟨q1, hq1⟩ := he.I g1 hl
      obtain ⟨q2, hq2⟩ := he.I g2 hc
      have hrun : (execOp a.eval o).run P w = .ok (.value (.slice (some ⟨w.heap.size, 0, none⟩) l.toNat c.toNat)) (w.alloc (.cells ((Array.range (c.toNat * zv.cells.size)).map (zv.cells[· % zv.cells.size]!)) e)) := by
        unfold execOp
        rw [ho]
        simp only [hq1, hq2, Sem.run_bind, run_makeSlice hd1 hti hz hzs (by omega) h0 h1 h2 h3, Result.andThen_ok, Sem.run_pure]
      obtain ⟨n1, n2, _, rfl⟩ := newRt_spec h
      have hcm : c.toNat ≤ maxLen := by unfold maxLen; omega
      have hzp : 0 < zv.cells.size := by omega
      have hcellv : ∀ i j, i < c.toNat → j < ti.size → ((Array.range (c.toNat * zv.cells.size)).map (zv.cells[· % zv.cells.size]!))[i * ti.size + j]? = zv.cells[j]? := by
        intro i j hi hj
        have : i * zv.cells.size + j < c.toNat * zv.cells.size := by
          have : (i + 1) * zv.cells.size ≤ c.toNat * zv.cells.size := Nat.mul_le_mul_right _ hi
          rw [Nat.add_mul] at this; omega
        rw [← hzs, zeros_get hzp this, idx_mod (by omega)]
      -- the new row
      have hcr : ∀ home', home' w.heap.size = some (Lb.r id, []) → CR (w.alloc (.cells ((Array.range (c.toNat * zv.cells.size)).map (zv.cells[· % zv.cells.size]!)) e)) home' (arrTg true (.r id)) cc (.slice (some ⟨w.heap.size, 0, none⟩) c.toNat c.toNat) := by
        intro home' hB
        rcases hcc with ⟨sz, z, rfl, e1, e2, rfl⟩ | ⟨sz, rfl, e1, rfl⟩
        · have hzv := vals_spec e1
          have hsz' : ti.size = sz := hsz
          refine .fl (fun e' he' => ?_) ?_
          · rw [List.append_nil] at he'
            obtain ⟨_, rfl⟩ := List.mem_replicate.1 he'
            refine ⟨e2, fun v hv => ?_⟩
            obtain ⟨j, hj⟩ := List.getElem?_of_mem hv
            have hlt : j < zv.cells.toList.length := by rw [z1, hzv]; simpa using (List.getElem?_eq_some_iff.1 hj).1
            have := z2 j _ (.val v) (List.getElem?_eq_getElem hlt) (by rw [hzv, List.getElem?_map, hj]; rfl)
            have h5 := cOk_CR this w home' .imm
            generalize zv.cells.toList[j] = y at h5
            cases h5 with
            | val h => exact h
          · rw [List.length_replicate, List.length_nil, Nat.add_zero, List.append_nil]
            refine Hdr.new (t := arrTg true (.r id)) rfl (by rw [← hsz']; omega) (Nat.le_refl _) hcm hB (heap_alloc_new w _) (by simp [hzs, hsz']) (fun i j hi hj => ?_)
            rw [← hsz', hcellv i j hi (by omega)]
            have hj2 : j < zv.cells.toList.length := by simp [hzs]; omega
            have hjz : j < z.length := by omega
            have := z2 j _ (.val z[j]) (List.getElem?_eq_getElem hj2) (by rw [hzv, List.getElem?_map, List.getElem?_eq_getElem hjz]; rfl)
            have h5 := cOk_CR this w home' .imm
            have h6 : zv.cells.toList[j] = z[j] := by
              generalize zv.cells.toList[j] = y at h5
              cases h5 with
              | val h => rfl
            simp only [List.getD_eq_getElem?_getD, List.getElem?_replicate, hi, if_true, Option.getD_some, List.getElem?_eq_getElem hjz]
            rw [← h6]
            simp at hj2
            simp [Array.getElem?_eq_getElem hj2]
        · have hsz' : ti.size = sz := hsz
          refine .sl (fun i j => zv.cells.toList.getD j undef) (fun e' he' => ?_) ?_ (fun i j e' c' h4 h5 => ?_)
          · rw [List.append_nil] at he'
            obtain ⟨_, rfl⟩ := List.mem_replicate.1 he'
            exact e1
          · rw [List.length_replicate, List.length_nil, Nat.add_zero]
            refine Hdr.new (t := arrTg true (.r id)) rfl (by rw [← hsz']; omega) (Nat.le_refl _) hcm hB (heap_alloc_new w _) (by simp [hzs, hsz']) (fun i j hi hj => ?_)
            rw [← hsz', hcellv i j hi (by omega)]
            have hj2 : j < zv.cells.size := by omega
            simp [List.getD_eq_getElem?_getD, Array.getElem?_eq_getElem hj2]
          · rw [List.append_nil, List.getElem?_replicate] at h4
            split at h4
            · injection h4 with h4
              subst h4
              have hlt : j < zv.cells.toList.length := by rw [z1]; exact (List.getElem?_eq_some_iff.1 h5).1
              have := cOk_CR (z2 j _ c' (List.getElem?_eq_getElem hlt) h5) (w.alloc (.cells ((Array.range (c.toNat * zv.cells.size)).map (zv.cells[· % zv.cells.size]!)) e)) home' ((arrTg true (.r id)).ext i j)
              simpa [List.getD_eq_getElem?_getD, List.getElem?_eq_getElem hlt] using this
            · cases h4
      have hst := assemble (w' := w.alloc (.cells ((Array.range (c.toNat * zv.cells.size)).map (zv.cells[· % zv.cells.size]!)) e)) old n1 n2 (k0 := 0) (B := some w.heap.size) (fun _ _ => none) (fun b hb => by injection hb with hb; subst hb; exact ⟨by simp, fun h => by omega⟩) (fun b hb _ => heap_alloc_old w _ b hb) rfl rfl rfl (by simp) (hcr _ asmHome_B)
      rw [asmF_F0] at hst
      exact .value hrun hst (new_ref (home := asmHome home 0 id (some w.heap.size) (fun _ _ => none)) (updL_same _ _ _) (by omega))
    · cases g6
  · cases hm
end
def mSt (P : Program) (o : Op) (n : Nat) (x y : Opd) : Bool :=
  match o with
  | .store t x' y' => mOpd ids x' x && mOpd ids y' y && elemIs P n t
  | _ => false
theorem splice_get {α : Type} {l vs : List α} {k m : Nat} (h : k + vs.length ≤ l.length) : (l.take k ++ vs ++ l.drop (k + vs.length))[m]? = if k ≤ m ∧ m < k + vs.length then vs[m - k]? else l[m]? := by
  have h1 : (l.take k).length = k := by rw [List.length_take]; omega
  by_cases hm : m < k
  · rw [if_neg (by omega), List.append_assoc, List.getElem?_append_left (by omega), List.getElem?_take, if_pos hm]
  · by_cases hm2 : m < k + vs.length
    · rw [if_pos ⟨by omega, hm2⟩, List.append_assoc, List.getElem?_append_right (by omega), h1, List.getElem?_append_left (by omega)]
    · rw [if_neg (by omega), List.append_assoc, List.getElem?_append_right (by omega), h1, List.getElem?_append_right (by omega), List.getElem?_drop]
      congr 1; omega
theorem splice_len {α : Type} {l vs : List α} {k : Nat} (h : k + vs.length ≤ l.length) : (l.take k ++ vs ++ l.drop (k + vs.length)).length = l.length := by
  simp only [List.length_append, List.length_take, List.length_drop]; omega
section
variable {ids} {P : Program} {o : Oper} {a : Act} {w : World} {home : Home} {hd : Lb → Value} {rt rt' : Rts} {av : AV} {ev : Ev} {F : Nat → Option Root}
theorem run_store' {t : TypeId} {n : Nat} (h : elemIs P n t = true) {v : Value} (hn : v.cells.size = n) {b o' : Nat} {cur : Array Value} {e : TypeId} (hg : w.heap[b]? = some (.cells cur e (0, 0))) (hle : o' + n ≤ cur.size) (h1 : ∀ u ∈ v.cells.toList, u.oneCell' = true) :
    (Instr.storeAt t (.pointer (some ⟨b, o', none⟩)) v).run P w = .ok () (w.setRow b (cur.toList.take o' ++ v.cells.toList ++ cur.toList.drop (o' + v.cells.toList.length)).toArray) := by
  obtain ⟨i, hi, hsz⟩ := elemIs_spec h
  have := run_storeCells_at P b o' e v.cells.toList 0 cur w hg (by simp; omega) h1
  simp only [Nat.add_zero] at this
  unfold Instr.storeAt storeVar
  simp only [Instr.sureAddr, Sem.run_bind, Sem.run_pure, Result.andThen_ok, run_sizeOf' hi, hsz, hn, ne_eq, not_true_eq_false, if_false, this]
theorem takes_len : ∀ {xs : List SV} {rt rt' : Rts} {l : List (Ow × C)}, takes rt xs = some (l, rt') → l.length = xs.length
  | [], rt, rt', l, h => by simp only [takes, Option.some.injEq, Prod.mk.injEq] at h; obtain ⟨rfl, _⟩ := h; rfl
  | x :: xs, rt, rt', l, h => by
    simp only [takes] at h
    split at h
    · split at h
      · rename_i h2
        simp only [Option.some.injEq, Prod.mk.injEq] at h
        obtain ⟨rfl, _⟩ := h
        simp [takes_len h2]
      · cases h
    · cases h
theorem exts_lab {d : Bool} {l : Lb} {p : Path} (h : p = [] ∨ d = true) : ((arrTg d l).exts p).lab = some (l, p) := by
  rcases h with rfl | rfl
  · cases d <;> rfl
  · simp [arrTg, Tg.exts_own, Tg.lab]
theorem C.setElem_shape {c c2 : C} {i off : Nat} {xs : List C} (h : c.setElem i off xs = some c2) : c2.shape = c.shape ∧ c2.flat = c.flat := by
  cases c with
  | val v => cases h
  | hole => cases h
  | fl sz es sp =>
    simp only [C.setElem] at h
    split at h
    · rw [Option.map_eq_some_iff] at h
      obtain ⟨e', _, rfl⟩ := h
      simp [C.shape, C.flat]
    · cases h
  | sl sz es sp =>
    simp only [C.setElem] at h
    split at h
    · rw [Option.map_eq_some_iff] at h
      obtain ⟨e', _, rfl⟩ := h
      simp [C.shape, C.flat]
    · cases h
theorem C.set_shape {c c1 c2 : C} {p : Path} (hg : c.get p = some c1) (h : c2.shape = c1.shape) (hf : c2.flat = c1.flat) : (c.set p c2).shape = c.shape ∧ (c.flat = true → (c.set p c2).flat = true) := by
  cases p with
  | nil =>
    have e1 : c.get [] = some c := by cases c <;> rfl
    have e2 : c.set [] c2 = c2 := by cases c <;> rfl
    rw [e1] at hg; injection hg with hg; subst hg
    rw [e2]; exact ⟨h, fun hh => by rw [hf]; exact hh⟩
  | cons x p =>
    obtain ⟨i, j⟩ := x
    cases c with
    | val v => cases hg
    | hole => cases hg
    | fl sz es sp => cases hg
    | sl sz es sp =>
      refine ⟨?_, fun hh => by cases hh⟩
      simp only [C.set]
      split
      · split <;> simp [C.shape]
      · rfl
theorem Hdr.congr {t : Tg} {u : Value} {len tot sz : Nat} {vs vs' : Nat → Nat → Value} (h : Hdr w home t u len tot sz vs) (hv : ∀ i j, i < tot → j < sz → vs i j = vs' i j) : Hdr w home t u len tot sz vs' := by
  obtain ⟨g0, g1, a0, cap0, gu, g2, g3, g4⟩ := h
  refine ⟨g0, g1, a0, cap0, gu, g2, g3, ?_⟩
  cases hl : t.lab with
  | none =>
    rw [hl] at g4
    intro i j hi hj
    obtain ⟨b, o, k1, k2, k3⟩ := g4 i j hi hj
    exact ⟨b, o, k1, k2, by rw [← hv i j hi hj]; exact k3⟩
  | some l =>
    rw [hl] at g4
    rcases g4 with g4 | ⟨b, cur, e, k1, k2, k3, k4, k5⟩
    · exact Or.inl g4
    · exact Or.inr ⟨b, cur, e, k1, k2, k3, k4, fun i j hi hj => by rw [← hv i j hi hj]; exact k5 i j hi hj⟩
theorem set_app_get {α : Type} {es sp : List α} {i i' : Nat} {e' : α} (hi : i < es.length) : (es.set i e' ++ sp)[i']? = if i' = i then some e' else (es ++ sp)[i']? := by
  rw [← List.set_append_left _ _ hi, List.getElem?_set]
  by_cases h : i = i'
  · subst h
    rw [if_pos rfl, if_pos rfl, if_pos (by rw [List.length_append]; omega)]
  · rw [if_neg h, if_neg (Ne.symm h)]
/-- A row's node with some cells of one element exchanged. -/
theorem node_set {w' : World} {home' : Home} {T : Tg} {c c2 : C} {u : Value} {i off : Nat} {xs : List C} (h : CR w home T c u) (hset : c.setElem i off xs = some c2) {sz m tot : Nat} (hs : c.shape = some (sz, m, tot)) {lb : Lb × Path} (hT : T.lab = some lb)
    {b cap : Nat} {cur : Array Value} {e : TypeId} (hu : u = .slice (some ⟨b, 0, none⟩) m cap) (hg : w.heap[b]? = some (.cells cur e (0, 0))) (hcs : cur.size = cap * sz) {vs : List Value} (hvl : vs.length = xs.length) (hle : i * sz + off + vs.length ≤ cur.size)
    (hg' : w'.heap[b]? = some (.cells (cur.toList.take (i * sz + off) ++ vs ++ cur.toList.drop (i * sz + off + vs.length)).toArray e (0, 0))) (hb' : home' b = some lb)
    (hnew : ∀ (k : Nat) x v, xs[k]? = some x → vs[k]? = some v → CR w' home' (T.ext i (off + k)) x v)
    (hold : ∀ i' j', (∀ k, k < xs.length → ¬ (i' = i ∧ j' = off + k)) → Mv w home w' home' (T.ext i' j') (T.ext i' j')) : CR w' home' T c2 u := by
  have hm : i < m ∧ off + xs.length ≤ sz := by
    cases h with
    | val h => cases hs
    | hole h => cases hs
    | fl he hh =>
      simp only [C.setElem] at hset
      split at hset
      · rename_i e0 us h1 h2
        rw [Option.map_eq_some_iff] at hset
        obtain ⟨e', h3, _⟩ := hset
        obtain ⟨h4, _⟩ := setSeg_spec h3
        simp only [C.shape, Option.some.injEq, Prod.mk.injEq] at hs
        obtain ⟨rfl, rfl, rfl⟩ := hs
        have hmem := (he e0 (List.mem_append_left _ (List.mem_of_getElem? h1))).1
        have := congrArg List.length (vals_spec h2)
        simp only [List.length_map] at this
        exact ⟨(List.getElem?_eq_some_iff.1 h1).1, by omega⟩
      · cases hset
    | sl vs0 he hh hc =>
      simp only [C.setElem] at hset
      split at hset
      · rename_i e0 h1
        rw [Option.map_eq_some_iff] at hset
        obtain ⟨e', h3, _⟩ := hset
        obtain ⟨h4, _⟩ := setSeg_spec h3
        simp only [C.shape, Option.some.injEq, Prod.mk.injEq] at hs
        obtain ⟨rfl, rfl, rfl⟩ := hs
        have hmem := he e0 (List.mem_append_left _ (List.mem_of_getElem? h1))
        exact ⟨(List.getElem?_eq_some_iff.1 h1).1, by omega⟩
      · cases hset
  obtain ⟨him, hoff⟩ := hm
  have hlist : i * sz + off + vs.length ≤ cur.toList.length := by simpa using hle
  -- where index (i', j') falls
  have hfall : ∀ i' j', j' < sz → ((i * sz + off ≤ i' * sz + j' ∧ i' * sz + j' < i * sz + off + vs.length) ↔ (i' = i ∧ off ≤ j' ∧ j' < off + vs.length)) := by
    intro i' j' hj
    constructor
    · intro ⟨h1, h2⟩
      have hii : i' = i := by
        have e1 : (i' * sz + j') / sz = i' := idx_div hj
        have e2 : i * sz ≤ i' * sz + j' := by omega
        have e3 : i' * sz + j' < (i + 1) * sz := by rw [Nat.add_mul]; omega
        have e4 : i ≤ (i' * sz + j') / sz := (Nat.le_div_iff_mul_le (by omega)).2 e2
        have e5 : (i' * sz + j') / sz < i + 1 := (Nat.div_lt_iff_lt_mul (by omega)).2 e3
        omega
      subst hii
      exact ⟨rfl, by omega, by omega⟩
    · intro ⟨h1, h2, h3⟩
      subst h1
      omega
  have hcell : ∀ i' j', j' < sz → (cur.toList.take (i * sz + off) ++ vs ++ cur.toList.drop (i * sz + off + vs.length)).toArray[i' * sz + j']? = if i' = i ∧ off ≤ j' ∧ j' < off + vs.length then vs[j' - off]? else cur[i' * sz + j']? := by
    intro i' j' hj
    rw [List.getElem?_toArray, splice_get hlist]
    by_cases hc : i' = i ∧ off ≤ j' ∧ j' < off + vs.length
    · rw [if_pos ((hfall i' j' hj).2 hc), if_pos hc]
      obtain ⟨rfl, _, _⟩ := hc
      congr 1; omega
    · rw [if_neg (fun hh => hc ((hfall i' j' hj).1 hh)), if_neg hc]
      simp
  -- the header
  have hdr : ∀ {vs0 : Nat → Nat → Value}, Hdr w home T u m tot sz vs0 → Hdr w' home' T u m tot sz (fun i' j' => if i' = i ∧ off ≤ j' ∧ j' < off + vs.length then vs.getD (j' - off) undef else vs0 i' j') := by
    intro vs0 hh
    obtain ⟨g0, g1, a0, cap0, gu, g2, g3, g4⟩ := hh
    refine ⟨g0, g1, a0, cap0, gu, g2, g3, ?_⟩
    rw [hT] at g4 ⊢
    rw [hu] at gu
    injection gu with q1 q2 q3
    subst q1 q3
    simp only at g4
    rcases g4 with g4 | ⟨b1, cur1, e1, k1, k2, k3, k4, k5⟩
    · exact Or.inl g4
    · injection k1 with k1
      injection k1 with k1 _
      subst k1
      rw [hg] at k3
      injection k3 with k3
      injection k3 with k3 k6
      subst k3 k6
      refine Or.inr ⟨b, _, e, rfl, hb', hg', ?_, fun i' j' hi hj => ?_⟩
      · rw [List.size_toArray, splice_len hlist]; simpa using hcs
      · rw [hcell i' j' hj]
        by_cases hc : i' = i ∧ off ≤ j' ∧ j' < off + vs.length
        · simp only [if_pos hc]
          have : j' - off < vs.length := by omega
          simp [List.getD_eq_getElem?_getD, List.getElem?_eq_getElem this]
        · simp only [if_neg hc]
          exact k5 i' j' hi hj
  cases h with
  | val h => cases hs
  | hole h => cases hs
  | @fl _ sz' es sp _ he hh =>
    simp only [C.setElem] at hset
    split at hset
    · rename_i e0 us h1 h2
      rw [Option.map_eq_some_iff] at hset
      obtain ⟨e', h3, rfl⟩ := hset
      obtain ⟨h4, h5⟩ := setSeg_spec h3
      simp only [C.shape, Option.some.injEq, Prod.mk.injEq] at hs
      obtain ⟨rfl, rfl, rfl⟩ := hs
      have hxs := vals_spec h2
      have hus : us.length = xs.length := by rw [hxs]; simp
      have huv : ∀ (k : Nat) x, us[k]? = some x → vs[k]? = some x ∧ x.oneCell' = true := by
        intro k x hx
        have hlt : k < vs.length := by rw [hvl, ← hus]; exact (List.getElem?_eq_some_iff.1 hx).1
        have := hnew k (.val x) vs[k] (by rw [hxs, List.getElem?_map, hx]; rfl) (List.getElem?_eq_getElem hlt)
        rw [List.getElem?_eq_getElem hlt]
        generalize vs[k] = y at this
        cases this with
        | val h => exact ⟨rfl, h⟩
      have he0 := he e0 (List.mem_append_left _ (List.mem_of_getElem? h1))
      have hlen' : e'.length = sz' := by rw [h5, splice_len h4]; exact he0.1
      have hget : ∀ (j : Nat), e'[j]? = if off ≤ j ∧ j < off + us.length then us[j - off]? else e0[j]? := fun j => by rw [h5, splice_get h4]
      refine .fl (fun e1 he1 => ?_) ?_
      · rw [← List.set_append_left _ _ him] at he1
        rcases List.mem_or_eq_of_mem_set he1 with h6 | h6
        · exact he e1 h6
        · subst h6
          refine ⟨hlen', fun v hv => ?_⟩
          obtain ⟨j, hj⟩ := List.getElem?_of_mem hv
          rw [hget j] at hj
          split at hj
          · exact (huv _ v hj).2
          · exact he0.2 v (List.mem_of_getElem? hj)
      · rw [List.length_set]
        refine (hdr hh).congr (fun i1 j hi1 hj => ?_)
        rw [List.getD_eq_getElem?_getD (l := es.set i e' ++ sp), set_app_get him]
        by_cases hii : i1 = i
        · subst hii
          rw [if_pos rfl, Option.getD_some, List.getD_eq_getElem?_getD (l := e'), hget j]
          by_cases hjj : off ≤ j ∧ j < off + us.length
          · have hlt : j - off < us.length := by omega
            have hv := (huv (j - off) _ (List.getElem?_eq_getElem hlt)).1
            rw [if_pos ⟨rfl, by omega⟩, if_pos hjj, List.getD_eq_getElem?_getD, hv, List.getElem?_eq_getElem hlt]
          · rw [if_neg (by omega), if_neg hjj]
            have h1' : (es ++ sp)[i1]? = some e0 := by rw [List.getElem?_append_left him]; exact h1
            simp [List.getD_eq_getElem?_getD, h1']
        · rw [if_neg (fun h => hii h.1), if_neg hii]
          simp [List.getD_eq_getElem?_getD]
    · cases hset
  | @sl _ sz' es sp _ vs0 he hh hc =>
    simp only [C.setElem] at hset
    split at hset
    · rename_i e0 h1
      rw [Option.map_eq_some_iff] at hset
      obtain ⟨e', h3, rfl⟩ := hset
      obtain ⟨h4, h5⟩ := setSeg_spec h3
      simp only [C.shape, Option.some.injEq, Prod.mk.injEq] at hs
      obtain ⟨rfl, rfl, rfl⟩ := hs
      have he0 := he e0 (List.mem_append_left _ (List.mem_of_getElem? h1))
      have hlen' : e'.length = sz' := by rw [h5, splice_len h4]; exact he0
      have hget : ∀ (j : Nat), e'[j]? = if off ≤ j ∧ j < off + xs.length then xs[j - off]? else e0[j]? := fun j => by rw [h5, splice_get h4]
      refine .sl _ (fun e1 he1 => ?_) (by rw [List.length_set]; exact hdr hh) (fun i' j' e1 c1 g1 g2 => ?_)
      · rw [← List.set_append_left _ _ him] at he1
        rcases List.mem_or_eq_of_mem_set he1 with h6 | h6
        · exact he e1 h6
        · subst h6; exact hlen'
      · rw [set_app_get him] at g1
        by_cases hii : i' = i
        · subst hii
          rw [if_pos rfl] at g1
          injection g1 with g1
          subst g1
          rw [hget j'] at g2
          by_cases hjj : off ≤ j' ∧ j' < off + xs.length
          · rw [if_pos hjj] at g2
            have hlt : j' - off < vs.length := by omega
            have := hnew (j' - off) c1 _ g2 (List.getElem?_eq_getElem hlt)
            rw [if_pos ⟨rfl, by omega⟩, List.getD_eq_getElem?_getD, List.getElem?_eq_getElem hlt, Option.getD_some]
            rw [show off + (j' - off) = j' by omega] at this
            exact this
          · rw [if_neg hjj] at g2
            rw [if_neg (by omega)]
            have h1' : (es ++ sp)[i']? = some e0 := by rw [List.getElem?_append_left him]; exact h1
            exact (hc i' j' e0 c1 h1' g2).move (hold i' j' (fun k hk hkk => by omega)) (Ok.refl _)
        · rw [if_neg hii] at g1
          rw [if_neg (fun h => hii h.1)]
          exact (hc i' j' e1 c1 g1 g2).move (hold i' j' (fun k hk hkk => hii hkk.1)) (Ok.refl _)
    · cases hset
theorem setRow_step_heap {b : Nat} {cur cs : Array Value} {e : TypeId} (hg : w.heap[b]? = some (.cells cur e (0, 0))) : (w.setRow b cs).heap[b]? = some (.cells cs e (0, 0)) ∧ ∀ k, k ≠ b → (w.setRow b cs).heap[k]? = w.heap[k]? :=
  ⟨setRow_heap w b cur cs e (0, 0) hg, fun k hk => setRow_other w b k cs hk⟩
theorem ok_st (old : RtR w home hd rt F0) (he : EvR ids w home hd rt ev a.eval) {n : Nat} {x y : Opd} (hm : mSt ids P o.op n x y = true) {p : SV} (hx : evS ev x = some p) {xs : List SV} (hy : evC ev y = some xs) (hn : xs.length = n) (h : store rt xs p = some rt') :
    OpOk ids P o a w home hd rt .undef rt' := by
  unfold mSt at hm
  split at hm
  · rename_i t x' y' ho
    simp only [Bool.and_eq_true] at hm
    obtain ⟨⟨h1, h2⟩, h3⟩ := hm
    obtain ⟨hF, hpres⟩ := he.C h2 hy
    obtain ⟨hp, hpp⟩ := he.S h1 hx
    have hcn : (a.eval y').cells.size = n := by rw [← hn, hF.1]; simp
    have hvl : (a.eval y').cells.toList.length = xs.length := hF.1.symm
    have h1c : ∀ u ∈ (a.eval y').cells.toList, u.oneCell' = true := svR_oneCell hF
    have hrun : ∀ {b o' : Nat} {cur : Array Value} {e : TypeId}, a.eval x' = .pointer (some ⟨b, o', none⟩) → w.heap[b]? = some (.cells cur e (0, 0)) → o' + n ≤ cur.size →
        (execOp a.eval o).run P w = .ok .skip (w.setRow b (cur.toList.take o' ++ (a.eval y').cells.toList ++ cur.toList.drop (o' + (a.eval y').cells.toList.length)).toArray) := by
      intro b o' cur e hv hg hle
      unfold execOp
      rw [ho]
      simp only [hv, Sem.run_bind, run_store' h3 hcn hg hle h1c, Result.andThen_ok, Sem.run_pure]
    cases p with
    | c c => cases h
    | nil k => cases h
    | ref id pa off len => cases h
    | pm cs off => cases h
    | pb id off =>
      simp only [store] at h
      split at h
      · rename_i ys hr
        split at h
        · rename_i zs hz
          split at h
          · rename_i hids
            injection h with h
            subst h
            obtain ⟨b, cur, e, k1, k2, k3, k4⟩ := RR.box (old.root (.r id) _ hr)
            obtain ⟨b', k5, k6⟩ := hp.2 ys hr
            rw [k1] at k5
            injection k5 with k5; injection k5 with k5; injection k5 with k5
            subst k5
            obtain ⟨q1, q2⟩ := setSeg_spec hz
            have hle : off + n ≤ cur.size := by
              have := k4.1
              have e2 : cur.toList.length = cur.size := Array.length_toList
              omega
            have hzF := k4.setSeg hF hz
            have hzw : ∀ z ∈ zs, ∀ i ∈ z.ids, (rt i).isSome = true := by
              intro z hz' i hi
              rw [q2] at hz'
              simp only [List.mem_append] at hz'
              rcases hz' with (h5 | h5) | h5
              · exact old.wf (.r id) _ hr i (by simp only [Root.ids, List.mem_flatMap]; exact ⟨z, List.mem_of_mem_take h5, hi⟩)
              · exact hpres z h5 i hi
              · exact old.wf (.r id) _ hr i (by simp only [Root.ids, List.mem_flatMap]; exact ⟨z, List.mem_of_mem_drop h5, hi⟩)
            obtain ⟨g1, g2⟩ := setRow_step_heap (cs := (cur.toList.take off ++ (a.eval y').cells.toList ++ cur.toList.drop (off + (a.eval y').cells.toList.length)).toArray) k3
            exact .skip (hrun k6 k3 hle) (exc_box old hr k1 k2 g1 (by simpa using hzF) hzw (fun k _ hk => g2 k hk) rfl rfl rfl (by simp))
          · cases h
        · cases h
      · cases h
    | pe id pa i off =>
      simp only [store] at h
      split at h
      · rename_i l rt1 ht
        split at h
        · rename_i d t0 c hr1
          split at h
          · rename_i hcond
            obtain ⟨hdeep, hpath⟩ := hcond
            split at h
            · rename_i c' hg
              split at h
              · rename_i c2 hset
                injection h with h
                subst h
                obtain ⟨home1, hd1, F1, s1, _, fn, fr, _, l1, held⟩ := takes_step xs (k := 0) old hF hpres (fun _ _ => rfl) ht
                have hp1 := s1.st _ _ (fun i' hi' => hpp i' hi') hp
                have hroot := s1.rel.root (.r id) _ hr1
                obtain ⟨u, hu, hcr⟩ := CR.at pa hroot hg
                have hpt : pa = [] ∨ t0 = false := hpath.imp (fun h => h) (fun h => h.1)
                have hlab : ((arrTg d (.r id)).exts pa).lab = some (.r id, pa) := exts_lab (hpath.imp (fun h => h) (fun h => h.2))
                cases hs : c'.shape with
                | none => cases c' <;> first | cases hset | cases hs
                | some sh =>
                  obtain ⟨sz, m, tot⟩ := sh
                  obtain ⟨vs0, hh, hel⟩ := hcr.open hs
                  -- the element
                  have him : i < m ∧ off + xs.length ≤ sz := by
                    have hlx : (l.map (·.2)).length = xs.length := by rw [List.length_map, l1]
                    have helem : ∃ e0, c'.elem i = some e0 ∧ off + xs.length ≤ e0.length := by
                      cases c' with
                      | val v => cases hset
                      | hole => cases hset
                      | fl sz' es sp =>
                        simp only [C.setElem] at hset
                        split at hset
                        · rename_i e0 us q1 q2
                          rw [Option.map_eq_some_iff] at hset
                          obtain ⟨e', q3, _⟩ := hset
                          obtain ⟨q4, _⟩ := setSeg_spec q3
                          have := congrArg List.length (vals_spec q2)
                          rw [List.length_map (as := us), hlx] at this
                          exact ⟨e0.map .val, by simp [C.elem, q1], by rw [List.length_map]; omega⟩
                        · cases hset
                      | sl sz' es sp =>
                        simp only [C.setElem] at hset
                        split at hset
                        · rename_i e0 q1
                          rw [Option.map_eq_some_iff] at hset
                          obtain ⟨e', q3, _⟩ := hset
                          obtain ⟨q4, _⟩ := setSeg_spec q3
                          exact ⟨e0, by simp [C.elem, q1], by omega⟩
                        · cases hset
                    obtain ⟨e0, q1, q2⟩ := helem
                    have := hel i e0 (C.elem_elemA q1)
                    exact ⟨C.elem_lt q1 hs, by omega⟩
                  obtain ⟨b, o', kk, cap, k6, k7⟩ := hp1.2 d t0 c hr1 hpt c' u hg hu sz m tot hs him.1
                  -- its block
                  have hh2 := hh
                  obtain ⟨z0, z1, a0, cap0, z2, z3, z4, z5⟩ := hh2
                  rw [hlab] at z5
                  rw [k6] at z2
                  injection z2 with y1 y2 y3
                  subst y1 y2 y3
                  rcases z5 with z5 | ⟨b1, cur, e, j1, j2, j3, j4, j5⟩
                  · omega
                  · injection j1 with j1
                    injection j1 with j1 j6
                    subst j1 j6
                    rw [Nat.zero_add] at k7
                    have hbound : i * sz + off + xs.length ≤ cur.size := by
                      rw [j4]
                      have : (i + 1) * sz ≤ cap * sz := Nat.mul_le_mul_right _ (by omega)
                      rw [Nat.add_mul] at this
                      omega
                    have hrun' := hrun k7 j3 (by omega)
                    obtain ⟨g1, g2⟩ := setRow_step_heap (w := w) (cs := (cur.toList.take (i * sz + off) ++ (a.eval y').cells.toList ++ cur.toList.drop (i * sz + off + (a.eval y').cells.toList.length)).toArray) j3
                    let g : Nat → Path → Option Path := fun mm q => if d then some (pa ++ (i, off + mm) :: q) else none
                    have himm : ∀ k, k < w.heap.size → home1 k = none → (w.setRow b (cur.toList.take (i * sz + off) ++ (a.eval y').cells.toList ++ cur.toList.drop (i * sz + off + (a.eval y').cells.toList.length)).toArray).heap[k]? = w.heap[k]? ∧ excHome home1 0 id g k = none :=
                      fun k hk hn' => ⟨g2 k (fun e => by subst e; rw [j2] at hn'; cases hn'), excHome_eq hn' (fun m q e => by cases e)⟩
                    have hnode : CR (w.setRow b (cur.toList.take (i * sz + off) ++ (a.eval y').cells.toList ++ cur.toList.drop (i * sz + off + (a.eval y').cells.toList.length)).toArray) (excHome home1 0 id g) ((arrTg d (.r id)).exts pa) c2 u := by
                      refine node_set hcr hset hs hlab k6 j3 j4 (by rw [hvl, List.length_map, l1]) (by rw [hvl]; exact hbound) g1 (excHome_eq j2 (fun m q e => by cases e)) (fun k x v hxk hvk => ?_) (fun i' j' hne q bb hbb hl => ?_)
                      · rw [List.getElem?_map, Option.map_eq_some_iff] at hxk
                        obtain ⟨q, hq, rfl⟩ := hxk
                        have hheld := (held k q v hq hvk).1
                        rw [Nat.zero_add] at hheld
                        refine Held.goes s1.rel hheld himm (fun q' bb hbb hl => ⟨g2 bb (fun e => by subst e; rw [j2] at hl; cases hl), ?_⟩) ?_
                        · rw [excHome_t hl (Nat.zero_le _)]
                          cases d with
                          | true => simp [g, exts_true_own, Tg.ext, Tg.exts_own, Tg.lab]
                          | false => simp [g, exts_false_imm, Tg.exts_imm, Tg.lab]
                        · cases d with
                          | true =>
                            refine Or.inr ⟨⟨_, _, by rw [exts_true_own]; rfl⟩, ?_⟩
                            have := hdeep.resolve_left (by simp)
                            rw [List.all_eq_true] at this
                            exact this q (List.mem_of_getElem? hq)
                          | false => exact Or.inl (exts_false_imm _ _ _ _)
                      · have hbne : bb ≠ b := by
                          intro e
                          subst e
                          rw [j2] at hl
                          cases d with
                          | true =>
                            rw [exts_true_own, Tg.ext, Tg.exts_own, Tg.lab] at hl
                            injection hl with hl
                            injection hl with _ hl
                            have := congrArg List.length hl
                            simp at this
                          | false =>
                            rw [exts_false_imm, Tg.exts_imm] at hl; cases hl
                        refine ⟨g2 bb hbne, ?_⟩
                        cases d with
                        | true =>
                          rw [exts_true_own, Tg.ext, Tg.exts_own, Tg.lab] at hl ⊢
                          exact excHome_eq hl (fun m q e => by cases e)
                        | false =>
                          rw [exts_false_imm, Tg.exts_imm] at hl ⊢
                          exact excHome_eq hl (fun m q e => by cases e)
                    obtain ⟨sh1, sh2⟩ := C.setElem_shape hset
                    obtain ⟨sh3, sh4⟩ := C.set_shape hg sh1 sh2
                    have hwhole : CR (w.setRow b (cur.toList.take (i * sz + off) ++ (a.eval y').cells.toList ++ cur.toList.drop (i * sz + off + (a.eval y').cells.toList.length)).toArray) (excHome home1 0 id g) (arrTg d (.r id)) (c.set pa c2) (hd1 (.r id)) := by
                      refine CR.set pa hroot hg hu (fun q bb hbb hl hq => ?_) hnode
                      have hbne : bb ≠ b := by
                        intro e
                        subst e
                        rw [j2] at hl
                        rcases arrTg_exts d (.r id) q with h5 | h5
                        · rw [h5] at hl; cases hl
                        · rw [h5] at hl
                          injection hl with hl
                          injection hl with _ hl
                          subst hl
                          exact hq (List.prefix_refl _)
                      refine ⟨g2 bb hbne, ?_⟩
                      rcases arrTg_exts d (.r id) q with h5 | h5
                      · rw [h5] at hl ⊢; exact excHome_eq hl (fun m q e => by cases e)
                      · rw [h5] at hl ⊢; exact excHome_eq hl (fun m q e => by cases e)
                    have s2 := exchange s1.rel (k0 := 0) (t' := t0 || !c.flat) hr1 g sh3 (fun hf => by
                      simp only [Bool.or_eq_false_iff, Bool.not_eq_false'] at hf
                      exact sh4 hf.2) (fun bb hbb hbq => g2 bb (fun e => by subst e; exact hbq _ j2)) rfl rfl rfl (by simp) hwhole
                    have hF0 : asmF F1 0 = F0 := by funext j; simp [asmF, F0]
                    rw [hF0] at s2
                    exact .skip hrun' (s1.trans s2)
              · cases h
            · cases h
          · cases h
        · cases h
      · cases h
  · cases hm
end
end Go.Proofs.YtecmolmlojehgaaGreat.T
namespace Go.Proofs.YtecmolmlojehgaaGreat.T
open Go
variable (ids : Nat → FuncId)

section
variable {ids} {P : Program} {o : Oper} {a : Act} {w : World} {home : Home} {hd : Lb → Value} {rt rt' : Rts} {av : AV} {ev : Ev} {F : Nat → Option Root}
theorem run_append {t t2 ty e : TypeId} {ti : TypeInfo} {z : Value} (ht : P.underlying t = some (.slice e)) (ht2 : P.underlying t2 = some .string ∨ ∃ e2, P.underlying t2 = some (.slice e2)) (hti : P.info? e = some ti) (hz : ti.zero = some z) (hzs : z.cells.size = ti.size)
    {ad : Option Addr} {n cap : Nat} (hnc : n ≤ cap) {b : Nat} {cur : Array Value} {e' : TypeId} (hb : 0 < cap → ad = some ⟨b, 0, none⟩ ∧ w.heap[b]? = some (.cells cur e' (0, 0)) ∧ cur.size = cap * ti.size)
    {olds : List Value} (hol : olds.length = n * ti.size) (hold : ∀ (j : Nat) u, olds[j]? = some u → cur[j]? = some u)
    {yv : Value} {m : Nat} {news : List Value} (hnl : news.length = m * ti.size) (hlen : (Builtin.lenOf yv).run P w = .ok m w) (hsrc : ∀ w1 : World, w1.heap = w.heap → (Builtin.firstCells ti.size m yv).run P w1 = .ok news.toArray w1) (h1 : ∀ u ∈ news, u.oneCell' = true)
    (hbytes : (n + m) * ti.bytes ≤ 140737488355328) (h63 : n + m ≤ 9223372036854775807) :
    ∃ v' w', (Builtin.append_ #[t, t2] ty #[.slice ad n cap, yv]).run P w = .ok v' w' ∧
      ((n + m = 0 ∧ cap = 0 ∧ v' = .slice ad n cap ∧ w' = w) ∨
       (n + m ≤ cap ∧ 0 < cap ∧ v' = .slice ad (n + m) cap ∧ w' = w.setRow b (cur.toList.take (n * ti.size) ++ news ++ cur.toList.drop (n * ti.size + news.length)).toArray) ∨
       (∃ cap', cap < n + m ∧ n + m ≤ cap' ∧ cap' ≤ maxLen ∧ v' = .slice (some ⟨w.heap.size, 0, none⟩) (n + m) cap' ∧
          w' = w.drew.alloc (.cells (olds.toArray ++ news.toArray ++ Builtin.zeroCells z.cells (cap' - (n + m))) e))) := by
  rcases ht2 with ht2 | ⟨e2, ht2⟩
  all_goals
    by_cases hroom : n + m ≤ cap
    · by_cases hc0 : cap = 0
      · have hm0 : m = 0 := by omega
        subst hm0
        have hn0 : news = [] := List.eq_nil_of_length_eq_zero (by simpa using hnl)
        subst hn0
        refine ⟨.slice ad n cap, w, ?_, Or.inl ⟨by omega, hc0, rfl, rfl⟩⟩
        unfold Builtin.append_
        have hs0 := hsrc w rfl
        cases ad with
        | none => simp [run_underlying ht, run_underlying ht2, run_sizeOf' hti, hlen, hnc, hs0]
        | some x => simp [run_underlying ht, run_underlying ht2, run_sizeOf' hti, hlen, hnc, hs0, storeCells]
      · obtain ⟨rfl, hg, hcs⟩ := hb (by omega)
        have hfit : n * ti.size + news.length ≤ cur.size := by rw [hnl, hcs, ← Nat.add_mul]; exact Nat.mul_le_mul_right _ hroom
        have hst := run_storeCells_at P b (n * ti.size) e' news 0 cur w hg (by simpa using hfit) h1
        simp only [Nat.add_zero] at hst
        refine ⟨_, _, ?_, Or.inr (Or.inl ⟨hroom, by omega, rfl, rfl⟩)⟩
        unfold Builtin.append_
        have hs0 := hsrc w rfl
        simp [run_underlying ht, run_underlying ht2, run_sizeOf' hti, hlen, hroom, hs0, addr_add, hst]
    · have hge := grownCap_ge w (n + m) cap e
      have hcm := grownCap_le_maxLen w (n + m) cap e (by unfold maxLen; omega)
      refine ⟨_, _, ?_, Or.inr (Or.inr ⟨grownCap w (n + m) cap e, by omega, hge, hcm, rfl, rfl⟩)⟩
      have h63' : ¬ (9223372036854775807 < ((n : Int) + (m : Int))) := by omega
      have hfit := growslice_fits (need := n + m) (old := cap) (bytes := ti.bytes) (by omega) hbytes
      have h48' : ¬ (281474976710656 < Builtin.nextslicecap (n + m) cap * ti.bytes) := by omega
      have hs0 := hsrc w.drew rfl
      have hfo : (Builtin.firstCells ti.size n (.slice ad n cap)).run P w.drew = .ok olds.toArray w.drew := by
        cases ad with
        | none =>
          have : cap = 0 := by
            rcases Nat.eq_zero_or_pos cap with h | h
            · exact h
            · have := (hb h).1; cases this
          have : olds = [] := List.eq_nil_of_length_eq_zero (by rw [hol]; have : n = 0 := by omega
                                                                rw [this, Nat.zero_mul])
          subst this
          exact run_firstCells_none w.drew ti.size n n cap
        | some x =>
          refine run_firstCells_some (P := P) w.drew ti.size n x n cap olds hol (fun j u hj => ?_)
          have hc : 0 < cap := by
            rcases Nat.eq_zero_or_pos cap with h | h
            · have : n = 0 := by omega
              rw [this, Nat.zero_mul] at hol
              have := (List.getElem?_eq_some_iff.1 hj).1
              omega
            · exact h
          obtain ⟨hx, hg, _⟩ := hb hc
          injection hx with hx
          subst hx
          rw [addr_add, Nat.zero_add]
          have hg' : w.drew.heap[b]? = some (.cells cur e' (0, 0)) := hg
          rw [cell_row hg']
          exact hold j u hj
      unfold Builtin.append_
      simp [run_underlying ht, run_underlying ht2, run_typeInfo w hti, sizeOf, typeInfo, zeroValue, hti, hz, hlen, hroom, h63', h48', Question.forced, hs0, hfo, newRow, grownCap]
      congr 2
      apply Array.ext'
      simp [List.append_assoc]
theorem run_lenOf_slice {ad : Option Addr} {n cap : Nat} : (Builtin.lenOf (.slice ad n cap)).run P w = .ok n w := rfl
/-- A flat slice as what is appended. -/
theorem flat_source {v : Value} {sz : Nat} {ys : List (List Value)} (h : Flat w v sz ys) : (Builtin.lenOf v).run P w = .ok ys.length w ∧ ys.flatten.length = ys.length * sz ∧ (∀ u ∈ ys.flatten, u.oneCell' = true) ∧
    ∀ w1 : World, w1.heap = w.heap → (Builtin.firstCells sz ys.length v).run P w1 = .ok ys.flatten.toArray w1 := by
  obtain ⟨h0, he, ad, cap, rfl, h1, h2, h3⟩ := h
  have hl : ys.flatten.length = ys.length * sz := flat_len (fun e h => (he e h).1)
  refine ⟨rfl, hl, fun u hu => ?_, fun w1 hw => ?_⟩
  · rw [List.mem_flatten] at hu
    obtain ⟨e, g1, g2⟩ := hu
    exact (he e g1).2 u g2
  · cases ad with
    | none =>
      have : ys = [] := by
        cases ys with
        | nil => rfl
        | cons y ys => obtain ⟨b, o', g, _⟩ := h3 (by simp); cases g
      subst this
      exact run_firstCells_none w1 sz _ _ _
    | some x =>
      refine run_firstCells_some (P := P) w1 sz ys.length x ys.length cap ys.flatten hl (fun j u hj => ?_)
      have hpos : 0 < ys.length := by
        cases ys with
        | nil => simp at hj
        | cons y ys => simp
      obtain ⟨b, o', g1, g2⟩ := h3 hpos
      injection g1 with g1
      subst g1
      rw [addr_add]
      have := g2 j u hj
      simpa [World.cell?, hw] using this
end
def strOrSlice : TypeDesc → Bool
  | .string => true
  | .slice _ => true
  | _ => false
def mApp (P : Program) (o : Op) (k : K) (bytes : Nat) (x y : Opd) : Bool :=
  match o with
  | .call c =>
    match c.callee with
    | .builtin .append =>
      match c.args.toList, c.argTypes.toList with
      | [x', y'], [t, t2] => mOpd ids x' x && mOpd ids y' y && under P t2 strOrSlice && decide (0 < k.sz) &&
        match P.underlying t with
        | some (.slice e) => match P.info? e with
          | some i => i.bytes == bytes && i.size == k.sz && match i.zero with
            | some z => z.cells.size == i.size
            | none => false
          | none => false
        | _ => false
      | _, _ => false
    | _ => false
  | _ => false
section
variable {ids} {P : Program} {o : Oper} {a : Act} {w : World} {home : Home} {hd : Lb → Value} {rt rt' : Rts} {av : AV} {ev : Ev} {F : Nat → Option Root}
theorem mApp_spec {k : K} {bytes : Nat} {x y : Opd} (h : mApp ids P o.op k bytes x y = true) : ∃ x' y' t t2 e ti z, o.op = .call { callee := .builtin .append, args := #[x', y'], argTypes := #[t, t2] } ∧ mOpd ids x' x = true ∧ mOpd ids y' y = true ∧
    (P.underlying t2 = some .string ∨ ∃ e2, P.underlying t2 = some (.slice e2)) ∧ 0 < k.sz ∧ P.underlying t = some (.slice e) ∧ P.info? e = some ti ∧ ti.bytes = bytes ∧ ti.size = k.sz ∧ ti.zero = some z ∧ z.cells.size = ti.size := by
  unfold mApp at h
  split at h
  · rename_i c ho
    split at h
    · rename_i hc
      split at h
      · rename_i x' y' t t2 hx1 hx2
        simp only [Bool.and_eq_true, decide_eq_true_eq] at h
        obtain ⟨⟨⟨⟨h1, h2⟩, h3⟩, h4⟩, h5⟩ := h
        obtain ⟨d2, hd2, hd3⟩ := under_spec h3
        split at h5
        · rename_i e hd1
          split at h5
          · rename_i ti hti
            simp only [Bool.and_eq_true, beq_iff_eq] at h5
            obtain ⟨⟨h6, h7⟩, h8⟩ := h5
            split at h8
            · rename_i z hz
              refine ⟨x', y', t, t2, e, ti, z, ?_, h1, h2, ?_, h4, hd1, hti, h6, h7, hz, by simpa using h8⟩
              · rw [ho]
                cases c
                simp only at hc hx1 hx2
                rw [hc, toList_two hx1, toList_two hx2]
              · cases d2 <;> simp [strOrSlice] at hd3
                · exact Or.inl hd2
                · exact Or.inr ⟨_, hd2⟩
            · cases h8
          · cases h5
        · cases h5
      · cases h
    · cases h
  · cases h
theorem exec_append {x' y' : Operand} {t t2 : TypeId} (ho : o.op = .call { callee := .builtin .append, args := #[x', y'], argTypes := #[t, t2] }) {v : Value} {w' : World} (h : (Builtin.append_ #[t, t2] o.type #[a.eval x', a.eval y']).run P w = .ok v w') :
    (execOp a.eval o).run P w = .ok (.value v) w' := by
  unfold execOp
  rw [ho]
  simp only [resolve, invoke, builtin, Sem.run_bind, Sem.run_pure, Result.andThen_ok, List.map_toArray, List.map_cons, List.map_nil, h]
theorem takeSl_spec {x : SV} {ox : Ow} {c : C} {rt1 : Rts} (h : takeSl rt x = some (ox, c, rt1)) : take rt x = some (ox, c, rt1) ∧ ((∃ sz es sp, c = .fl sz es sp) ∨ ∃ sz es sp, c = .sl sz es sp) := by
  unfold takeSl at h
  split at h
  · rename_i o sz es sp rt2 h1
    injection h with h; injection h with h2 h3; injection h3 with h3 h4; subst h2 h3 h4
    exact ⟨h1, Or.inl ⟨_, _, _, rfl⟩⟩
  · rename_i o sz es sp rt2 h1
    injection h with h; injection h with h2 h3; injection h3 with h3 h4; subst h2 h3 h4
    exact ⟨h1, Or.inr ⟨_, _, _, rfl⟩⟩
  · cases h
/-- A row's own block. -/
theorem Hdr.block {t : Tg} {u : Value} {len tot sz : Nat} {vs : Nat → Nat → Value} (h : Hdr w home t u len tot sz vs) {lb : Lb × Path} (ht : t.lab = some lb) : ∃ ad cap b cur e, u = .slice ad len cap ∧ len ≤ tot ∧ tot ≤ cap ∧ cap ≤ maxLen ∧
    (0 < cap → ad = some ⟨b, 0, none⟩ ∧ home b = some lb ∧ w.heap[b]? = some (.cells cur e (0, 0)) ∧ cur.size = cap * sz ∧ ∀ i j, i < tot → j < sz → cur[i * sz + j]? = some (vs i j)) := by
  obtain ⟨g0, g1, a0, cap0, gu, g2, g3, g4⟩ := h
  rw [ht] at g4
  rcases g4 with g4 | ⟨b, cur, e, k1, k2, k3, k4, k5⟩
  · exact ⟨a0, cap0, 0, #[], 0, gu, g1, g2, g3, fun h => by omega⟩
  · exact ⟨a0, cap0, b, cur, e, gu, g1, g2, g3, fun _ => ⟨k1, k2, k3, k4, k5⟩⟩
theorem ok_app_flat (old : RtR w home hd rt F0) (he : EvR ids w home hd rt ev a.eval) {sz bytes : Nat} {x y : Opd} (hm : mApp ids P o.op (.fl sz) bytes x y = true) {p q : SV} (hx : evS ev x = some p) (hy : evS ev y = some q) {ys : List (List Value)}
    (hsrc : ∀ v, SVR w home hd rt q v → (Builtin.lenOf v).run P w = .ok ys.length w ∧ ys.flatten.length = ys.length * sz ∧ (∀ u ∈ ys.flatten, u.oneCell' = true) ∧ (∀ e ∈ ys, e.length = sz) ∧ ∀ w1 : World, w1.heap = w.heap → (Builtin.firstCells sz ys.length v).run P w1 = .ok ys.flatten.toArray w1)
    {ox : Ow} {es sp : List (List Value)} {rt2 : Rts} (htk : takeSl rt p = some (ox, .fl sz es sp, rt2)) (hox : ox ≠ .imm) (hb : (es.length + ys.length) * bytes ≤ 140737488355328) (h63 : es.length + ys.length ≤ 9223372036854775807) {id : Nat}
    (h : newRt rt2 id (.arr true false (.fl sz (es ++ ys) [])) = some rt') : OpOk ids P o a w home hd rt (.sv (.ref id [] 0 (es.length + ys.length))) rt' := by
  obtain ⟨x', y', t, t2, e, ti, z, ho, h1, h2, h3, h4, hu, hti, hby, hsz, hz, hzs⟩ := mApp_spec hm
  have hsz' : ti.size = sz := hsz
  subst hsz'
  have h4 : 0 < ti.size := h4
  obtain ⟨hp, hpp⟩ := he.S h1 hx
  obtain ⟨s1, s2, s3, s3', s4⟩ := hsrc _ (he.S h2 hy).1
  obtain ⟨hn1, hn2, _, rfl⟩ := newRt_spec h
  obtain ⟨home1, hd1, F1, st1, f1, g1, held, _⟩ := take_step old hp (k := 0) rfl (takeSl_spec htk).1
  rcases held with ⟨e1, _⟩ | ⟨_, hF1, hv, _⟩
  · exact absurd e1 hox
  have hroot : CR w home1 (arrTg (decide (ox = .deep)) (.t 0)) (.fl ti.size es sp) (hd1 (.t 0)) := st1.rel.root (.t 0) _ hF1
  rw [hv] at hroot
  have hlab : (arrTg (decide (ox = .deep)) (.t 0)).lab = some (.t 0, []) := by cases ox <;> first | exact absurd rfl hox | rfl
  cases hroot with
  | fl hel hh =>
    obtain ⟨ad, cap, b, cur, e', hvu, hle1, hle2, hcm, hblk⟩ := hh.block hlab
    have hes : ∀ e0 ∈ es, e0.length = ti.size := fun e0 h0 => (hel e0 (List.mem_append_left _ h0)).1
    have hold : ∀ (j : Nat) u, es.flatten[j]? = some u → cur[j]? = some u := by
      intro j u hj
      obtain ⟨e0, k1, k2, k3, k4⟩ := flat_split h4 hes hj
      have hpos : 0 < es.length := Nat.lt_of_le_of_lt (Nat.zero_le _) k3
      have hc : 0 < cap := by omega
      obtain ⟨_, _, _, _, k5⟩ := hblk hc
      have := k5 (j / ti.size) (j % ti.size) (by omega) (Nat.mod_lt _ h4)
      rw [k4] at this
      rw [this]
      have h6 : (es ++ sp)[j / ti.size]? = some e0 := by rw [List.getElem?_append_left k3]; exact k1
      simp [List.getD_eq_getElem?_getD, h6, k2]
    obtain ⟨v', w', hrun, hcases⟩ := run_append (P := P) (w := w) (ty := o.type) hu h3 hti hz hzs (ad := ad) (n := es.length) (cap := cap) (by omega) (b := b) (cur := cur) (e' := e') (fun h0 => ⟨(hblk h0).1, (hblk h0).2.2.1, (hblk h0).2.2.2.1⟩) (olds := es.flatten) (flat_len hes) hold
      s2 s1 s4 s3 (by rw [hby]; exact hb) h63
    have hex : (execOp a.eval o).run P w = .ok (.value v') w' := exec_append ho (by rw [hvu]; exact hrun)
    have hF0 : asmF F1 0 = F0 := by funext j; simp [asmF, F0]
    have hel2 : ∀ e0 ∈ es ++ ys ++ [], e0.length = ti.size ∧ ∀ v ∈ e0, v.oneCell' = true := by
      intro e0 h0
      rw [List.append_nil, List.mem_append] at h0
      rcases h0 with h0 | h0
      · exact hel e0 (List.mem_append_left _ h0)
      · exact ⟨s3' e0 h0, fun v hv => s3 v (List.mem_flatten.2 ⟨e0, h0, hv⟩)⟩
    have hall : ∀ e0 ∈ es ++ ys, e0.length = ti.size := fun e0 h0 => (hel2 e0 (by simpa using h0)).1
    have hflat : (es ++ ys).flatten = es.flatten ++ ys.flatten := List.flatten_append
    have hnew : ∀ {B cap' : Nat} {cur' : Array Value} {e1 : TypeId} {w2 : World} {home2 : Home}, es.length + ys.length ≤ cap' → cap' ≤ maxLen → home2 B = some (.r id, []) → w2.heap[B]? = some (.cells cur' e1 (0, 0)) → cur'.size = cap' * ti.size →
        (∀ (j : Nat) u, (es.flatten ++ ys.flatten)[j]? = some u → cur'[j]? = some u) → CR w2 home2 (arrTg true (.r id)) (.fl ti.size (es ++ ys) []) (.slice (some ⟨B, 0, none⟩) (es.length + ys.length) cap') := by
      intro B cap' cur' e1 w2 home2 q1 q2 q3 q4 q5 q6
      refine .fl hel2 ?_
      rw [List.append_nil, List.length_nil, Nat.add_zero, List.length_append]
      refine Hdr.new (t := arrTg true (.r id)) rfl h4 q1 q2 q3 q4 q5 (fun i j hi hj => ?_)
      have hi' : i < (es ++ ys).length := by rw [List.length_append]; exact hi
      have hj' : j < ((es ++ ys)[i]).length := by rw [hall _ (List.getElem_mem hi')]; exact hj
      have := flat_get hall (List.getElem?_eq_getElem hi') (List.getElem?_eq_getElem hj')
      rw [hflat] at this
      rw [q6 _ _ this]
      simp [List.getD_eq_getElem?_getD, List.getElem?_eq_getElem hi', List.getElem?_eq_getElem hj']
    rcases hcases with ⟨c1, c2, rfl, hw⟩ | ⟨c1, c2, rfl, rfl⟩ | ⟨cap', c1, c2, c3, rfl, rfl⟩
    · have hw := hw.symm
      subst hw
      have he0 : es = [] := List.eq_nil_of_length_eq_zero (by omega)
      have hy0 : ys = [] := List.eq_nil_of_length_eq_zero (by omega)
      subst he0 hy0 c2
      have hcr : CR w (asmHome home1 0 id none (fun _ _ => none)) (arrTg true (.r id)) (.fl ti.size ([] ++ []) []) (.slice ad 0 0) := by
        have := (CR.kempty (w := w) (home := asmHome home1 0 id none (fun _ _ => none)) (t := arrTg true (.r id)) (k := .fl ti.size) h4).readdr (a' := ad) (by simp [K.empty, C.shape]) (fun h => absurd h (by omega))
        exact this
      have s2 := assemble (w' := w) st1.rel hn1 hn2 (k0 := 0) (B := none) (fun _ _ => none) (fun b h => by cases h) (fun _ _ _ => rfl) rfl rfl rfl (Nat.le_refl _) hcr
      rw [hF0] at s2
      exact .value hex (st1.trans s2) (new_ref (home := asmHome home1 0 id none (fun _ _ => none)) (updL_same _ _ _) (Nat.le_refl _))
    · obtain ⟨had, hhb, hg, hcs, _⟩ := hblk c2
      subst had
      have hle : es.length * ti.size + ys.flatten.length ≤ cur.toList.length := by
        rw [s2]
        have e2 : cur.toList.length = cur.size := Array.length_toList
        rw [e2, hcs, ← Nat.add_mul]; exact Nat.mul_le_mul_right _ c1
      obtain ⟨r1, r2⟩ := setRow_step_heap (w := w) (cs := (cur.toList.take (es.length * ti.size) ++ ys.flatten ++ cur.toList.drop (es.length * ti.size + ys.flatten.length)).toArray) hg
      have hcr := hnew (B := b) (home2 := asmHome home1 0 id (some b) (fun _ _ => none)) c1 hcm asmHome_B r1 (by rw [List.size_toArray, splice_len hle]; simpa using hcs) (fun j u hj => by
        rw [List.getElem?_toArray, splice_get hle]
        by_cases hjj : j < es.flatten.length
        · rw [List.getElem?_append_left hjj] at hj
          rw [if_neg (by rw [flat_len hes] at hjj; omega)]
          have := hold j u hj
          simpa using this
        · rw [List.getElem?_append_right (by omega)] at hj
          have hlt := (List.getElem?_eq_some_iff.1 hj).1
          rw [flat_len hes] at hjj hj hlt
          rw [if_pos ⟨by omega, by omega⟩]
          exact hj)
      have s2 := assemble (w' := w.setRow b (cur.toList.take (es.length * ti.size) ++ ys.flatten ++ cur.toList.drop (es.length * ti.size + ys.flatten.length)).toArray) st1.rel hn1 hn2 (k0 := 0) (B := some b) (fun _ _ => none)
        (fun b' hb' => by injection hb' with hb'; subst hb'; exact ⟨heap_lt r1, fun _ => ⟨0, [], Nat.le_refl _, hhb⟩⟩) (fun b' _ hne => r2 b' (fun e => hne (by rw [e]))) rfl rfl rfl (by simp) hcr
      rw [hF0] at s2
      exact .value hex (st1.trans s2) (new_ref (home := asmHome home1 0 id (some b) (fun _ _ => none)) (updL_same _ _ _) c1)
    · have hg := heap_alloc_new w.drew (.cells (es.flatten.toArray ++ ys.flatten.toArray ++ Builtin.zeroCells z.cells (cap' - (es.length + ys.length))) e)
      have hcr := hnew (B := w.heap.size) (home2 := asmHome home1 0 id (some w.heap.size) (fun _ _ => none)) c2 c3 asmHome_B hg (by
        simp only [Array.size_append, List.size_toArray, size_zeroCells, hzs, flat_len hes, s2, ← Nat.add_mul]; congr 1; omega) (fun j u hj => by
          rw [Array.getElem?_append_left (by have := (List.getElem?_eq_some_iff.1 hj).1; simpa using this)]
          simpa using hj)
      have s2 := assemble (w' := w.drew.alloc (.cells (es.flatten.toArray ++ ys.flatten.toArray ++ Builtin.zeroCells z.cells (cap' - (es.length + ys.length))) e)) st1.rel hn1 hn2 (k0 := 0) (B := some w.heap.size) (fun _ _ => none)
        (fun b' hb' => by injection hb' with hb'; subst hb'; exact ⟨heap_lt hg, fun h => by omega⟩) (fun b' hb' _ => heap_alloc_old w.drew _ b' hb') rfl rfl rfl (Nat.le_of_lt (heap_lt hg)) hcr
      rw [hF0] at s2
      exact .value hex (st1.trans s2) (new_ref (home := asmHome home1 0 id (some w.heap.size) (fun _ _ => none)) (updL_same _ _ _) c2)
end
end Go.Proofs.YtecmolmlojehgaaGreat.T
