/- Operations that read memory, or take values apart. Operations that make new memory. -/
import Derived.Test.YtecmolmlojehgaaGreatME
import Derived.Laws.Tables
namespace Go.Proofs.YtecmolmlojehgaaGreat.T
open Go
variable (ids : Nat → FuncId)

def m2 (a : Option Operand) (b : Option Opd) : Bool :=
  match a, b with
  | none, none => true
  | some a, some b => mOpd ids a b
  | _, _ => false
def mSlc (P : Program) (o : Op) (sz : Nat) (x : Opd) (lo hi : Option Opd) : Bool :=
  match o with
  | .slice t x' lo' hi' none => mOpd ids x' x && m2 ids lo' lo && m2 ids hi' hi && under P t (isSliceT P sz)
  | _ => false
def mSlcs (P : Program) (o : Op) (x : Opd) (lo hi : Option Opd) : Bool :=
  match o with
  | .slice t x' lo' hi' none => mOpd ids x' x && m2 ids lo' lo && m2 ids hi' hi && under P t isStrT
  | _ => false
def mExt (o : Op) (t i : Nat) : Bool :=
  match o with
  | .extract (.tmp t') i' => t' == t && i' == i
  | _ => false
def isLenT (str : Bool) : TypeDesc → Bool
  | .string => str
  | .slice _ => !str
  | _ => false
def mLen (P : Program) (o : Op) (str : Bool) (x : Opd) : Bool :=
  match o with
  | .call c =>
    match c.callee with
    | .builtin .len =>
      match c.args.toList, c.argTypes.toList with
      | [x'], [t] => mOpd ids x' x && under P t (isLenT str)
      | _, _ => false
    | _ => false
  | _ => false
def mNchk (o : Op) (x : Opd) : Bool :=
  match o with
  | .nilCheck x' => mOpd ids x' x
  | _ => false
def mMm (o : Op) (mx : Bool) (xs : List Opd) : Bool :=
  match o with
  | .call c =>
    (match c.callee with
    | .builtin .max => mx
    | .builtin .min => !mx
    | _ => false) && all2 (mOpd ids) c.args.toList xs
  | _ => false
def mMkf (o : Op) (f : Nat) (caps : List Opd) : Bool :=
  match o with
  | .makeFunc (.func g) first captured => ids f == g && first.size == 0 && all2 (mOpd ids) captured.toList caps
  | _ => false
def aggIs (P : Program) (t : TypeId) (agg : Bool) : Bool :=
  match P.underlying t with
  | some (.struct _) => agg
  | some (.array _ _) => agg
  | some _ => !agg
  | none => false
def mLd (P : Program) (o : Op) (agg : Bool) (n : Nat) (x : Opd) : Bool :=
  match o with
  | .load t x' => mOpd ids x' x && aggIs P t agg && elemIs P n t
  | _ => false
def mFld (P : Program) (o : Op) (agg : Bool) (off n : Nat) (x : Opd) : Bool :=
  match o with
  | .field t x' f => mOpd ids x' x &&
    match P.underlying t with
    | some (.struct fs) => match fs[f]? with
      | some g => g.offset == off && aggIs P g.type agg && elemIs P n g.type
      | none => false
    | _ => false
  | _ => false
def mIxa (P : Program) (o : Op) (agg : Bool) (len sz : Nat) (x i : Opd) : Bool :=
  match o with
  | .index t x' i' => mOpd ids x' x && mOpd ids i' i &&
    match P.underlying t with
    | some (.array n e) => n == len && aggIs P e agg && elemIs P sz e
    | _ => false
  | _ => false

section
variable {ids} {P : Program} {o : Oper} {a : Act} {w : World} {home : Home} {hd : Lb → Value} {rt rt' : Rts} {av : AV} {ev : Ev}
theorem ok_iap (old : RtR w home hd rt F0) (he : EvR ids w home hd rt ev a.eval) {len sz : Nat} {x i : Opd} (hm : mIap ids P o.op len sz x i = true) {p q : SV} {n : Int} (hx : evS ev x = some p) (hi : evI ev i = some n) (h0 : 0 ≤ n) (h1 : n < len) (h : p.addOff (n.toNat * sz) = some q) :
    OpOk ids P o a w home hd rt (.sv q) rt := by
  unfold mIap at hm
  split at hm
  · rename_i t x' i' ho
    simp only [Bool.and_eq_true] at hm
    obtain ⟨⟨h2, h3⟩, h4⟩ := hm
    obtain ⟨d, hd1, hd2⟩ := under_spec h4
    obtain ⟨e, ti, rfl, hti, rfl⟩ := isArrT_spec hd2
    obtain ⟨k, hiv⟩ := he.I h3 hi
    obtain ⟨ad, hv, hq, _⟩ := (he.S h2 hx).1.addOff h
    refine .value (v := .pointer (some (ad.add (n.toNat * ti.size)))) (w' := w) ?_ (Step.refl old) hq
    unfold execOp
    rw [ho]
    simp [hv, hiv, Instr.indexAt, run_asIntOf, run_underlying hd1, Instr.sureAddr, h0, h1, run_sizeOf' hti]
  · cases hm
theorem ok_ixs (old : RtR w home hd rt F0) (he : EvR ids w home hd rt ev a.eval) {x i : Opd} (hm : mIxs ids P o.op x i = true) {s : ByteArray} {n : Int} (hx : evV ev x = some (.string s)) (hi : evI ev i = some n) (h0 : 0 ≤ n) {b : UInt8} (h : s[n.toNat]? = some b) :
    OpOk ids P o a w home hd rt (.sv (.v (.int .u8 b.toNat))) rt := by
  unfold mIxs at hm
  split at hm
  · rename_i t x' i' ho
    simp only [Bool.and_eq_true] at hm
    obtain ⟨⟨h2, h3⟩, h4⟩ := hm
    obtain ⟨d, hd1, hd2⟩ := under_spec h4
    obtain rfl := isStrT_eq hd2
    obtain ⟨k, hiv⟩ := he.I h3 hi
    refine .value (v := .int .u8 b.toNat) (w' := w) ?_ (Step.refl old) (avr_v rfl)
    unfold execOp
    rw [ho]
    simp [(he.V h2 hx).1, hiv, Instr.index, run_asIntOf, run_underlying hd1, h0, h]
  · cases hm
theorem ok_nchk (old : RtR w home hd rt F0) (he : EvR ids w home hd rt ev a.eval) {x : Opd} (hm : mNchk ids o.op x = true) {p : SV} (hx : evS ev x = some p) (h : p.isPtr = true) : OpOk ids P o a w home hd rt (.sv p) rt := by
  unfold mNchk at hm
  split at hm
  · rename_i x' ho
    have hv := (he.S hm hx).1
    have hp : ∃ ad, a.eval x' = .pointer (some ad) := by
      cases p with
      | pb id off => exact hv.1
      | pe id p i off => exact hv.1
      | pm cs off => obtain ⟨b, o', h1, _⟩ := hv; exact ⟨_, h1⟩
      | c c => cases h
      | nil k => cases h
      | ref id p off len => cases h
    obtain ⟨ad, hp⟩ := hp
    refine .value (v := .pointer (some ad)) (w' := w) ?_ (Step.refl old) (by rw [hp] at hv; exact hv)
    unfold execOp
    rw [ho]
    simp only [hp]
    rfl
  · cases hm
theorem lenOf_spec {x : SV} {v : Value} (h : SVR w home hd rt x v) {str : Bool} {n : Nat} (hn : x.lenOf str = some n) : (str = true ∧ ∃ s, v = .string s ∧ s.size = n) ∨ (str = false ∧ ∃ a cap, v = .slice a n cap) := by
  cases str with
  | true =>
    refine Or.inl ⟨rfl, ?_⟩
    cases x with
    | c c =>
      cases c with
      | val u =>
        cases u <;> simp only [SV.lenOf, Option.some.injEq, reduceCtorEq, if_true] at hn
        subst hn
        have h' : CR w home .imm (.val _) v := h
        cases h' with
        | val h => exact ⟨_, rfl, rfl⟩
      | fl sz es sp => simp [SV.lenOf] at hn
      | sl sz es sp => simp [SV.lenOf] at hn
      | hole => cases hn
    | nil k => simp [SV.lenOf] at hn
    | ref id p off len => simp [SV.lenOf] at hn
    | pb id off => cases hn
    | pe id p i off => cases hn
    | pm cs off => cases hn
  | false =>
    refine Or.inr ⟨rfl, ?_⟩
    cases x with
    | c c =>
      cases c with
      | val u => cases u <;> simp [SV.lenOf] at hn
      | fl sz es sp =>
        simp only [SV.lenOf, Option.some.injEq, Bool.false_eq_true, if_false] at hn
        subst hn
        obtain ⟨vs, hh, _⟩ := CR.open h (c := .fl sz es sp) rfl
        obtain ⟨_, _, a, cap, h1, _⟩ := hh
        exact ⟨a, cap, h1⟩
      | sl sz es sp =>
        simp only [SV.lenOf, Option.some.injEq, Bool.false_eq_true, if_false] at hn
        subst hn
        obtain ⟨vs, hh, _⟩ := CR.open h (c := .sl sz es sp) rfl
        obtain ⟨_, _, a, cap, h1, _⟩ := hh
        exact ⟨a, cap, h1⟩
      | hole => cases hn
    | nil k =>
      simp only [SV.lenOf, Option.some.injEq, Bool.false_eq_true, if_false] at hn
      subst hn
      exact ⟨none, 0, h.1⟩
    | ref id p off len =>
      simp only [SV.lenOf, Option.some.injEq, Bool.false_eq_true, if_false] at hn
      subst hn
      exact h.1
    | pb id off => cases hn
    | pe id p i off => cases hn
    | pm cs off => cases hn
theorem toList_one {α : Type} {xs : Array α} {x : α} (h : xs.toList = [x]) : xs = #[x] := by apply Array.ext'; simp [h]
theorem toList_two {α : Type} {xs : Array α} {x y : α} (h : xs.toList = [x, y]) : xs = #[x, y] := by apply Array.ext'; simp [h]
theorem ok_len (old : RtR w home hd rt F0) (he : EvR ids w home hd rt ev a.eval) {str : Bool} {x : Opd} (hm : mLen ids P o.op str x = true) {p : SV} (hx : evS ev x = some p) {n : Nat} (h : p.lenOf str = some n) :
    OpOk ids P o a w home hd rt (.sv (.v (.int .i64 n))) rt := by
  unfold mLen at hm
  split at hm
  · rename_i c ho
    split at hm
    · rename_i hc
      split at hm
      · rename_i x' t hx1 hx2
        simp only [Bool.and_eq_true] at hm
        obtain ⟨h1, h2⟩ := hm
        obtain ⟨d, hd1, hd2⟩ := under_spec h2
        have ha : c.args = #[x'] := toList_one hx1
        have ht : c.argTypes = #[t] := toList_one hx2
        refine .value (v := .int .i64 n) (w' := w) ?_ (Step.refl old) (avr_v rfl)
        unfold execOp
        rw [ho]
        have hrun : (Builtin.len_ #[t] o.type #[a.eval x']).run P w = .ok (goInt n) w := by
          rcases lenOf_spec (he.S h1 hx).1 h with ⟨rfl, s, hv, hs⟩ | ⟨rfl, ad, cap, hv⟩
          · subst hs
            cases d <;> simp [isLenT] at hd2
            simp [Builtin.len_, run_underlying hd1, hv]
          · cases d <;> simp [isLenT] at hd2
            simp [Builtin.len_, run_underlying hd1, hv]
        simp only [resolve, hc, ha, ht, Sem.run_bind, Sem.run_pure, Result.andThen_ok, invoke, builtin, List.map_toArray, List.map_cons, List.map_nil, hrun, goInt]
      · cases hm
    · cases hm
  · cases hm
theorem mapO_spec {α β : Type} {f : α → Option β} : ∀ {xs : List α} {ys : List β}, mapO f xs = some ys → xs.length = ys.length ∧ ∀ (i : Nat) x y, xs[i]? = some x → ys[i]? = some y → f x = some y
  | [], ys, h => by simp only [mapO, Option.some.injEq] at h; subst h; exact ⟨rfl, fun i x y hx => by simp at hx⟩
  | x :: xs, ys, h => by
    simp only [mapO] at h
    split at h
    · rename_i y hy
      split at h
      · rename_i ys' hys
        injection h with h
        subst h
        obtain ⟨h1, h2⟩ := mapO_spec hys
        refine ⟨by simp [h1], fun i x' y' hx hy' => ?_⟩
        cases i with
        | zero => simp at hx hy'; subst hx hy'; exact hy
        | succ i => simp at hx hy'; exact h2 i x' y' hx hy'
      · cases h
    · cases h
/-- Operands, one by one. -/
theorem EvR.Ss (he : EvR ids w home hd rt ev a.eval) {ys : List Operand} {xs : List Opd} (hm : all2 (mOpd ids) ys xs = true) {ss : List SV} (h : mapO (evS ev) xs = some ss) :
    F2 (SVR w home hd rt) ss (ys.map a.eval) ∧ ∀ x ∈ ss, ∀ i ∈ x.ids, (rt i).isSome = true := by
  obtain ⟨h1, h2⟩ := all2_iff hm
  obtain ⟨h3, h4⟩ := mapO_spec h
  refine ⟨⟨by simp [h1, h3], fun i s v hs hv => ?_⟩, fun x hx => ?_⟩
  · rw [List.getElem?_map, Option.map_eq_some_iff] at hv
    obtain ⟨y, hy, rfl⟩ := hv
    have hlt : i < xs.length := by rw [h3]; exact (List.getElem?_eq_some_iff.1 hs).1
    exact (he.S (h2 i y _ hy (List.getElem?_eq_getElem hlt)) (h4 i _ s (List.getElem?_eq_getElem hlt) hs)).1
  · obtain ⟨i, hi⟩ := List.getElem?_of_mem hx
    have hlt : i < xs.length := by rw [h3]; exact (List.getElem?_eq_some_iff.1 hi).1
    have hlt2 : i < ys.length := by rw [h1]; exact hlt
    exact (he.S (h2 i _ _ (List.getElem?_eq_getElem hlt2) (List.getElem?_eq_getElem hlt)) (h4 i _ x (List.getElem?_eq_getElem hlt) hi)).2
theorem ok_mkf (old : RtR w home hd rt F0) (he : EvR ids w home hd rt ev a.eval) {f : Nat} {xs : List Opd} (hm : mMkf ids o.op f xs = true) {ss : List SV} (h : mapO (evS ev) xs = some ss) :
    OpOk ids P o a w home hd rt (.v (.fn f ss)) rt := by
  unfold mMkf at hm
  split at hm
  · rename_i g first captured ho
    simp only [Bool.and_eq_true, beq_iff_eq] at hm
    obtain ⟨⟨rfl, h1⟩, h2⟩ := hm
    have hf : first = #[] := Array.eq_empty_of_size_eq_zero h1
    refine .value (v := .func (.func (ids f)) #[] (captured.map a.eval)) (w' := w) ?_ (Step.refl old) ⟨(captured.toList.map a.eval), ?_, (he.Ss h2 h).1⟩
    · unfold execOp
      rw [ho]
      simp [Instr.makeFunc, hf]
    · congr 1; apply Array.ext'; simp
  · cases hm
theorem run_mmS {mx : Bool} : ∀ {v r : Value} {vs : List Value}, mmS mx v vs = some r → v.oneCell' = true → (vs.foldlM (if mx then Builtin.max2 else Builtin.min2) v).run P w = .ok r w ∧ r.oneCell' = true
  | v, r, [], h, hv => by simp only [mmS, Option.some.injEq] at h; subst h; exact ⟨rfl, hv⟩
  | v, r, u :: vs, h, hv => by
    cases v <;> cases u <;> simp only [mmS, reduceCtorEq] at h
    rename_i k x k' y
    split at h
    · rename_i hk
      subst hk
      obtain ⟨h1, h2⟩ := run_mmS h rfl
      refine ⟨?_, h2⟩
      rw [List.foldlM_cons, Sem.run_bind]
      cases mx
      · simp only [Bool.false_eq_true, if_false, Builtin.min2, Sem.run_pure, Result.andThen_ok] at h1 ⊢; exact h1
      · simp only [if_true, Builtin.max2, Sem.run_pure, Result.andThen_ok] at h1 ⊢; exact h1
    · cases h
theorem EvR.Vs (he : EvR ids w home hd rt ev a.eval) {ys : List Operand} {xs : List Opd} (hm : all2 (mOpd ids) ys xs = true) {vs : List Value} (h : mapO (evV ev) xs = some vs) : ys.map a.eval = vs ∧ ∀ v ∈ vs, v.oneCell' = true := by
  obtain ⟨h1, h2⟩ := all2_iff hm
  obtain ⟨h3, h4⟩ := mapO_spec h
  have key : ∀ (i : Nat) v, vs[i]? = some v → (ys.map a.eval)[i]? = some v ∧ v.oneCell' = true := by
    intro i v hv
    have hlt : i < xs.length := by rw [h3]; exact (List.getElem?_eq_some_iff.1 hv).1
    have hlt2 : i < ys.length := by rw [h1]; exact hlt
    obtain ⟨e1, e2⟩ := he.V (h2 i _ _ (List.getElem?_eq_getElem hlt2) (List.getElem?_eq_getElem hlt)) (h4 i _ v (List.getElem?_eq_getElem hlt) hv)
    exact ⟨by rw [List.getElem?_map, List.getElem?_eq_getElem hlt2, Option.map_some, e1], e2⟩
  refine ⟨?_, fun v hv => ?_⟩
  · apply List.ext_getElem?
    intro i
    cases hv : vs[i]? with
    | none =>
      rw [List.getElem?_eq_none_iff] at hv ⊢
      rw [List.length_map]; omega
    | some v => exact (key i v hv).1
  · obtain ⟨i, hi⟩ := List.getElem?_of_mem hv
    exact (key i v hi).2
theorem ok_mm (old : RtR w home hd rt F0) (he : EvR ids w home hd rt ev a.eval) {mx : Bool} {xs : List Opd} (hm : mMm ids o.op mx xs = true) {v r : Value} {vs : List Value} (hx : mapO (evV ev) xs = some (v :: vs)) (h : mmS mx v vs = some r) :
    OpOk ids P o a w home hd rt (.sv (.v r)) rt := by
  unfold mMm at hm
  split at hm
  · rename_i c ho
    simp only [Bool.and_eq_true] at hm
    obtain ⟨h1, h2⟩ := hm
    obtain ⟨h3, h4⟩ := he.Vs h2 hx
    obtain ⟨h5, h6⟩ := run_mmS (P := P) (w := w) h (h4 v (List.mem_cons_self ..))
    refine .value (v := r) (w' := w) ?_ (Step.refl old) (avr_v h6)
    unfold execOp
    rw [ho]
    have hargs : (c.args.map a.eval).toList = v :: vs := by simp [h3]
    split at h1
    · rename_i hc
      subst h1
      simp only [if_true] at h5
      have : (Builtin.max_ c.argTypes o.type (c.args.map a.eval)).run P w = .ok r w := by unfold Builtin.max_; rw [hargs]; exact h5
      simp only [resolve, hc, Sem.run_bind, Sem.run_pure, Result.andThen_ok, invoke, builtin, this]
    · rename_i hc
      simp only [Bool.not_eq_true'] at h1
      subst h1
      simp only [Bool.false_eq_true, if_false] at h5
      have : (Builtin.min_ c.argTypes o.type (c.args.map a.eval)).run P w = .ok r w := by unfold Builtin.min_; rw [hargs]; exact h5
      simp only [resolve, hc, Sem.run_bind, Sem.run_pure, Result.andThen_ok, invoke, builtin, this]
    · cases h1
  · cases hm
end

section
variable {ids} {P : Program} {o : Oper} {a : Act} {w : World} {home : Home} {hd : Lb → Value} {rt rt' : Rts} {av : AV} {ev : Ev}
def TpR (ids : Nat → FuncId) (w : World) (home : Home) (hd : Lb → Value) (rt : Rts) (tp : Nat → Option (List A1)) (ρ : Operand → Value) : Prop :=
  ∀ t as, tp t = some as → ∃ vs : List Value, ρ (.tmp t) = .tuple vs.toArray ∧ F2 (A1R ids w home hd rt) as vs ∧ ∀ x ∈ as, ∀ i ∈ x.ids, (rt i).isSome = true
def mMvt (o : Op) (t : Nat) : Bool :=
  match o with
  | .move (.tmp t') => t' == t
  | .assign (.tmp t') => t' == t
  | _ => false
theorem ok_mvt (old : RtR w home hd rt F0) {tp : Nat → Option (List A1)} (ht : TpR ids w home hd rt tp a.eval) {t : Nat} (hm : mMvt o.op t = true) {as : List A1} (hx : tp t = some as) :
    OpOk ids P o a w home hd rt (.tup as) rt := by
  unfold mMvt at hm
  split at hm
  · rename_i t' ho
    have hm := eq_of_beq hm
    subst hm
    obtain ⟨vs, hv, hf, _⟩ := ht _ as hx
    exact .value (v := a.eval (.tmp t')) (w' := w) (by unfold execOp; rw [ho]; rfl) (Step.refl old) ⟨vs, hv, hf⟩
  · rename_i t' ho
    have hm := eq_of_beq hm
    subst hm
    obtain ⟨vs, hv, hf, _⟩ := ht _ as hx
    exact .value (v := a.eval (.tmp t')) (w' := w) (by unfold execOp; rw [ho]; rfl) (Step.refl old) ⟨vs, hv, hf⟩
  · cases hm
theorem ok_ext (old : RtR w home hd rt F0) {tp : Nat → Option (List A1)} (ht : TpR ids w home hd rt tp a.eval) {t i : Nat} (hm : mExt o.op t i = true) {as : List A1} (hx : tp t = some as) {x : A1} (h : as[i]? = some x) :
    OpOk ids P o a w home hd rt (.v x) rt := by
  unfold mExt at hm
  split at hm
  · rename_i t' i' ho
    simp only [Bool.and_eq_true, beq_iff_eq] at hm
    obtain ⟨rfl, rfl⟩ := hm
    obtain ⟨vs, hv, hf, _⟩ := ht _ as hx
    have hlt : i' < vs.length := by rw [← hf.1]; exact (List.getElem?_eq_some_iff.1 h).1
    refine .value (v := vs[i']) (w' := w) ?_ (Step.refl old) (hf.2 i' x _ h (List.getElem?_eq_getElem hlt))
    unfold execOp
    rw [ho]
    simp [hv, Instr.extract, List.getElem?_eq_getElem hlt]
  · cases hm
theorem F2.seg {α β : Type} {R : α → β → Prop} {xs : List α} {ys : List β} (h : F2 R xs ys) (off n : Nat) : F2 R ((xs.drop off).take n) ((ys.drop off).take n) := by
  refine ⟨by simp [h.1], fun i x y hx hy => ?_⟩
  rw [List.getElem?_take] at hx hy
  split at hx
  · rename_i hi
    rw [if_pos hi] at hy
    rw [List.getElem?_drop] at hx hy
    exact h.2 _ x y hx hy
  · cases hx
theorem aggIs_run {t : TypeId} {agg : Bool} (h : aggIs P t agg = true) : (isAgg t).run P w = .ok agg w := by
  unfold aggIs at h
  split at h
  · rename_i hd; simp [isAgg, run_underlying hd, h]
  · rename_i hd; simp [isAgg, run_underlying hd, h]
  · rename_i d h1 h2 hd
    simp only [isAgg, Sem.run_bind, run_underlying hd, Result.andThen_ok]
    cases d <;> simp_all
  · cases h
/-- A part of a row of cells, as a value. -/
theorem run_part {t : TypeId} {agg : Bool} {n off : Nat} (h1 : aggIs P t agg = true) (h2 : elemIs P n t = true) {vs : List Value} {xs ys : List SV} (hf : F2 (SVR w home hd rt) xs vs) (hs : seg xs off n = some ys) {r : A1} (hr : mkAgg agg ys = some r) :
    ∃ v, (part t vs.toArray off).run P w = .ok v w ∧ A1R ids w home hd rt r v := by
  obtain ⟨i, hi, hn⟩ := elemIs_spec h2
  unfold seg at hs
  split at hs
  · rename_i hle
    injection hs with hs
    subst hs
    unfold mkAgg at hr
    cases agg with
    | true =>
      simp only [if_true, Option.some.injEq] at hr
      subst hr
      refine ⟨.agg (vs.toArray.extract off (off + n)), ?_, (vs.drop off).take n, ?_, hf.seg off n⟩
      · unfold part
        simp only [Sem.run_bind, aggIs_run h1, Result.andThen_ok, if_true, run_sizeOf' hi, hn, Sem.run_pure]
      · congr 1
        apply Array.ext'
        simp [List.extract_eq_take_drop]
    | false =>
      simp only [Bool.false_eq_true, if_false] at hr
      split at hr
      · rename_i x hx
        injection hr with hr
        subst hr
        have h0 : ((xs.drop off).take n)[0]? = some x := by rw [hx]; rfl
        rw [List.getElem?_take] at h0
        split at h0
        · rw [List.getElem?_drop, Nat.add_zero] at h0
          have hlt : off < vs.length := by rw [← hf.1]; exact (List.getElem?_eq_some_iff.1 h0).1
          refine ⟨vs[off], ?_, hf.2 off x _ h0 (List.getElem?_eq_getElem hlt)⟩
          unfold part
          simp [aggIs_run h1, List.getElem?_eq_getElem hlt]
        · cases h0
      · cases hr
  · cases hs
theorem ok_fld (old : RtR w home hd rt F0) (he : EvR ids w home hd rt ev a.eval) {agg : Bool} {off n : Nat} {x : Opd} (hm : mFld ids P o.op agg off n x = true) {xs ys : List SV} (hx : ev x = some (.agg xs)) (hs : seg xs off n = some ys) {r : A1} (hr : mkAgg agg ys = some r) :
    OpOk ids P o a w home hd rt (.v r) rt := by
  unfold mFld at hm
  split at hm
  · rename_i t x' f ho
    simp only [Bool.and_eq_true] at hm
    obtain ⟨h1, h2⟩ := hm
    split at h2
    · rename_i fs hd1
      split at h2
      · rename_i g hg
        simp only [Bool.and_eq_true, beq_iff_eq] at h2
        obtain ⟨⟨rfl, h3⟩, h4⟩ := h2
        obtain ⟨vs, hv, hf⟩ := (he x' x _ h1 hx).1
        obtain ⟨v, hrun, hR⟩ := run_part (ids := ids) (P := P) h3 h4 hf hs hr
        refine .value (v := v) (w' := w) ?_ (Step.refl old) hR
        unfold execOp
        rw [ho]
        simp only [hv, Instr.field, Sem.run_bind, run_underlying hd1, Result.andThen_ok, hg, asAgg, Sem.run_pure, hrun]
      · cases h2
    · cases h2
  · cases hm
theorem ok_ixa (old : RtR w home hd rt F0) (he : EvR ids w home hd rt ev a.eval) {agg : Bool} {len sz : Nat} {x i : Opd} (hm : mIxa ids P o.op agg len sz x i = true) {xs ys : List SV} (hx : ev x = some (.agg xs)) {n : Int} (hi : evI ev i = some n) (h0 : 0 ≤ n) (h1 : n < len)
    (hs : seg xs (n.toNat * sz) sz = some ys) {r : A1} (hr : mkAgg agg ys = some r) : OpOk ids P o a w home hd rt (.v r) rt := by
  unfold mIxa at hm
  split at hm
  · rename_i t x' i' ho
    simp only [Bool.and_eq_true] at hm
    obtain ⟨⟨h2, h3⟩, h4⟩ := hm
    split at h4
    · rename_i m e hd1
      simp only [Bool.and_eq_true, beq_iff_eq] at h4
      obtain ⟨⟨rfl, h5⟩, h6⟩ := h4
      obtain ⟨vs, hv, hf⟩ := (he x' x _ h2 hx).1
      obtain ⟨k, hiv⟩ := he.I h3 hi
      obtain ⟨ti, hti, hsz⟩ := elemIs_spec h6
      obtain ⟨v, hrun, hR⟩ := run_part (ids := ids) (P := P) h5 h6 hf hs hr
      refine .value (v := v) (w' := w) ?_ (Step.refl old) hR
      unfold execOp
      rw [ho]
      simp only [hv, hiv, Instr.index, Sem.run_bind, run_asIntOf, run_underlying hd1, Result.andThen_ok, h0, h1, and_self, if_true, run_sizeOf' hti, hsz, hrun, Sem.run_pure]
    · cases h4
  · cases hm
/-- Cells of memory, as a value. -/
theorem run_loadVar' {t : TypeId} {agg : Bool} {n : Nat} (h1 : aggIs P t agg = true) (h2 : elemIs P n t = true) {b o' : Nat} {ys : List SV} (hl : ys.length = n)
    (hc : ∀ (j : Nat) x, ys[j]? = some x → ∃ u, w.cell? ⟨b, o' + j, none⟩ = some u ∧ SVR w home hd rt x u) {r : A1} (hr : mkAgg agg ys = some r) :
    ∃ v, (loadVar t ⟨b, o', none⟩).run P w = .ok v w ∧ A1R ids w home hd rt r v := by
  obtain ⟨i, hi, hn⟩ := elemIs_spec h2
  have hc' : ∀ j, j < n → ∃ u, w.cell? ⟨b, o' + j, none⟩ = some u := fun j hj => by
    obtain ⟨u, hu, _⟩ := hc j _ (List.getElem?_eq_getElem (by omega : j < ys.length)); exact ⟨u, hu⟩
  let f : Nat → Value := fun j => (w.cell? ⟨b, o' + j, none⟩).getD undef
  have hf : ∀ j, j < n → w.cell? ((⟨b, o', none⟩ : Addr).add j) = some (f j) := fun j hj => by
    obtain ⟨u, hu⟩ := hc' j hj
    rw [addr_add]
    simp [f, hu]
  have hF2 : F2 (SVR w home hd rt) ys ((List.range n).map f) := by
    refine ⟨by simp [hl], fun j x v hx hv => ?_⟩
    obtain ⟨u, hu, hR⟩ := hc j x hx
    rw [List.getElem?_map, Option.map_eq_some_iff] at hv
    obtain ⟨k, hk, rfl⟩ := hv
    rw [List.getElem?_range (by rw [← hl]; exact (List.getElem?_eq_some_iff.1 hx).1)] at hk
    injection hk with hk
    subst hk
    simp only [f, hu, Option.getD_some]
    exact hR
  unfold mkAgg at hr
  cases agg with
  | true =>
    simp only [if_true, Option.some.injEq] at hr
    subst hr
    refine ⟨.agg ((List.range n).map f).toArray, ?_, _, rfl, hF2⟩
    unfold loadVar
    simp only [Sem.run_bind, aggIs_run h1, Result.andThen_ok, if_true, run_sizeOf' hi, hn, run_loadCells (P := P) w _ n f hf, Sem.run_pure]
  | false =>
    simp only [Bool.false_eq_true, if_false] at hr
    split at hr
    · rename_i x
      injection hr with hr
      subst hr
      obtain ⟨u, hu, hR⟩ := hc 0 x rfl
      refine ⟨u, ?_, hR⟩
      unfold loadVar
      rw [Nat.add_zero] at hu
      simp only [Sem.run_bind, aggIs_run h1, Result.andThen_ok, Bool.false_eq_true, if_false, run_load, hu]
    · cases hr
theorem cellSVs_get {d : Bool} {id : Nat} {p : Path} {i : Nat} : ∀ {cs : List C} {j : Nat}, (cellSVs d id p i j cs).length = cs.length ∧ ∀ (k : Nat) x, (cellSVs d id p i j cs)[k]? = some x → ∃ c, cs[k]? = some c ∧ x = cellSV d id p i (j + k) c
  | [], j => ⟨rfl, fun k x hx => by simp [cellSVs] at hx⟩
  | c :: cs, j => by
    obtain ⟨h1, h2⟩ := cellSVs_get (d := d) (id := id) (p := p) (i := i) (cs := cs) (j := j + 1)
    refine ⟨by simp [cellSVs, h1], fun k x hx => ?_⟩
    cases k with
    | zero => simp only [cellSVs, List.getElem?_cons_zero, Option.some.injEq] at hx; exact ⟨c, rfl, hx.symm⟩
    | succ k =>
      simp only [cellSVs, List.getElem?_cons_succ] at hx
      obtain ⟨c', h3, h4⟩ := h2 k x hx
      exact ⟨c', h3, by rw [h4]; congr 1; omega⟩
theorem C.get_append : ∀ {p q : Path} {c : C}, c.get (p ++ q) = (c.get p).bind (fun d => d.get q)
  | [], q, c => by cases c <;> simp [C.get]
  | (i, j) :: p, q, c => by
    cases c with
    | val v => rfl
    | hole => rfl
    | fl sz es sp => rfl
    | sl sz es sp =>
      simp only [List.cons_append, C.get]
      cases es[i]? with
      | none => rfl
      | some e =>
        simp only
        cases e[j]? with
        | none => rfl
        | some d => exact C.get_append
theorem hdAt_append {w : World} : ∀ {p q : Path} {c d : C} {u u1 : Value}, c.get p = some d → hdAt w c u p = some u1 → hdAt w c u (p ++ q) = hdAt w d u1 q
  | [], q, c, d, u, u1, hg, hu => by
    have e1 : c.get [] = some c := by cases c <;> rfl
    have e2 : hdAt w c u [] = some u := by cases c <;> rfl
    rw [e1] at hg; injection hg with hg; subst hg
    rw [e2] at hu; injection hu with hu; subst hu
    rfl
  | (i, j) :: p, q, c, d, u, u1, hg, hu => by
    cases c with
    | val v => cases hg
    | hole => cases hg
    | fl sz es sp => cases hg
    | sl sz es sp =>
      simp only [C.get] at hg
      cases hi : es[i]? with
      | none => simp only [hi] at hg; cases hg
      | some e =>
        simp only [hi] at hg
        cases hj : e[j]? with
        | none => simp only [hj] at hg; cases hg
        | some d0 =>
          simp only [hj] at hg
          cases u <;> try (simp [hdAt] at hu; done)
          rename_i ad m cap
          cases ad with
          | none => simp [hdAt] at hu
          | some ad =>
            simp only [List.cons_append, hdAt, hi, hj] at hu ⊢
            cases hc : w.cell? { block := ad.block, off := ad.off + (i * sz + j) } with
            | none => simp only [hc] at hu; cases hu
            | some u' =>
              simp only [hc] at hu ⊢
              exact hdAt_append hg hu
theorem exts_false_imm (l : Lb) (p : Path) (i j : Nat) : ((arrTg false l).exts p).ext i j = .imm := by
  cases p with
  | nil => rfl
  | cons x p => simp only [arrTg, Bool.false_eq_true, if_false, Tg.exts_top]; rfl
theorem exts_true_own (l : Lb) (p : Path) : (arrTg true l).exts p = .own l p := by simp [arrTg, Tg.exts_own]
/-- One cell of an element of an owned row, as a slot holds it. -/
theorem cellSV_R (old : RtR w home hd rt F0) {id : Nat} {d t : Bool} {c c' : C} {p : Path} {u : Value} (hr : rt id = some (.arr d t c)) (hg : c.get p = some c') (hu : hdAt w c (hd (.r id)) p = some u) (hcr : CR w home ((arrTg d (.r id)).exts p) c' u)
    {i j : Nat} {e : List C} {x : C} (he : c'.elem i = some e) (hx : e[j]? = some x) {b o' n cap : Nat} (hub : u = .slice (some ⟨b, o', none⟩) n cap) {sz m tot : Nat} (hs : c'.shape = some (sz, m, tot)) {uj : Value} (hc : w.cell? ⟨b, o' + (i * sz + j), none⟩ = some uj) :
    SVR w home hd rt (cellSV d id p i j x) uj ∧ ∀ k ∈ (cellSV d id p i j x).ids, (rt k).isSome = true := by
  obtain ⟨vs, hh, hel⟩ := hcr.open hs
  obtain ⟨hlt, hlen, hcc⟩ := hel i e (C.elem_elemA he)
  have hjs : j < sz := by rw [← hlen]; exact (List.getElem?_eq_some_iff.1 hx).1
  obtain ⟨b2, o2, cap2, hu2, _, _, hv⟩ := hh.cell hlt hjs
  rw [hub] at hu2
  injection hu2 with e1 e2 e3
  injection e1 with e1
  injection e1 with e1 e4
  subst e1 e4
  rw [hc] at hv
  injection hv with hv
  have hX := hcc j x hx
  rw [← hv] at hX
  have hslice : ∀ {sz2 n2 tot2 : Nat}, x.shape = some (sz2, n2, tot2) → d = true → SVR w home hd rt (.ref id (p ++ [(i, j)]) 0 n2) uj := by
    intro sz2 n2 tot2 hsx hd'
    subst hd'
    obtain ⟨vs2, hh2, _⟩ := hX.open hsx
    obtain ⟨_, g1, a2, cap3, hu3, g2, _⟩ := hh2
    refine ⟨⟨a2, cap3, hu3⟩, fun d1 t1 c1 k1 _ c3 u3 k3 k4 sz3 m3 tot3 k5 => ?_⟩
    rw [hr] at k1
    injection k1 with k1
    injection k1 with e1 e2 e3
    subst e1 e2 e3
    have hg1 : c'.get [(i, j)] = some x := by
      cases c' with
      | val v => cases he
      | hole => cases he
      | fl sz' es sp =>
        simp only [C.elem, Option.map_eq_some_iff] at he
        obtain ⟨y, _, rfl⟩ := he
        rw [List.getElem?_map, Option.map_eq_some_iff] at hx
        obtain ⟨v, _, rfl⟩ := hx
        cases hsx
      | sl sz' es sp =>
        simp only [C.elem] at he
        simp only [C.get, he, hx]
    have k3' := k3
    rw [C.get_append, hg, Option.bind_some, hg1] at k3'
    injection k3' with k3'
    subst k3'
    rw [hdAt_append hg hu] at k4
    have hat : hdAt w c' u [(i, j)] = some uj := by
      cases c' with
      | val v => cases he
      | hole => cases he
      | fl sz' es sp => cases hg1
      | sl sz' es sp =>
        simp only [C.shape, Option.some.injEq, Prod.mk.injEq] at hs
        obtain ⟨rfl, _, _⟩ := hs
        simp only [C.elem] at he
        subst hub
        simp only [hdAt, he, hx, hc]
    rw [hat] at k4
    injection k4 with k4
    subst k4
    rw [hsx] at k5
    injection k5 with k5
    injection k5 with e1 e2
    injection e2 with e2 e3
    subst e1 e2 e3
    rw [hu3]
    exact Part.self _ (by omega)
  have himm : d = false → SVR w home hd rt (.c x) uj := fun hd' => by
    subst hd'
    rw [exts_false_imm] at hX
    exact hX
  have hpres : (rt id).isSome = true := by rw [hr]; rfl
  cases x with
  | val v =>
    refine ⟨?_, fun k hk => by cases hk⟩
    show CR w home .imm (.val v) uj
    cases hX with
    | val h => exact .val h
  | hole => exact ⟨.hole hX.one, fun k hk => by cases hk⟩
  | fl sz2 es2 sp2 =>
    cases d with
    | true =>
      simp only [cellSV, if_true]
      exact ⟨hslice rfl rfl, fun k hk => by simp only [SV.ids, List.mem_singleton] at hk; subst hk; exact hpres⟩
    | false =>
      simp only [cellSV, Bool.false_eq_true, if_false]
      exact ⟨himm rfl, fun k hk => by cases hk⟩
  | sl sz2 es2 sp2 =>
    cases d with
    | true =>
      simp only [cellSV, if_true]
      exact ⟨hslice rfl rfl, fun k hk => by simp only [SV.ids, List.mem_singleton] at hk; subst hk; exact hpres⟩
    | false =>
      simp only [cellSV, Bool.false_eq_true, if_false]
      exact ⟨himm rfl, fun k hk => by cases hk⟩
theorem seg_get {α : Type} {l ys : List α} {off n : Nat} (h : seg l off n = some ys) : ys.length = n ∧ ∀ (j : Nat) x, ys[j]? = some x → l[off + j]? = some x := by
  unfold seg at h
  split at h
  · rename_i hle
    injection h with h
    subst h
    refine ⟨by simp; omega, fun j x hx => ?_⟩
    rw [List.getElem?_take] at hx
    split at hx
    · rw [List.getElem?_drop] at hx; exact hx
    · cases hx
  · cases h
theorem ok_ld (old : RtR w home hd rt F0) (he : EvR ids w home hd rt ev a.eval) {agg : Bool} {n : Nat} {x : Opd} (hm : mLd ids P o.op agg n x = true) {p : SV} (hx : evS ev x = some p) {ys : List SV} (hl : load rt n p = some ys) {r : A1} (hr : mkAgg agg ys = some r) :
    OpOk ids P o a w home hd rt (.v r) rt := by
  unfold mLd at hm
  split at hm
  · rename_i t x' ho
    simp only [Bool.and_eq_true] at hm
    obtain ⟨⟨h1, h2⟩, h3⟩ := hm
    have hv := (he.S h1 hx).1
    have fin : ∀ {b o' : Nat}, a.eval x' = .pointer (some ⟨b, o', none⟩) → ys.length = n → (∀ (j : Nat) y, ys[j]? = some y → ∃ u, w.cell? ⟨b, o' + j, none⟩ = some u ∧ SVR w home hd rt y u) → OpOk ids P o a w home hd rt (.v r) rt := by
      intro b o' hp hlen hc
      obtain ⟨v, hrun, hR⟩ := run_loadVar' (ids := ids) (P := P) h2 h3 hlen hc hr
      refine .value (v := v) (w' := w) ?_ (Step.refl old) hR
      unfold execOp
      rw [ho]
      simp only [hp, Instr.loadAt, Instr.sureAddr, Sem.run_bind, Sem.run_pure, Result.andThen_ok, hrun]
    cases p with
    | c c => cases hl
    | nil k => cases hl
    | ref id p off len => cases hl
    | pb id off =>
      simp only [load] at hl
      split at hl
      · rename_i xs hrt
        obtain ⟨g1, g2⟩ := seg_get hl
        obtain ⟨b, cur, e, k1, k2, k3, k4⟩ := RR.box (old.root (.r id) _ hrt)
        obtain ⟨b', k5, k6⟩ := hv.2 xs hrt
        rw [k1] at k5
        injection k5 with k5; injection k5 with k5; injection k5 with k5
        subst k5
        refine fin k6 g1 (fun j y hy => ?_)
        have hxj := g2 j y hy
        have hlt : off + j < cur.toList.length := by rw [← k4.1]; exact (List.getElem?_eq_some_iff.1 hxj).1
        refine ⟨cur.toList[off + j], ?_, k4.2 _ y _ hxj (List.getElem?_eq_getElem hlt)⟩
        rw [cell_row k3]
        rw [Array.getElem?_eq_getElem (by simpa using hlt)]
        rfl
      · cases hl
    | pm cs off =>
      simp only [load, Option.map_eq_some_iff] at hl
      obtain ⟨cs', hcs, rfl⟩ := hl
      obtain ⟨g1, g2⟩ := seg_get hcs
      obtain ⟨b, o', k1, k2⟩ := hv
      refine fin k1 (by simp [g1]) (fun j y hy => ?_)
      rw [List.getElem?_map, Option.map_eq_some_iff] at hy
      obtain ⟨c, hc, rfl⟩ := hy
      obtain ⟨_, u, k3, k4⟩ := k2 _ c (g2 j c hc)
      exact ⟨u, by rw [← k3, Nat.add_assoc], k4⟩
    | pe id pa i off =>
      simp only [load] at hl
      split at hl
      · rename_i d c' hra
        split at hl
        · rename_i e hel
          rw [Option.map_eq_some_iff] at hl
          obtain ⟨cs, hcs, rfl⟩ := hl
          obtain ⟨g1, g2⟩ := seg_get hcs
          obtain ⟨q1, q2⟩ := cellSVs_get (d := d) (id := id) (p := pa) (i := i) (cs := cs) (j := off)
          obtain ⟨t0, c, k1, k2, k3⟩ := rowAt_spec hra
          obtain ⟨u, k4, k5⟩ := CR.at pa (old.root (.r id) _ k1) k3
          cases hs : c'.shape with
          | none => cases c' <;> first | cases hel | cases hs
          | some sh =>
            obtain ⟨sz, m, tot⟩ := sh
            obtain ⟨b, o', kk, cap, k6, k7⟩ := hv.2 d t0 c k1 k2 c' u k3 k4 sz m tot hs (C.elem_lt hel hs)
            refine fin k7 (by rw [q1, g1]) (fun j y hy => ?_)
            obtain ⟨x0, hx0, rfl⟩ := q2 j y hy
            have hxe := g2 j x0 hx0
            obtain ⟨vs, hh, hel2⟩ := k5.open hs
            obtain ⟨hlt, hlen, _⟩ := hel2 i e (C.elem_elemA hel)
            have hjs : off + j < sz := by rw [← hlen]; exact (List.getElem?_eq_some_iff.1 hxe).1
            obtain ⟨b2, o2, cap2, hu2, _, _, hcv⟩ := hh.cell hlt hjs
            rw [k6] at hu2
            injection hu2 with e1 e2 e3
            injection e1 with e1
            injection e1 with e1 e4
            subst e1 e4
            refine ⟨vs i (off + j), by rw [← hcv]; congr 2; omega, (cellSV_R old k1 k3 k4 k5 hel hxe k6 hs hcv).1⟩
        · cases hl
      · cases hl
  · cases hm
/-- A bound that may be left out. -/
def BdR (ρ : Operand → Value) (y : Option Operand) (n : Option Int) : Prop := (y = none ∧ n = none) ∨ ∃ x k m, y = some x ∧ ρ x = .int k m ∧ n = some m
theorem run_sliceBounds {isSlice : Bool} {len cap : Nat} {ρ : Operand → Value} {lo' hi' : Option Operand} {lo hi : Option Int} (h1 : BdR ρ lo' lo) (h2 : BdR ρ hi' hi) (h3 : 0 ≤ lo.getD 0) (h4 : lo.getD 0 ≤ hi.getD len) (h5 : hi.getD len ≤ cap) :
    (Instr.sliceBounds isSlice len cap (lo'.map ρ) (hi'.map ρ) none).run P w = .ok ((lo.getD 0).toNat, (hi.getD len).toNat, cap) w := by
  have hb : ∀ {k : IntKind} {n : Int} {y : Nat} {code : BoundsCode}, 0 ≤ n → n ≤ y → (Instr.sliceBound (.int k n) y code).run P w = .ok n.toNat w := by
    intro k n y code g1 g2
    simp [Instr.sliceBound, run_asIntOf, g1, g2]
  rcases h2 with ⟨rfl, rfl⟩ | ⟨y, k, m, rfl, hy, rfl⟩
  · rcases h1 with ⟨rfl, rfl⟩ | ⟨x, k1, m1, rfl, hx, rfl⟩
    · simp [Instr.sliceBounds]
    · simp only [Option.getD_some, Option.getD_none] at h3 h4 h5
      simp [Instr.sliceBounds, hx, hb h3 h4]
  · rcases h1 with ⟨rfl, rfl⟩ | ⟨x, k1, m1, rfl, hx, rfl⟩
    · simp only [Option.getD_some, Option.getD_none] at h3 h4 h5
      simp [Instr.sliceBounds, hy, hb h4 h5]
    · simp only [Option.getD_some] at h3 h4 h5
      have h6 : (m1 : Int) ≤ (m.toNat : Int) := by omega
      simp [Instr.sliceBounds, hx, hy, hb (by omega : 0 ≤ m) h5, hb h3 h6]
theorem BdR.mk (he : EvR ids w home hd rt ev a.eval) {y : Option Operand} {x : Option Opd} (hm : m2 ids y x = true) {n : Option Int}
    (h : x.elim (some none) (fun o => (evI ev o).map some) = some n) : BdR a.eval y n := by
  cases y with
  | none =>
    cases x with
    | none => simp only [Option.elim_none, Option.some.injEq] at h; subst h; exact Or.inl ⟨rfl, rfl⟩
    | some x => cases hm
  | some y =>
    cases x with
    | none => cases hm
    | some x =>
      simp only [Option.elim_some, Option.map_eq_some_iff] at h
      obtain ⟨m, hm2, rfl⟩ := h
      obtain ⟨k, hk⟩ := he.I hm hm2
      exact Or.inr ⟨y, k, m, rfl, hk, rfl⟩
theorem run_sliceAt {t e : TypeId} {ti : TypeInfo} (ht : P.underlying t = some (.slice e)) (hti : P.info? e = some ti) {ad : Option Addr} {len cap : Nat} {ρ : Operand → Value} {lo' hi' : Option Operand} {lo hi : Option Int}
    (h1 : BdR ρ lo' lo) (h2 : BdR ρ hi' hi) (h3 : 0 ≤ lo.getD 0) (h4 : lo.getD 0 ≤ hi.getD len) (h5 : hi.getD len ≤ cap) :
    (Instr.sliceAt t (.slice ad len cap) (lo'.map ρ) (hi'.map ρ) none).run P w =
      .ok (.slice (if cap = (lo.getD 0).toNat then ad else ad.map (fun x => x.add ((lo.getD 0).toNat * ti.size))) ((hi.getD len).toNat - (lo.getD 0).toNat) (cap - (lo.getD 0).toNat)) w := by
  unfold Instr.sliceAt
  simp only [Sem.run_bind, run_underlying ht, Result.andThen_ok]
  unfold Instr.slice
  simp only [Sem.run_bind, run_underlying ht, Result.andThen_ok, run_sliceBounds h1 h2 h3 h4 h5, run_sizeOf' hti, Sem.run_pure]
theorem Part.sub {u : Value} {ad : Option Addr} {len cap sz off : Nat} (h : Part u (.slice ad len cap) sz off len) {l n : Nat} (hl : l + n ≤ cap) :
    Part u (.slice (if cap = l then ad else ad.map (fun x => x.add (l * sz))) n (cap - l)) sz (off + l) n := by
  obtain ⟨a0, m, cap0, a', e1, e2, e3, e4⟩ := h
  injection e3 with e5 e6 e7
  subst e5 e7
  refine ⟨a0, m, cap0, _, e1, by omega, by congr 1; omega, fun hlt => ?_⟩
  rw [if_neg (by omega), e4 (by omega), Option.map_map]
  congr 1
  funext x
  simp only [Function.comp]
  unfold Addr.add
  by_cases h1 : off * sz = 0 <;> by_cases h2 : l * sz = 0
  · rw [if_pos h1, if_pos h2, if_pos (by rw [Nat.add_mul]; omega)]
  · rw [if_pos h1, if_neg h2, if_neg (by rw [Nat.add_mul]; omega)]
    congr 1; rw [Nat.add_mul]; omega
  · rw [if_neg h1, if_pos h2, if_neg (by rw [Nat.add_mul]; omega)]
    congr 1; rw [Nat.add_mul]; omega
  · rw [if_neg h1, if_neg h2, if_neg (by rw [Nat.add_mul]; omega)]
    simp only
    congr 1; rw [Nat.add_mul]; omega
theorem ok_slcs (old : RtR w home hd rt F0) (he : EvR ids w home hd rt ev a.eval) {x : Opd} {lo hi : Option Opd} (hm : mSlcs ids P o.op x lo hi = true) {s : ByteArray} (hx : evV ev x = some (.string s)) {l h : Option Int}
    (hl : lo.elim (some none) (fun o => (evI ev o).map some) = some l) (hh : hi.elim (some none) (fun o => (evI ev o).map some) = some h) (g1 : 0 ≤ l.getD 0) (g2 : l.getD 0 ≤ h.getD s.size) (g3 : h.getD s.size ≤ s.size) :
    OpOk ids P o a w home hd rt (.sv (.v (.string (s.extract (l.getD 0).toNat (h.getD s.size).toNat)))) rt := by
  unfold mSlcs at hm
  split at hm
  · rename_i t x' lo' hi' ho
    simp only [Bool.and_eq_true] at hm
    obtain ⟨⟨⟨h1, h2⟩, h3⟩, h4⟩ := hm
    obtain ⟨d, hd1, hd2⟩ := under_spec h4
    obtain rfl := isStrT_eq hd2
    refine .value (v := .string (s.extract (l.getD 0).toNat (h.getD s.size).toNat)) (w' := w) ?_ (Step.refl old) (avr_v rfl)
    unfold execOp
    rw [ho]
    have hb := run_sliceBounds (P := P) (w := w) (isSlice := false) (BdR.mk he h2 hl) (BdR.mk he h3 hh) g1 g2 g3
    simp [(he.V h1 hx).1, Instr.sliceAt, Instr.slice, run_underlying hd1, hb]
  · cases hm
theorem ok_slc (old : RtR w home hd rt F0) (he : EvR ids w home hd rt ev a.eval) {sz : Nat} {x : Opd} {lo hi : Option Opd} (hm : mSlc ids P o.op sz x lo hi = true) {p q : SV} (hx : evS ev x = some p) {l h : Option Int}
    (hl : lo.elim (some none) (fun o => (evI ev o).map some) = some l) (hh : hi.elim (some none) (fun o => (evI ev o).map some) = some h) (hs : slice rt sz p l h = some q) : OpOk ids P o a w home hd rt (.sv q) rt := by
  unfold mSlc at hm
  split at hm
  · rename_i t x' lo' hi' ho
    simp only [Bool.and_eq_true] at hm
    obtain ⟨⟨⟨h1, h2⟩, h3⟩, h4⟩ := hm
    have hv := (he.S h1 hx).1
    have b1 := BdR.mk he h2 hl
    have b2 := BdR.mk he h3 hh
    obtain ⟨d, hd1, hd2⟩ := under_spec h4
    obtain ⟨e, ti, rfl, hti, hsz⟩ := isSliceT_spec hd2
    have fin : ∀ {v : Value}, (Instr.sliceAt t (a.eval x') (lo'.map a.eval) (hi'.map a.eval) none).run P w = .ok v w → SVR w home hd rt q v → OpOk ids P o a w home hd rt (.sv q) rt := by
      intro v hrun hR
      refine .value (v := v) (w' := w) ?_ (Step.refl old) hR
      unfold execOp
      rw [ho]
      simp only [Sem.run_bind, Option.map_none, hrun, Result.andThen_ok, Sem.run_pure]
    have himm : ∀ {c : C} {m tot : Nat}, p = .c c → c.shape = some (sz, m, tot) → 0 ≤ l.getD 0 → l.getD 0 ≤ h.getD m → h.getD m ≤ tot → q = .c (c.sub (l.getD 0).toNat ((h.getD m).toNat - (l.getD 0).toNat)) → OpOk ids P o a w home hd rt (.sv q) rt := by
      intro c m tot hp hsh g1 g2 g3 hq
      subst hp hq
      have hv' : CR w home .imm c (a.eval x') := hv
      obtain ⟨vs, hdr, _⟩ := hv'.open hsh
      obtain ⟨hpos, hmt, ad, cap, hu, htc, _, _⟩ := id hdr
      have hrun := run_sliceAt (P := P) (w := w) hd1 hti (ad := ad) (len := m) (cap := cap) b1 b2 g1 g2 (by omega)
      rw [hu] at fin hv'
      refine fin hrun ?_
      have hpart : Part (.slice ad m cap) (.slice ad m cap) sz 0 m := Part.self sz (by omega)
      have := hpart.sub (l := (l.getD 0).toNat) (n := (h.getD m).toNat - (l.getD 0).toNat) (by omega)
      rw [Nat.zero_add] at this
      rw [hsz]
      exact hv'.part hsh this (by omega)
    cases p with
    | c c =>
      cases c with
      | val v => cases hs
      | hole => cases hs
      | fl sz' es sp =>
        simp only [slice] at hs
        split at hs
        · rename_i hc
          obtain ⟨rfl, g1, g2, g3⟩ := hc
          injection hs with hs
          exact himm rfl rfl g1 g2 g3 hs.symm
        · cases hs
      | sl sz' es sp =>
        simp only [slice] at hs
        split at hs
        · rename_i hc
          obtain ⟨rfl, g1, g2, g3⟩ := hc
          injection hs with hs
          exact himm rfl rfl g1 g2 g3 hs.symm
        · cases hs
    | nil k =>
      simp only [slice] at hs
      split at hs
      · rename_i hc
        obtain ⟨g1, g2⟩ := hc
        injection hs with hs
        subst hs
        obtain ⟨hu, hk⟩ := hv
        have g3 : l.getD 0 = 0 := g2
        have g4 : h.getD ((0 : Nat) : Int) = 0 := g1
        have hrun := run_sliceAt (P := P) (w := w) hd1 hti (ad := none) (len := 0) (cap := 0) b1 b2 (by omega) (by omega) (by omega)
        rw [hu] at fin
        refine fin hrun ⟨?_, hk⟩
        rw [g3, g4]
        simp
      · cases hs
    | ref id pa off len =>
      simp only [slice] at hs
      split at hs
      · rename_i dd c' hra
        split at hs
        · rename_i sz' m tot hsh
          split at hs
          · rename_i hc
            obtain ⟨rfl, g1, g2, g3⟩ := hc
            injection hs with hs
            subst hs
            obtain ⟨tt, c, u, k1, k2, k3, k4, k5, k6⟩ := ref_open old hv hra hsh
            obtain ⟨⟨ad, cap, hu⟩, hall⟩ := hv
            obtain ⟨vs, hdr, _⟩ := k5.open hsh
            obtain ⟨_, _, ad0, cap0, hu0, htc, _, _⟩ := hdr
            have hcap : off + (h.getD len).toNat ≤ off + cap := by
              rw [hu] at k6
              obtain ⟨a1, m1, cap1, a1', e1, e2, e3, _⟩ := k6
              rw [hu0] at e1
              injection e1 with _ _ e1
              injection e3 with _ _ e3
              subst e1
              omega
            have hrun := run_sliceAt (P := P) (w := w) hd1 hti (ad := ad) (len := len) (cap := cap) b1 b2 g1 g2 (by omega)
            rw [hu] at fin hall
            refine fin hrun ⟨⟨_, _, rfl⟩, fun d1 t1 c1 j1 j2 c2 u2 j3 j4 sz2 m2 tot2 j5 => ?_⟩
            have := (hall d1 t1 c1 j1 j2 c2 u2 j3 j4 sz2 m2 tot2 j5).sub (l := (l.getD 0).toNat) (n := (h.getD len).toNat - (l.getD 0).toNat) (by omega)
            have hszz : sz2 = ti.size := by
              rw [k1] at j1
              injection j1 with j1
              injection j1 with q1 q2 q3
              subst q1 q2 q3
              rw [k3] at j3; injection j3 with j3; subst j3
              rw [hsh] at j5; injection j5 with j5; injection j5 with j5 _
              omega
            rw [← hszz]
            exact this
          · cases hs
        · cases hs
      · cases hs
    | pb id off => cases hs
    | pe id pa i off => cases hs
    | pm cs off => cases hs
  · cases hm
end
end Go.Proofs.YtecmolmlojehgaaGreat.T
namespace Go.Proofs.YtecmolmlojehgaaGreat.T
open Go
variable (ids : Nat → FuncId)

def mMkn (o : Op) (k : K) : Bool :=
  match o with
  | .assign (.const (.slice none 0 0)) => decide (0 < k.sz)
  | .move (.const (.slice none 0 0)) => decide (0 < k.sz)
  | _ => false
def mBox (o : Op) (x : Opd) : Bool :=
  match o with
  | .box _ x' => mOpd ids x' x
  | _ => false
def zeroIs (P : Program) (t : TypeId) (z : List SV) : Bool :=
  match P.info? t with
  | some i => match i.zero with
    | some zv => all2 svOk zv.cells.toList z
    | none => false
  | none => false
def mAlloc (P : Program) (o : Op) (z : List SV) : Bool :=
  match o with
  | .alloc t => zeroIs P t z
  | _ => false
def mBuild (P : Program) (o : Op) (z : List SV) (parts : List (Nat × Nat × Opd)) : Bool :=
  match o with
  | .build t ps => zeroIs P t z &&
    match P.underlying t with
    | some (.struct fs) => fs.all (fun f => (P.info? f.type).isSome) && all2 (fun p q => mOpd ids p.2 q.2.2 && match fs[p.1]? with | some f => f.offset == q.1 && elemIs P q.2.1 f.type | none => false) ps.toList parts
    | some (.array _ e) => all2 (fun p q => mOpd ids p.2 q.2.2 && q.1 == p.1 * q.2.1 && elemIs P q.2.1 e) ps.toList parts && parts.all (fun q => elemIs P q.2.1 e) && (P.info? e).isSome
    | _ => false
  | _ => false
def mBs (P : Program) (o : Op) (k : K) (parts : List Opd) : Bool :=
  match o with
  | .buildSlice t len ps => decide (len = parts.length) && decide (len * k.sz ≤ 2 ^ 24) && decide (0 < k.sz) && under P t (isSliceT P k.sz) && all2 (fun p q => mOpd ids p.2 q) ps.toList parts && decide (ps.toList.map (·.1) = List.range len) &&
    match P.underlying t with
    | some (.slice e) => match P.info? e with
      | some i => i.zero.isSome
      | none => false
    | _ => false
  | _ => false

section
variable {ids} {P : Program} {o : Oper} {a : Act} {w : World} {home : Home} {hd : Lb → Value} {rt rt' : Rts} {av : AV} {ev : Ev} {F : Nat → Option Root}
theorem newRt_spec {id : Nat} {r : Root} (h : newRt rt id r = some rt') : rt id = none ∧ 64000 ≤ id ∧ (∀ i ∈ r.ids, (rt i).isSome = true) ∧ rt' = upd rt id r := by
  unfold newRt at h
  split at h
  · rename_i hc
    simp only [Bool.and_eq_true, Option.isNone_iff_eq_none, decide_eq_true_eq, List.all_eq_true] at hc
    injection h with h
    exact ⟨hc.1.1, hc.1.2, hc.2, h.symm⟩
  · cases h
theorem asmF_F0 (k0 : Nat) : asmF F0 k0 = F0 := by funext j; simp [asmF, F0]
theorem svR_oneCell {xs : List SV} {vs : List Value} (h : F2 (SVR w home hd rt) xs vs) : ∀ v ∈ vs, v.oneCell' = true := by
  intro v hv
  obtain ⟨i, hi⟩ := List.getElem?_of_mem hv
  have hlt : i < xs.length := by rw [h.1]; exact (List.getElem?_eq_some_iff.1 hi).1
  exact SVR.one (h.2 i _ v (List.getElem?_eq_getElem hlt) hi)
theorem cells_one {v : Value} (h : v.oneCell' = true) : v.cells = #[v] := by cases v <;> first | rfl | cases h
/-- The cells of an operand. -/
theorem EvR.C (he : EvR ids w home hd rt ev a.eval) {y : Operand} {x : Opd} (hm : mOpd ids y x = true) {xs : List SV} (h : evC ev x = some xs) : F2 (SVR w home hd rt) xs (a.eval y).cells.toList ∧ ∀ s ∈ xs, ∀ i ∈ s.ids, (rt i).isSome = true := by
  unfold evC at h
  split at h
  · rename_i c hc
    obtain ⟨h1, h2⟩ := he y x c hm hc
    cases c with
    | s s =>
      simp only [A1.cells, Option.some.injEq] at h
      subst h
      have hv : SVR w home hd rt s (a.eval y) := h1
      rw [cells_one hv.one]
      refine ⟨⟨rfl, fun i s' v h3 h4 => ?_⟩, fun s' hs => ?_⟩
      · cases i with
        | zero => simp at h3 h4; subst h3 h4; exact hv
        | succ i => simp at h3
      · simp only [List.mem_singleton] at hs; subst hs; exact h2
    | agg ys =>
      simp only [A1.cells, Option.some.injEq] at h
      subst h
      obtain ⟨vs, hv, hf⟩ := h1
      rw [hv]
      refine ⟨by simpa [Value.cells] using hf, fun s hs i hi => h2 i ?_⟩
      simp only [A1.ids, List.mem_flatMap]
      exact ⟨s, hs, hi⟩
    | fn f xs => cases h
  · cases h
theorem pointer_new (w : World) (cs : Array Value) (e : TypeId) : (newRow e cs).run P w = .ok ⟨w.heap.size, 0, none⟩ (w.alloc (.cells cs e)) := by
  simp only [newRow, Sem.run_bind, run_newObj, Result.andThen_ok, Sem.run_pure]; rfl
theorem ok_newbox (old : RtR w home hd rt F0) {id : Nat} {xs : List SV} {vs : List Value} (hf : F2 (SVR w home hd rt) xs vs) (h : newRt rt id (.box xs) = some rt') {e : TypeId}
    (hrun : (execOp a.eval o).run P w = .ok (.value (.pointer (some ⟨w.heap.size, 0, none⟩))) (w.alloc (.cells vs.toArray e))) : OpOk ids P o a w home hd rt (.sv (.pb id 0)) rt' := by
  obtain ⟨h1, h2, h3, rfl⟩ := newRt_spec h
  obtain ⟨home', hd', s, hh⟩ := new_box old h1 h2 hf (fun x hx i hi => h3 i (by simp only [Root.ids, List.mem_flatMap]; exact ⟨x, hx, hi⟩)) e
  refine .value hrun s ⟨⟨_, rfl⟩, fun ys hr => ?_⟩
  exact ⟨w.heap.size, hh, rfl⟩
theorem ok_box (old : RtR w home hd rt F0) (he : EvR ids w home hd rt ev a.eval) {id : Nat} {x : Opd} (hm : mBox ids o.op x = true) {xs : List SV} (hx : evC ev x = some xs) (h : newRt rt id (.box xs) = some rt') :
    OpOk ids P o a w home hd rt (.sv (.pb id 0)) rt' := by
  unfold mBox at hm
  split at hm
  · rename_i t x' ho
    refine ok_newbox old (he.C hm hx).1 h (e := t) ?_
    unfold execOp
    rw [ho]
    simp only [Instr.box, newVar, Sem.run_bind, pointer_new, Result.andThen_ok, Sem.run_pure, Array.toArray_toList]
  · cases hm
theorem zeroIs_spec {t : TypeId} {z : List SV} (h : zeroIs P t z = true) : ∃ i zv, P.info? t = some i ∧ i.zero = some zv ∧ (zeroValue t).run P w = .ok zv w ∧ F2 (SVR w home hd rt) z zv.cells.toList ∧ ∀ x ∈ z, x.ids = [] := by
  unfold zeroIs at h
  split at h
  · rename_i i hi
    split at h
    · rename_i zv hz
      obtain ⟨h1, h2⟩ := all2_iff h
      refine ⟨i, zv, hi, hz, by simp [zeroValue, run_typeInfo w hi, hz], ⟨h1.symm, fun j x v hx hv => (svOk_R (h2 j v x hv hx) w home hd rt).1⟩, fun x hx => ?_⟩
      obtain ⟨j, hj⟩ := List.getElem?_of_mem hx
      have hlt : j < zv.cells.toList.length := by rw [h1]; exact (List.getElem?_eq_some_iff.1 hj).1
      exact (svOk_R (h2 j _ x (List.getElem?_eq_getElem hlt) hj) w home hd rt).2
    · cases h
  · cases h
theorem ok_alloc (old : RtR w home hd rt F0) {id : Nat} {z : List SV} (hm : mAlloc P o.op z = true) (h : newRt rt id (.box z) = some rt') : OpOk ids P o a w home hd rt (.sv (.pb id 0)) rt' := by
  unfold mAlloc at hm
  split at hm
  · rename_i t ho
    obtain ⟨i, zv, hi, hz, hrun, hf, _⟩ := zeroIs_spec (w := w) (home := home) (hd := hd) (rt := rt) hm
    refine ok_newbox old hf h (e := t) ?_
    unfold execOp
    rw [ho]
    simp only [Instr.alloc, newVar, Sem.run_bind, hrun, pointer_new, Result.andThen_ok, Sem.run_pure, Array.toArray_toList]
  · cases hm
theorem asmHome_F0 (old : RtR w home hd rt F0) {k0 id : Nat} {B : Option Nat} {g : Nat → Path → Option Path} {b : Nat} (hb : some b ≠ B) : asmHome home k0 id B g b = home b := by
  cases h : home b with
  | none => exact asmHome_none hb h
  | some x =>
    obtain ⟨l, q⟩ := x
    cases l with
    | x => exact asmHome_x hb h
    | r i => exact asmHome_r hb h
    | t m =>
      obtain ⟨_, r, h1, _⟩ := old.lab b _ q h
      cases h1
theorem ok_mkn (old : RtR w home hd rt F0) {id : Nat} {k : K} (hm : mMkn o.op k = true) (h : newRt rt id (.arr true false k.empty) = some rt') : OpOk ids P o a w home hd rt (.sv (.ref id [] 0 0)) rt' := by
  obtain ⟨h1, h2, h3, rfl⟩ := newRt_spec h
  have hk : 0 < k.sz ∧ (execOp a.eval o).run P w = .ok (.value (.slice none 0 0)) w := by
    unfold mMkn at hm
    split at hm
    · rename_i ho; exact ⟨by simpa using hm, by unfold execOp; rw [ho]; rfl⟩
    · rename_i ho; exact ⟨by simpa using hm, by unfold execOp; rw [ho]; rfl⟩
    · cases hm
  have hs := assemble (w' := w) old h1 h2 (k0 := 0) (B := none) (fun _ _ => none) (d := true) (c := k.empty) (u := .slice none 0 0) (fun b h => by cases h) (fun _ _ _ => rfl) rfl rfl rfl (Nat.le_refl _) (CR.kempty hk.1)
  rw [asmF_F0] at hs
  refine .value hk.2 hs ⟨⟨none, 0, rfl⟩, fun d t c hr ht c' u hg hu sz m tot hsh => ?_⟩
  rw [updF_same] at hr
  injection hr with hr
  injection hr with e1 e2 e3
  subst e1 e2 e3
  have e1 : k.empty.get [] = some k.empty := by cases k <;> rfl
  rw [e1] at hg; injection hg with hg; subst hg
  have e2 : ∀ c (u : Value), hdAt w c u [] = some u := fun c u => by cases c <;> rfl
  rw [e2, updL_same] at hu; injection hu with hu; subst hu
  exact Part.self sz (Nat.le_refl _)

/-! ### Literals -/
theorem fold_set (off : Nat) : ∀ (vs : List Value) (k : Nat) (cells : Array Value), off + k + vs.length ≤ cells.size →
    ((vs.zipIdx k).foldl (fun cs (q : Value × Nat) => cs.setIfInBounds (off + q.2) q.1) cells).toList = cells.toList.take (off + k) ++ vs ++ cells.toList.drop (off + k + vs.length)
  | [], k, cells, h => by simp
  | v :: vs, k, cells, h => by
    simp only [List.length_cons] at h
    rw [List.zipIdx_cons, List.foldl_cons]
    have ih := fold_set off vs (k + 1) (cells.setIfInBounds (off + k) v) (by simp; omega)
    rw [ih]
    simp only [Array.toList_setIfInBounds]
    have hlen : off + k < cells.toList.length := by simp; omega
    have h1 : (cells.toList.set (off + k) v).take (off + (k + 1)) = cells.toList.take (off + k) ++ [v] := by
      rw [show off + (k + 1) = (off + k) + 1 by omega, List.take_succ_eq_append_getElem (by simpa using hlen)]
      simp [List.take_set_of_le]
    have h2 : (cells.toList.set (off + k) v).drop (off + (k + 1) + vs.length) = cells.toList.drop (off + k + (vs.length + 1)) := by
      rw [List.drop_set_of_lt (by omega)]
      congr 1; omega
    rw [h1, h2]
    simp
theorem setSeg_spec {α : Type} {l r xs : List α} {off : Nat} (h : setSeg l off xs = some r) : off + xs.length ≤ l.length ∧ r = l.take off ++ xs ++ l.drop (off + xs.length) := by
  unfold setSeg at h
  split at h
  · rename_i hc; injection h with h; exact ⟨hc, h.symm⟩
  · cases h
theorem F2.append {α β : Type} {R : α → β → Prop} {xs xs' : List α} {ys ys' : List β} (h : F2 R xs ys) (h' : F2 R xs' ys') : F2 R (xs ++ xs') (ys ++ ys') := by
  refine ⟨by simp [h.1, h'.1], fun i x y hx hy => ?_⟩
  by_cases hi : i < xs.length
  · rw [List.getElem?_append_left hi] at hx
    rw [List.getElem?_append_left (by rw [← h.1]; exact hi)] at hy
    exact h.2 i x y hx hy
  · rw [List.getElem?_append_right (by omega)] at hx
    rw [List.getElem?_append_right (by rw [← h.1]; omega), ← h.1] at hy
    exact h'.2 _ x y hx hy
theorem F2.take {α β : Type} {R : α → β → Prop} {xs : List α} {ys : List β} (h : F2 R xs ys) (n : Nat) : F2 R (xs.take n) (ys.take n) := by
  have := h.seg 0 n
  simpa using this
theorem F2.drop {α β : Type} {R : α → β → Prop} {xs : List α} {ys : List β} (h : F2 R xs ys) (n : Nat) : F2 R (xs.drop n) (ys.drop n) := by
  refine ⟨by simp [h.1], fun i x y hx hy => ?_⟩
  rw [List.getElem?_drop] at hx hy
  exact h.2 _ x y hx hy
theorem F2.setSeg {α β : Type} {R : α → β → Prop} {xs us r : List α} {ys vs : List β} {off : Nat} (h : F2 R xs ys) (h' : F2 R us vs) (hs : T.setSeg xs off us = some r) : F2 R r (ys.take off ++ vs ++ ys.drop (off + vs.length)) := by
  obtain ⟨_, rfl⟩ := setSeg_spec hs
  rw [← h'.1]
  exact ((h.take off).append h').append (h.drop _)
/-- Go's filling of a struct's or an array's parts. -/
theorem fill_spec {place : Nat → Option (Nat × Nat)} : ∀ {ps : List (Nat × Value)} {qs : List (Nat × Nat × List SV)} {z r : List SV} {cells : Array Value}, F2 (SVR w home hd rt) z cells.toList →
    ps.length = qs.length → (∀ (i : Nat) p q, ps[i]? = some p → qs[i]? = some q → place p.1 = some (q.1, q.2.1) ∧ F2 (SVR w home hd rt) q.2.2 p.2.cells.toList) → fillC z qs = some r →
    ∃ cells', Instr.fill place cells ps = some cells' ∧ F2 (SVR w home hd rt) r cells'.toList
  | [], [], z, r, cells, hz, _, _, h => by simp only [fillC, Option.some.injEq] at h; subst h; exact ⟨cells, rfl, hz⟩
  | [], _ :: _, _, _, _, _, hl, _, _ => by simp at hl
  | _ :: _, [], _, _, _, _, hl, _, _ => by simp at hl
  | (i, v) :: ps, (off, size, xs) :: qs, z, r, cells, hz, hl, hp, h => by
    simp only [fillC] at h
    split at h
    · rename_i hlen
      split at h
      · rename_i z1 hz1
        obtain ⟨h1, h2⟩ := hp 0 _ _ rfl rfl
        simp only at h1 h2
        have hsz : v.cells.size = size := by rw [← hlen, h2.1]; simp
        obtain ⟨hle, _⟩ := setSeg_spec hz1
        have hle2 : off + v.cells.size ≤ cells.size := by
          have e1 := hz.1
          have e2 : cells.toList.length = cells.size := Array.length_toList
          rw [hsz, ← hlen]; omega
        have hnew := hz.setSeg h2 hz1
        have hfold := fold_set off v.cells.toList 0 cells (by simpa using hle2)
        simp only [Nat.add_zero, Array.length_toList] at hfold
        have hfold' : (v.cells.zipIdx.foldl (fun cs (q : Value × Nat) => cs.setIfInBounds (off + q.2) q.1) cells) = (cells.toList.take off ++ v.cells.toList ++ cells.toList.drop (off + v.cells.size)).toArray := by
          apply Array.ext'
          rw [← Array.foldl_toList, Array.toList_zipIdx]
          exact hfold
        have ih := fill_spec (place := place) (ps := ps) (qs := qs) (z := z1) (r := r) (cells := (cells.toList.take off ++ v.cells.toList ++ cells.toList.drop (off + v.cells.size)).toArray)
          (by simpa using hnew) (by simpa using hl) (fun j p q h3 h4 => hp (j + 1) p q h3 h4) h
        obtain ⟨cells', k1, k2⟩ := ih
        refine ⟨cells', ?_, k2⟩
        simp only [Instr.fill, h1]
        rw [if_neg (by simp only [Bool.or_eq_true, decide_eq_true_eq, not_or]; omega)]
        rw [← k1]
        congr 1
      · cases h
    · cases h
theorem run_mapM_sizes {fs : Array Field} (h : fs.all (fun f => (P.info? f.type).isSome) = true) :
    (fs.mapM fun f => (do pure (f.offset, ← sizeOf f.type) : Sem (Nat × Nat))).run P w = .ok (fs.map fun f => (f.offset, P.cellsOf f.type)) w := by
  have key : ∀ (l : List Field), (∀ f ∈ l, (P.info? f.type).isSome = true) → (l.mapM fun f => (do pure (f.offset, ← sizeOf f.type) : Sem (Nat × Nat))).run P w = .ok (l.map fun f => (f.offset, P.cellsOf f.type)) w := by
    intro l
    induction l with
    | nil => intro _; rfl
    | cons f l ih =>
      intro hl
      obtain ⟨i, hi⟩ := Option.isSome_iff_exists.1 (hl f (List.mem_cons_self ..))
      rw [List.mapM_cons]
      simp only [Sem.run_bind, run_sizeOf w hi, Result.andThen_ok, Sem.run_pure, ih (fun g hg => hl g (List.mem_cons_of_mem _ hg)), List.map_cons]
  rw [Array.mapM_eq_mapM_toList]
  rw [Sem.run_map, key fs.toList (fun f hf => by
    rw [Array.all_eq_true_iff_forall_mem] at h
    exact h f (by simpa using hf))]
  simp only [Result.andThen_ok, Result.ok.injEq, and_true]
  apply Array.ext'
  simp
theorem ok_build (old : RtR w home hd rt F0) (he : EvR ids w home hd rt ev a.eval) {z : List SV} {parts : List (Nat × Nat × Opd)} (hm : mBuild ids P o.op z parts = true) {l : List (Nat × Nat × List SV)}
    (hl : mapO (fun q => (evC ev q.2.2).map (fun xs => (q.1, q.2.1, xs))) parts = some l) {xs : List SV} (h : fillC z l = some xs) : OpOk ids P o a w home hd rt (.v (.agg xs)) rt := by
  unfold mBuild at hm
  split at hm
  · rename_i t ps ho
    simp only [Bool.and_eq_true] at hm
    obtain ⟨h1, h2⟩ := hm
    obtain ⟨i, zv, hi, hz, hrun, hf, _⟩ := zeroIs_spec (w := w) (home := home) (hd := hd) (rt := rt) h1
    obtain ⟨m1, m2⟩ := mapO_spec hl
    have hparts : ∀ (j : Nat) q r, parts[j]? = some q → l[j]? = some r → r.1 = q.1 ∧ r.2.1 = q.2.1 ∧ evC ev q.2.2 = some r.2.2 := by
      intro j q r hq hr
      have := m2 j q r hq hr
      rw [Option.map_eq_some_iff] at this
      obtain ⟨ys, e1, e2⟩ := this
      subst e2
      exact ⟨rfl, rfl, e1⟩
    have fin : ∀ {place : Nat → Option (Nat × Nat)}, ps.toList.length = parts.length → (∀ (j : Nat) p q, ps.toList[j]? = some p → parts[j]? = some q → mOpd ids p.2 q.2.2 = true ∧ place p.1 = some (q.1, q.2.1)) →
        ∃ cells', Instr.fill place zv.cells (ps.map fun (i, x) => (i, a.eval x)).toList = some cells' ∧ F2 (SVR w home hd rt) xs cells'.toList := by
      intro place hlen hp
      refine fill_spec hf (by simp [hlen, m1]) (fun j p r hp' hr => ?_) h
      rw [Array.toList_map, List.getElem?_map, Option.map_eq_some_iff] at hp'
      obtain ⟨p0, hp0, rfl⟩ := hp'
      have hlt : j < parts.length := by rw [m1]; exact (List.getElem?_eq_some_iff.1 hr).1
      obtain ⟨e1, e2, e3⟩ := hparts j _ r (List.getElem?_eq_getElem hlt) hr
      obtain ⟨g1, g2⟩ := hp j p0 _ hp0 (List.getElem?_eq_getElem hlt)
      exact ⟨by rw [e1, e2]; exact g2, (he.C g1 e3).1⟩
    have fin2 : ∀ {cells' : Array Value}, (Instr.build t (ps.map fun (i, x) => (i, a.eval x))).run P w = .ok (.agg cells') w → F2 (SVR w home hd rt) xs cells'.toList → OpOk ids P o a w home hd rt (.v (.agg xs)) rt := by
      intro cells' hr hF
      refine .value (v := .agg cells') (w' := w) ?_ (Step.refl old) ⟨cells'.toList, by simp, hF⟩
      unfold execOp
      rw [ho]
      simp only [Sem.run_bind, hr, Result.andThen_ok, Sem.run_pure]
    split at h2
    · rename_i fs hd1
      simp only [Bool.and_eq_true] at h2
      obtain ⟨h3, h4⟩ := h2
      obtain ⟨g1, g2⟩ := all2_iff h4
      obtain ⟨cells', k1, k2⟩ := fin (place := fun i => (fs.map fun f => (f.offset, P.cellsOf f.type))[i]?) g1 (fun j p q hp hq => by
        have := g2 j p q hp hq
        simp only [Bool.and_eq_true] at this
        obtain ⟨e1, e2⟩ := this
        refine ⟨e1, ?_⟩
        split at e2
        · rename_i f hf'
          simp only [Bool.and_eq_true, beq_iff_eq] at e2
          obtain ⟨ti, hti, hsz⟩ := elemIs_spec e2.2
          rw [Array.getElem?_map, hf', Option.map_some]
          simp [Program.cellsOf, hti, hsz, e2.1]
        · cases e2)
      refine fin2 (cells' := cells') ?_ k2
      unfold Instr.build
      simp only [Sem.run_bind, hrun, Result.andThen_ok, run_underlying hd1, run_mapM_sizes h3, k1, Sem.run_pure]
    · rename_i n e hd1
      simp only [Bool.and_eq_true] at h2
      obtain ⟨⟨h3, h4⟩, h5⟩ := h2
      obtain ⟨ti, hti⟩ := Option.isSome_iff_exists.1 h5
      obtain ⟨g1, g2⟩ := all2_iff h3
      obtain ⟨cells', k1, k2⟩ := fin (place := fun i => some (i * ti.size, ti.size)) g1 (fun j p q hp hq => by
        have := g2 j p q hp hq
        simp only [Bool.and_eq_true, beq_iff_eq] at this
        obtain ⟨⟨e1, e2⟩, e3⟩ := this
        obtain ⟨ti', hti', hsz⟩ := elemIs_spec e3
        rw [hti] at hti'
        injection hti' with hti'
        subst hti'
        exact ⟨e1, by rw [e2, hsz]⟩)
      refine fin2 (cells' := cells') ?_ k2
      unfold Instr.build
      simp only [Sem.run_bind, hrun, Result.andThen_ok, run_underlying hd1, run_sizeOf' hti, k1, Sem.run_pure]
    · cases h2
  · cases hm

/-- Filling a row from end to end. -/
theorem fill_dense {size : Nat} : ∀ (vs : List Value) (k : Nat) (pre rest : List Value), (∀ v ∈ vs, v.cells.size = size) → pre.length = k * size → rest.length = vs.length * size →
    Instr.fill (fun i => some (i * size, size)) (pre ++ rest).toArray ((List.range' k vs.length).zip vs) = some (pre ++ vs.flatMap (fun v => v.cells.toList)).toArray
  | [], k, pre, rest, _, _, hr => by
    have : rest = [] := List.eq_nil_of_length_eq_zero (by simpa using hr)
    subst this
    simp [Instr.fill]
  | v :: vs, k, pre, rest, hv, hp, hr => by
    have h1 := hv v (List.mem_cons_self ..)
    have hlen : size ≤ rest.length := by rw [hr, List.length_cons, Nat.add_mul]; omega
    simp only [List.length_cons, List.range'_succ, List.zip_cons_cons, Instr.fill]
    rw [if_neg (by simp only [h1, Bool.or_eq_true, decide_eq_true_eq, not_or]; simp; omega)]
    have hfold := fold_set (k * size) v.cells.toList 0 (pre ++ rest).toArray (by simp; omega)
    simp only [Nat.add_zero, Array.length_toList, List.toList_toArray] at hfold
    have hfold' : (v.cells.zipIdx.foldl (fun cs (q : Value × Nat) => cs.setIfInBounds (k * size + q.2) q.1) (pre ++ rest).toArray) = ((pre ++ v.cells.toList) ++ rest.drop size).toArray := by
      apply Array.ext'
      rw [← Array.foldl_toList, Array.toList_zipIdx]
      rw [hfold, ← hp, List.take_left, List.drop_append, h1]
      simp
    have ih := fill_dense vs (k + 1) (pre ++ v.cells.toList) (rest.drop size) (fun u hu => hv u (List.mem_cons_of_mem _ hu)) (by simp [hp, h1, Nat.add_mul]) (by rw [List.length_drop, hr, List.length_cons, Nat.add_mul]; omega)
    have : (List.foldl (fun cs (q : Value × Nat) => cs.setIfInBounds (k * size + q.2) q.1) (pre ++ rest).toArray v.cells.zipIdx.toList) = ((pre ++ v.cells.toList) ++ rest.drop size).toArray := by
      rw [Array.foldl_toList]; exact hfold'
    simp only [List.flatMap_cons]
    rw [← List.append_assoc, ← ih]
    congr 1

/-! ### A row of what was taken -/
/-- Of a thing that was taken: it goes to T. -/
theorem Held.goes {w' : World} {home' : Home} (old : RtR w home hd rt F) {m : Nat} {ow : Ow} {c : C} {v : Value} (h : Held w home hd F m ow c v) {T : Tg}
    (himm : ∀ b, b < w.heap.size → home b = none → w'.heap[b]? = w.heap[b]? ∧ home' b = none)
    (hT : ∀ q b, b < w.heap.size → home b = some (.t m, q) → w'.heap[b]? = w.heap[b]? ∧ home' b = (T.exts q).lab)
    (hok : T = .imm ∨ ((∃ l p, T = .own l p) ∧ okDeep (ow, c) = true)) : CR w' home' T c v := by
  rcases h with ⟨rfl, hc⟩ | ⟨hne, hF, hv, hone⟩
  · rcases hok with rfl | ⟨_, hd'⟩
    · exact hc.move (fun q b hb hl => by rw [Tg.exts_imm] at hl ⊢; exact himm b hb hl) (Ok.imm _)
    · simp only [okDeep, Bool.or_eq_true, decide_eq_true_eq, reduceCtorEq, or_false] at hd'
      cases c <;> simp only [C.isVal, Bool.false_eq_true] at hd'
      cases hc with
      | val h => exact .val h
  · subst hv
    have hroot : CR w home (arrTg (decide (ow = .deep)) (.t m)) c (hd (.t m)) := old.root (.t m) _ hF
    by_cases hval : c.isVal = true
    · cases c <;> simp only [C.isVal, Bool.false_eq_true] at hval
      cases hroot with
      | val h => exact .val h
    · have hcase : T = .imm ∨ ((∃ l p, T = .own l p) ∧ ow = .deep) := by
        rcases hok with h | ⟨h1, h2⟩
        · exact Or.inl h
        · simp only [okDeep, Bool.or_eq_true, decide_eq_true_eq] at h2
          exact Or.inr ⟨h1, h2.resolve_left hval⟩
      rcases hcase with rfl | ⟨⟨l, p, rfl⟩, rfl⟩
      · refine hroot.move (fun q b hb hl => ?_) (Ok.imm _)
        rw [Tg.exts_imm]
        rcases arrTg_exts (decide (ow = .deep)) (.t m) q with h1 | h1
        · exact himm b hb (hl.trans h1)
        · have := hT q b hb (hl.trans h1)
          rw [Tg.exts_imm] at this; exact this
      · simp only [decide_true] at hroot
        refine hroot.move (fun q b hb hl => ?_) (Ok.own _ _ _)
        rw [exts_true_own] at hl
        exact hT q b hb hl
/-- Cells of a row of elements, one behind the other. -/
theorem flat_get {α : Type} {sz : Nat} : ∀ {l : List (List α)} {i j : Nat} {e : List α} {x : α}, (∀ e ∈ l, e.length = sz) → l[i]? = some e → e[j]? = some x → l.flatten[i * sz + j]? = some x
  | [], i, j, e, x, _, h, _ => by simp at h
  | e0 :: l, i, j, e, x, hl, hi, hj => by
    have h0 := hl e0 (List.mem_cons_self ..)
    rw [List.flatten_cons]
    cases i with
    | zero =>
      simp only [List.getElem?_cons_zero, Option.some.injEq] at hi
      subst hi
      rw [Nat.zero_mul, Nat.zero_add, List.getElem?_append_left (List.getElem?_eq_some_iff.1 hj).1]
      exact hj
    | succ i =>
      simp only [List.getElem?_cons_succ] at hi
      have := flat_get (fun e he => hl e (List.mem_cons_of_mem _ he)) hi hj
      rw [Nat.add_mul, Nat.one_mul, List.getElem?_append_right (by omega), h0, show i * sz + sz + j - sz = i * sz + j by omega]
      exact this
theorem flat_len {α : Type} {sz : Nat} : ∀ {l : List (List α)}, (∀ e ∈ l, e.length = sz) → l.flatten.length = l.length * sz
  | [], _ => by simp
  | e :: l, h => by
    rw [List.flatten_cons, List.length_append, h e (List.mem_cons_self ..), flat_len (fun e he => h e (List.mem_cons_of_mem _ he)), List.length_cons, Nat.add_mul]
    omega
/-- A new block with a row of elements. -/
theorem Hdr.new {w' : World} {home' : Home} {t : Tg} {lb : Lb × Path} (ht : t.lab = some lb) {B n cap sz e : Nat} {cur : Array Value} (h0 : 0 < sz) (hc : n ≤ cap) (hm : cap ≤ maxLen) (hb : home' B = some lb) (hg : w'.heap[B]? = some (.cells cur e (0, 0))) (hs : cur.size = cap * sz) {vs : Nat → Nat → Value}
    (hv : ∀ i j, i < n → j < sz → cur[i * sz + j]? = some (vs i j)) : Hdr w' home' t (.slice (some ⟨B, 0, none⟩) n cap) n n sz vs := by
  refine ⟨h0, Nat.le_refl _, some ⟨B, 0, none⟩, cap, rfl, hc, hm, ?_⟩
  rw [ht]
  exact Or.inr ⟨B, cur, e, rfl, hb, hg, hs, hv⟩
theorem takesL_flat : ∀ {xs : List (List SV)} {rt rt' : Rts} {l : List (List (Ow × C))}, takesL rt xs = some (l, rt') → takes rt xs.flatten = some (l.flatten, rt') ∧ l.length = xs.length ∧ ∀ (i : Nat) x y, xs[i]? = some x → l[i]? = some y → y.length = x.length
  | [], rt, rt', l, h => by
    simp only [takesL, Option.some.injEq, Prod.mk.injEq] at h
    obtain ⟨rfl, rfl⟩ := h
    exact ⟨rfl, rfl, fun i x y hx => by simp at hx⟩
  | x :: xs, rt, rt', l, h => by
    simp only [takesL] at h
    split at h
    · rename_i l1 rt1 h1
      split at h
      · rename_i ls rt2 h2
        simp only [Option.some.injEq, Prod.mk.injEq] at h
        obtain ⟨rfl, rfl⟩ := h
        obtain ⟨g1, g2, g3⟩ := takesL_flat h2
        have app : ∀ (as : List SV) {bs : List SV} {rt0 rt1 rt2 : Rts} {la lb : List (Ow × C)}, takes rt0 as = some (la, rt1) → takes rt1 bs = some (lb, rt2) → takes rt0 (as ++ bs) = some (la ++ lb, rt2) ∧ la.length = as.length := by
          intro as
          induction as with
          | nil =>
            intro bs rt0 rt1 rt2 la lb h1 h2
            simp only [takes, Option.some.injEq, Prod.mk.injEq] at h1
            obtain ⟨rfl, rfl⟩ := h1
            exact ⟨h2, rfl⟩
          | cons a as ih =>
            intro bs rt0 rt1 rt2 la lb h1 h2
            simp only [takes] at h1
            split at h1
            · rename_i o c rtm hm
              split at h1
              · rename_i l' rtn hn
                simp only [Option.some.injEq, Prod.mk.injEq] at h1
                obtain ⟨rfl, rfl⟩ := h1
                obtain ⟨e1, e2⟩ := ih hn h2
                exact ⟨by simp only [List.cons_append, takes, hm, e1], by simp [e2]⟩
              · cases h1
            · cases h1
        obtain ⟨e1, e2⟩ := app x h1 g1
        refine ⟨by rw [List.flatten_cons, List.flatten_cons]; exact e1, by simp [g2], fun i x' y' hx hy => ?_⟩
        cases i with
        | zero => simp at hx hy; subst hx hy; exact e2
        | succ i => simp at hx hy; exact g3 i x' y' hx hy
      · cases h
    · cases h
theorem idx_div {i j sz : Nat} (h : j < sz) : (i * sz + j) / sz = i := by
  rw [Nat.add_comm, Nat.add_mul_div_right _ _ (by omega), Nat.div_eq_of_lt h, Nat.zero_add]
theorem idx_mod {i j sz : Nat} (h : j < sz) : (i * sz + j) % sz = j := by
  rw [Nat.add_comm, Nat.add_mul_mod_self_right, Nat.mod_eq_of_lt h]
theorem Held.val (old : RtR w home hd rt F) {m : Nat} {ow : Ow} {u v : Value} (h : Held w home hd F m ow (.val u) v) : v = u ∧ u.oneCell' = true := by
  rcases h with ⟨_, hc⟩ | ⟨_, hF, hv, _⟩
  · cases hc with
    | val h => exact ⟨rfl, h⟩
  · have hroot : CR w home (arrTg (decide (ow = .deep)) (.t m)) (.val u) (hd (.t m)) := old.root (.t m) _ hF
    generalize hd (.t m) = x at hroot hv
    subst hv
    cases hroot with
    | val h => exact ⟨rfl, h⟩
theorem asm_imm {k0 id B : Nat} {g : Nat → Path → Option Path} {w' : World} (hB : ∀ b, b < w.heap.size → home b = none → b ≠ B) (hblk : ∀ b, b < w.heap.size → b ≠ B → w'.heap[b]? = w.heap[b]?) :
    ∀ b, b < w.heap.size → home b = none → w'.heap[b]? = w.heap[b]? ∧ asmHome home k0 id (some B) g b = none := fun b hb h =>
  ⟨hblk b hb (hB b hb h), asmHome_none (by simp [hB b hb h]) h⟩
/-- A row of elements with rows in them. -/
theorem row_new (old : RtR w home hd rt F) {sz : Nat} (h0 : 0 < sz) {es : List (List (Ow × C))} {vs : List Value} (hlen : vs.length = es.flatten.length) (hsz : ∀ e ∈ es, e.length = sz)
    (held : ∀ m q v, es.flatten[m]? = some q → vs[m]? = some v → Held w home hd F m q.1 q.2 v) {id : Nat} (hid : rt id = none) (h64 : 64000 ≤ id) {d : Bool} (hd' : d = true → ∀ e ∈ es, ∀ q ∈ e, okDeep q = true) (hn : es.length ≤ maxLen) (e : TypeId) :
    ∃ home' hd2, Step w home hd rt F (w.alloc (.cells vs.toArray e)) home' hd2 (upd rt id (.arr d false (.sl sz (es.map (·.map (·.2))) []))) F0 ∧ hd2 (.r id) = .slice (some ⟨w.heap.size, 0, none⟩) es.length es.length := by
  let g : Nat → Path → Option Path := fun m q => if d then some ((m / sz, m % sz) :: q) else none
  have hblk : ∀ b, b < w.heap.size → (w.alloc (.cells vs.toArray e)).heap[b]? = w.heap[b]? := fun b hb => heap_alloc_old w _ b hb
  have himm := asm_imm (w' := w.alloc (.cells vs.toArray e)) (home := home) (k0 := 0) (id := id) (g := g) (B := w.heap.size) (fun b hb _ => by omega) (fun b hb _ => hblk b hb)
  have hfl : es.flatten.length = es.length * sz := flat_len hsz
  have hc : CR (w.alloc (.cells vs.toArray e)) (asmHome home 0 id (some w.heap.size) g) (arrTg d (.r id)) (.sl sz (es.map (·.map (·.2))) []) (.slice (some ⟨w.heap.size, 0, none⟩) es.length es.length) := by
    refine .sl (fun i j => vs.getD (i * sz + j) undef) (fun e' he' => ?_) ?_ (fun i j e' c h1 h2 => ?_)
    · simp only [List.append_nil, List.mem_map] at he'
      obtain ⟨e0, h1, rfl⟩ := he'
      rw [List.length_map]; exact hsz e0 h1
    · simp only [List.length_map, List.length_nil, Nat.add_zero]
      have hlab : (arrTg d (.r id)).lab = some (.r id, []) := by cases d <;> rfl
      refine Hdr.new hlab h0 (Nat.le_refl _) hn asmHome_B (heap_alloc_new w _) (by simp [hlen, hfl]) (fun i j hi hj => ?_)
      have hlt : i * sz + j < vs.length := by
        rw [hlen, hfl]
        have : (i + 1) * sz ≤ es.length * sz := Nat.mul_le_mul_right _ hi
        rw [Nat.add_mul] at this; omega
      simp [List.getD_eq_getElem?_getD, List.getElem?_eq_getElem hlt]
    · rw [List.append_nil, List.getElem?_map, Option.map_eq_some_iff] at h1
      obtain ⟨e0, h3, rfl⟩ := h1
      rw [List.getElem?_map, Option.map_eq_some_iff] at h2
      obtain ⟨q, h4, rfl⟩ := h2
      have hmem := List.mem_of_getElem? h3
      have hj : j < sz := by rw [← hsz e0 hmem]; exact (List.getElem?_eq_some_iff.1 h4).1
      have hflat := flat_get hsz h3 h4
      have hlt : i * sz + j < vs.length := by rw [hlen]; exact (List.getElem?_eq_some_iff.1 hflat).1
      have hv : vs.getD (i * sz + j) undef = vs[i * sz + j] := by simp [List.getD_eq_getElem?_getD, List.getElem?_eq_getElem hlt]
      show CR _ _ _ _ (vs.getD (i * sz + j) undef)
      rw [hv]
      refine Held.goes old (held _ q _ hflat (List.getElem?_eq_getElem hlt)) himm (fun q' b hb hl => ⟨hblk b hb, ?_⟩) ?_
      · rw [asmHome_t (by simp; omega) hl (Nat.zero_le _)]
        cases d with
        | true => simp [g, idx_div hj, idx_mod hj, arrTg, Tg.ext, Tg.exts_own, Tg.lab]
        | false => simp [g, arrTg, Tg.ext, Tg.exts_imm, Tg.lab]
      · cases d with
        | true => exact Or.inr ⟨⟨_, _, rfl⟩, hd' rfl e0 hmem q (List.mem_of_getElem? h4)⟩
        | false => exact Or.inl rfl
  have hs := assemble (w' := w.alloc (.cells vs.toArray e)) old hid h64 (k0 := 0) (B := some w.heap.size) g (fun b hb => by injection hb with hb; subst hb; exact ⟨by simp, fun h => by omega⟩) (fun b hb _ => hblk b hb) rfl rfl rfl (by simp) hc
  have : asmF F 0 = F0 := by funext j; simp [asmF, F0]
  rw [this] at hs
  exact ⟨_, _, hs, updL_same _ _ _⟩
/-- A row of elements that are scalars all through. -/
theorem row_flat (old : RtR w home hd rt F) {w' : World} {sz : Nat} (h0 : 0 < sz) {es : List (List Value)} {cap : Nat} {cur : Array Value} (hsz : ∀ e ∈ es, e.length = sz) (hone : ∀ e ∈ es, ∀ v ∈ e, v.oneCell' = true)
    {id : Nat} (hid : rt id = none) (h64 : 64000 ≤ id) (hn : es.length ≤ cap) (hcm : cap ≤ maxLen) {e : TypeId} (hblk : ∀ b, b < w.heap.size → w'.heap[b]? = w.heap[b]?)
    (hg : w'.heap[w.heap.size]? = some (.cells cur e (0, 0))) (hs : cur.size = cap * sz) (hcur : ∀ (m : Nat) v, es.flatten[m]? = some v → cur[m]? = some v)
    (os : w'.os = w.os) (tape : w'.tape = w.tape) (output : w'.output = w.output) :
    ∃ home' hd2, Step w home hd rt F w' home' hd2 (upd rt id (.arr true false (.fl sz es []))) F0 ∧ hd2 (.r id) = .slice (some ⟨w.heap.size, 0, none⟩) es.length cap := by
  have hsize : w.heap.size < w'.heap.size := heap_lt hg
  have hc : CR w' (asmHome home 0 id (some w.heap.size) (fun _ _ => none)) (arrTg true (.r id)) (.fl sz es []) (.slice (some ⟨w.heap.size, 0, none⟩) es.length cap) := by
    refine .fl (fun e' he' => ?_) ?_
    · rw [List.append_nil] at he'; exact ⟨hsz e' he', hone e' he'⟩
    · rw [List.length_nil, Nat.add_zero, List.append_nil]
      refine Hdr.new (t := arrTg true (.r id)) rfl h0 hn hcm asmHome_B hg hs (fun i j hi hj => ?_)
      have h1 : es[i]? = some es[i] := List.getElem?_eq_getElem hi
      have h2 : j < (es[i]).length := by rw [hsz _ (List.getElem_mem hi)]; exact hj
      have h3 := flat_get hsz h1 (List.getElem?_eq_getElem h2)
      rw [hcur _ _ h3]
      simp [List.getD_eq_getElem?_getD, h1, List.getElem?_eq_getElem h2]
  have hst := assemble (w' := w') old hid h64 (k0 := 0) (B := some w.heap.size) (fun _ _ => none) (fun b hb => by injection hb with hb; subst hb; exact ⟨hsize, fun h => by omega⟩) (fun b hb _ => hblk b hb) os tape output (by omega) hc
  have : asmF F 0 = F0 := by funext j; simp [asmF, F0]
  rw [this] at hst
  exact ⟨_, _, hst, updL_same _ _ _⟩
/-- A reference to a new row. -/
theorem new_ref {id : Nat} {d : Bool} {c : C} {hd2 : Lb → Value} {a0 : Option Addr} {m cap n : Nat} (hh : hd2 (.r id) = .slice a0 m cap) (hn : n ≤ cap) : SVR w home hd2 (upd rt id (.arr d false c)) (.ref id [] 0 n) (.slice a0 n cap) := by
  refine ⟨⟨_, _, rfl⟩, fun d1 t1 c1 hr _ c' u hg hu sz m2 tot hsh => ?_⟩
  rw [updF_same] at hr
  injection hr with hr
  injection hr with e1 e2 e3
  subst e1 e2 e3
  have e1 : c.get [] = some c := by cases c <;> rfl
  rw [e1] at hg; injection hg with hg; subst hg
  have e2 : ∀ c (u : Value), hdAt w c u [] = some u := fun c u => by cases c <;> rfl
  rw [e2, hh] at hu; injection hu with hu; subst hu
  exact Part.self sz hn
theorem bsEs_spec {k : K} {es : List (List (Ow × C))} {d : Bool} {c : C} (h : bsEs k es = some (d, c)) : (∀ e ∈ es, e.length = k.sz) ∧
    ((∃ sz es', k = .fl sz ∧ mapO (fun e => vals (e.map (·.2))) es = some es' ∧ d = true ∧ c = .fl sz es' []) ∨
     (∃ sz, k = .sl sz ∧ d = es.all (·.all okDeep) ∧ c = .sl sz (es.map (·.map (·.2))) [])) := by
  cases k with
  | fl sz =>
    simp only [bsEs] at h
    split at h
    · rename_i hs
      simp only [List.all_eq_true, beq_iff_eq] at hs
      rw [Option.map_eq_some_iff] at h
      obtain ⟨es', h1, h2⟩ := h
      injection h2 with h2 h3
      exact ⟨hs, Or.inl ⟨sz, es', rfl, h1, h2.symm, h3.symm⟩⟩
    · cases h
  | sl sz =>
    simp only [bsEs] at h
    split at h
    · rename_i hs
      simp only [List.all_eq_true, beq_iff_eq] at hs
      injection h with h
      injection h with h2 h3
      exact ⟨hs, Or.inr ⟨sz, rfl, h2.symm, h3.symm⟩⟩
    · cases h
theorem vals_spec : ∀ {cs : List C} {vs : List Value}, vals cs = some vs → cs = vs.map .val
  | [], vs, h => by simp only [vals, Option.some.injEq] at h; subst h; rfl
  | .val v :: cs, vs, h => by
    simp only [vals] at h
    split at h
    · rename_i vs' h1
      injection h with h
      subst h
      rw [vals_spec h1]; rfl
    · cases h
  | .fl _ _ _ :: _, _, h => by cases h
  | .sl _ _ _ :: _, _, h => by cases h
  | .hole :: _, _, h => by cases h
theorem F2.flatten {α β : Type} {R : α → β → Prop} : ∀ {xs : List (List α)} {ys : List (List β)}, xs.length = ys.length → (∀ (i : Nat) x y, xs[i]? = some x → ys[i]? = some y → F2 R x y) → F2 R xs.flatten ys.flatten
  | [], [], _, _ => ⟨rfl, fun i x y hx => by simp at hx⟩
  | [], _ :: _, h, _ => by simp at h
  | _ :: _, [], h, _ => by simp at h
  | x :: xs, y :: ys, h, hr => by
    rw [List.flatten_cons, List.flatten_cons]
    exact (hr 0 x y rfl rfl).append (F2.flatten (by simpa using h) (fun i x' y' hx hy => hr (i + 1) x' y' hx hy))
theorem mBs_spec {k : K} {parts : List Opd} (h : mBs ids P o.op k parts = true) : ∃ t e ti zv ps, o.op = .buildSlice t parts.length ps ∧ P.underlying t = some (.slice e) ∧ P.info? e = some ti ∧ ti.size = k.sz ∧ ti.zero = some zv ∧ parts.length * k.sz ≤ 2 ^ 24 ∧ 0 < k.sz ∧
    ps.toList.length = parts.length ∧ (∀ (i : Nat) p q, ps.toList[i]? = some p → parts[i]? = some q → mOpd ids p.2 q = true) ∧ ps.toList.map (·.1) = List.range parts.length := by
  unfold mBs at h
  split at h
  · rename_i t len ps ho
    simp only [Bool.and_eq_true, decide_eq_true_eq] at h
    obtain ⟨⟨⟨⟨⟨⟨rfl, h1⟩, h2⟩, h3⟩, h4⟩, h5⟩, h6⟩ := h
    obtain ⟨d, hd1, hd2⟩ := under_spec h3
    obtain ⟨e, ti, rfl, hti, hsz⟩ := isSliceT_spec hd2
    rw [hd1] at h6
    simp only [hti] at h6
    obtain ⟨zv, hz⟩ := Option.isSome_iff_exists.1 h6
    obtain ⟨g1, g2⟩ := all2_iff h4
    exact ⟨t, e, ti, zv, ps, ho, hd1, hti, hsz, hz, h1, h2, g1, g2, h5⟩
  · cases h
theorem zip_of {ps : List (Nat × Operand)} {n : Nat} (f : Operand → Value) (h : ps.map (·.1) = List.range n) : (ps.map fun (i, x) => (i, f x)) = (List.range' 0 (ps.map (fun p => f p.2)).length).zip (ps.map (fun p => f p.2)) := by
  have hn : ps.length = n := by have := congrArg List.length h; simpa using this
  apply List.ext_getElem?
  intro i
  rw [List.getElem?_map]
  cases hi : ps[i]? with
  | none =>
    rw [List.getElem?_eq_none_iff] at hi
    symm
    rw [Option.map_none, List.getElem?_eq_none_iff]
    simp; omega
  | some p =>
    have hlt := (List.getElem?_eq_some_iff.1 hi).1
    have h1 : (ps.map (·.1))[i]? = some p.1 := by rw [List.getElem?_map, hi]; rfl
    rw [h, List.getElem?_range (by omega)] at h1
    injection h1 with h1
    have h2 : (List.range' 0 (ps.map (fun p => f p.2)).length)[i]? = some i := by rw [List.getElem?_range' (by simpa using hlt)]; simp
    have h3 : (ps.map (fun p => f p.2))[i]? = some (f p.2) := by rw [List.getElem?_map, hi]; rfl
    have h4 : ((List.range' 0 (ps.map (fun p => f p.2)).length).zip (ps.map (fun p => f p.2)))[i]? = some (i, f p.2) := List.getElem?_zip_eq_some.2 ⟨h2, h3⟩
    rw [Option.map_some, h4, h1]
theorem ok_bs (old : RtR w home hd rt F0) (he : EvR ids w home hd rt ev a.eval) {k : K} {parts : List Opd} (hm : mBs ids P o.op k parts = true) {l : List (List SV)} (hl : mapO (evC ev) parts = some l) {es : List (List (Ow × C))} {rt1 : Rts} (ht : takesL rt l = some (es, rt1))
    {d : Bool} {c : C} (hb : bsEs k es = some (d, c)) {id : Nat} (h : newRt rt1 id (.arr d false c) = some rt') : OpOk ids P o a w home hd rt (.sv (.ref id [] 0 parts.length)) rt' := by
  obtain ⟨t, e, ti, zv, ps, ho, hu, hti, hsz, hz, h24, hpos, hpl, hps, hidx⟩ := mBs_spec hm
  obtain ⟨m1, m2⟩ := mapO_spec hl
  obtain ⟨f1, f2, f3⟩ := takesL_flat ht
  obtain ⟨b1, b2⟩ := bsEs_spec hb
  obtain ⟨n1, n2, _, rfl⟩ := newRt_spec h
  -- the operands' cells
  let us : List Value := ps.toList.map (fun p => a.eval p.2)
  have hus : us.length = parts.length := by simp [us, hpl]
  have hcells : ∀ (i : Nat) x u, l[i]? = some x → us[i]? = some u → F2 (SVR w home hd rt) x u.cells.toList ∧ ∀ s ∈ x, ∀ i ∈ s.ids, (rt i).isSome = true := by
    intro i x u hx hu'
    simp only [us, List.getElem?_map, Option.map_eq_some_iff] at hu'
    obtain ⟨p, hp, rfl⟩ := hu'
    have hlt : i < parts.length := by rw [m1]; exact (List.getElem?_eq_some_iff.1 hx).1
    exact he.C (hps i p _ hp (List.getElem?_eq_getElem hlt)) (m2 i _ x (List.getElem?_eq_getElem hlt) hx)
  have hflat : F2 (SVR w home hd rt) l.flatten (us.flatMap (fun u => u.cells.toList)) := by
    rw [List.flatMap_def]
    refine F2.flatten (by simp [us, hpl, m1]) (fun i x y hx hy => ?_)
    rw [List.getElem?_map, Option.map_eq_some_iff] at hy
    obtain ⟨u, hu', rfl⟩ := hy
    exact (hcells i x u hx hu').1
  have hpres : ∀ x ∈ l.flatten, ∀ i ∈ x.ids, (rt i).isSome = true := by
    intro x hx
    rw [List.mem_flatten] at hx
    obtain ⟨y, hy, hxy⟩ := hx
    obtain ⟨i, hi⟩ := List.getElem?_of_mem hy
    have hlt : i < us.length := by rw [hus, m1]; exact (List.getElem?_eq_some_iff.1 hi).1
    exact (hcells i y _ hi (List.getElem?_eq_getElem hlt)).2 x hxy
  obtain ⟨home1, hd1, F1, s1, _, fn, _, _, l1, held⟩ := takes_step l.flatten (k := 0) old hflat hpres (fun _ _ => rfl) f1
  -- sizes
  have hesl : es.length = parts.length := by rw [f2, m1]
  have husz : ∀ u ∈ us, u.cells.size = ti.size := by
    intro u hu'
    obtain ⟨i, hi⟩ := List.getElem?_of_mem hu'
    have hlt : i < l.length := by rw [← m1, ← hus]; exact (List.getElem?_eq_some_iff.1 hi).1
    have hlt2 : i < es.length := by rw [f2]; exact hlt
    have g1 := (hcells i _ u (List.getElem?_eq_getElem hlt) hi).1.1
    have g2 := f3 i _ _ (List.getElem?_eq_getElem hlt) (List.getElem?_eq_getElem hlt2)
    have g3 := b1 _ (List.getElem_mem hlt2)
    rw [hsz, ← g3, g2, g1]; simp
  -- the machine's step
  let vs : List Value := us.flatMap (fun u => u.cells.toList)
  have hvl : vs.length = parts.length * ti.size := by
    have : ∀ (us : List Value), (∀ u ∈ us, u.cells.size = ti.size) → (us.flatMap (fun u => u.cells.toList)).length = us.length * ti.size := by
      intro us
      induction us with
      | nil => intro _; simp
      | cons u us ih =>
        intro hh
        rw [List.flatMap_cons, List.length_append, ih (fun x hx => hh x (List.mem_cons_of_mem _ hx)), List.length_cons, Nat.add_mul, Array.length_toList, hh u (List.mem_cons_self ..)]
        omega
    rw [this us husz, hus]
  have hrun : (execOp a.eval o).run P w = .ok (.value (.slice (some ⟨w.heap.size, 0, none⟩) parts.length parts.length)) (w.alloc (.cells vs.toArray e)) := by
    unfold execOp
    rw [ho]
    have hfill : ∀ (z0 : Array Value), Instr.fill (fun i => some (i * ti.size, ti.size)) ((Array.range (parts.length * ti.size)).map (z0[· % z0.size]!)) (ps.map fun (i, x) => (i, a.eval x)).toList = some vs.toArray := by
      intro z0
      rw [Array.toList_map, zip_of a.eval hidx]
      generalize hZ : (Array.range (parts.length * ti.size)).map (z0[· % z0.size]!) = Z
      have hZs : Z.toList.length = us.length * ti.size := by rw [← hZ]; simp [hus]
      have := fill_dense (size := ti.size) us 0 [] Z.toList husz (by simp) hZs
      simp only [List.nil_append, Array.toArray_toList] at this
      exact this
    have h24' : ¬ (parts.length * ti.size > 2 ^ 24) := by rw [hsz]; omega
    unfold Instr.buildSlice
    simp only [Sem.run_bind, run_underlying hu, Result.andThen_ok, run_sizeOf' hti]
    rw [if_neg h24']
    by_cases hz0 : parts.length * ti.size = 0
    · simp only [hz0, if_true, Sem.run_bind, Sem.run_pure, Result.andThen_ok]
      have hf0 := hfill #[]
      rw [hz0] at hf0
      simp only [hf0, Sem.run_bind, pointer_new, Result.andThen_ok, Sem.run_pure]
    · have hzv : (zeroValue e).run P w = .ok zv w := by simp [zeroValue, run_typeInfo w hti, hz]
      simp only [hz0, if_false, Sem.run_bind, hzv, Sem.run_pure, Result.andThen_ok, hfill, pointer_new]
  have hml : es.length ≤ maxLen := by
    have : parts.length ≤ parts.length * k.sz := Nat.le_mul_of_pos_right _ hpos
    unfold maxLen; omega
  have hheld : ∀ m q v, es.flatten[m]? = some q → vs[m]? = some v → Held w home1 hd1 F1 m q.1 q.2 v := fun m q v hq hv => by
    have := (held m q v hq hv).1
    rwa [Nat.zero_add] at this
  have hvs : vs.length = es.flatten.length := by rw [l1]; exact hflat.1.symm
  rcases b2 with ⟨sz, es', rfl, g1, rfl, rfl⟩ | ⟨sz, rfl, rfl, rfl⟩
  · obtain ⟨q1, q2⟩ := mapO_spec g1
    have hes' : ∀ (i : Nat) e0 e1, es[i]? = some e0 → es'[i]? = some e1 → e0.map (·.2) = e1.map .val := fun i e0 e1 h1 h2 => vals_spec (q2 i e0 e1 h1 h2)
    have hl' : ∀ e1 ∈ es', e1.length = sz := by
      intro e1 he1
      obtain ⟨i, hi⟩ := List.getElem?_of_mem he1
      have hlt : i < es.length := by rw [q1]; exact (List.getElem?_eq_some_iff.1 hi).1
      have := congrArg List.length (hes' i _ e1 (List.getElem?_eq_getElem hlt) hi)
      simp only [List.length_map] at this
      rw [← this]; exact b1 _ (List.getElem_mem hlt)
    have hval : ∀ (i j : Nat) e1 v, es'[i]? = some e1 → e1[j]? = some v → vs[i * sz + j]? = some v ∧ v.oneCell' = true := by
      intro i j e1 v h1 h2
      have hlt : i < es.length := by rw [q1]; exact (List.getElem?_eq_some_iff.1 h1).1
      have hm0 := hes' i _ e1 (List.getElem?_eq_getElem hlt) h1
      have hj : (es[i].map (·.2))[j]? = some (.val v) := by rw [hm0, List.getElem?_map, h2]; rfl
      rw [List.getElem?_map, Option.map_eq_some_iff] at hj
      obtain ⟨q, hq1, hq2⟩ := hj
      have hfg := flat_get b1 (List.getElem?_eq_getElem hlt) hq1
      have hlt3 : i * sz + j < vs.length := by rw [hvs]; exact (List.getElem?_eq_some_iff.1 hfg).1
      have := hheld _ q _ hfg (List.getElem?_eq_getElem hlt3)
      rw [hq2] at this
      obtain ⟨r1, r2⟩ := this.val s1.rel
      exact ⟨by rw [List.getElem?_eq_getElem hlt3, r1], r2⟩
    have hone : ∀ e1 ∈ es', ∀ v ∈ e1, v.oneCell' = true := by
      intro e1 he1 v hv
      obtain ⟨i, hi⟩ := List.getElem?_of_mem he1
      obtain ⟨j, hj⟩ := List.getElem?_of_mem hv
      exact (hval i j e1 v hi hj).2
    have hfl : ∀ (m : Nat) v, es'.flatten[m]? = some v → vs.toArray[m]? = some v := by
      intro m v hv
      have hlt := (List.getElem?_eq_some_iff.1 hv).1
      rw [flat_len hl'] at hlt
      have hi : m / sz < es'.length := (Nat.div_lt_iff_lt_mul hpos).2 hlt
      have hj : m % sz < (es'[m / sz]).length := by rw [hl' _ (List.getElem_mem hi)]; exact Nat.mod_lt _ hpos
      have h1 := flat_get hl' (List.getElem?_eq_getElem hi) (List.getElem?_eq_getElem hj)
      have hmm : m / sz * sz + m % sz = m := by rw [Nat.mul_comm]; exact Nat.div_add_mod m sz
      rw [hmm, hv] at h1
      injection h1 with h1
      have := (hval _ _ _ _ (List.getElem?_eq_getElem hi) (List.getElem?_eq_getElem hj)).1
      rw [hmm, ← h1] at this
      simpa using this
    obtain ⟨home2, hd2, s2, hh⟩ := row_flat s1.rel (w' := w.alloc (.cells vs.toArray e)) hpos (cap := es'.length) (cur := vs.toArray) hl' hone n1 n2 (Nat.le_refl _) (by rw [← q1]; exact hml) (e := e) (fun b hb => heap_alloc_old w _ b hb) (heap_alloc_new w _)
      (by simp [hvl, hsz, K.sz, ← q1, hesl]) hfl rfl rfl rfl
    refine .value hrun (s1.trans s2) ?_
    rw [← q1, hesl] at hh
    exact new_ref (home := home2) hh (Nat.le_refl _)
  · obtain ⟨home2, hd2, s2, hh⟩ := row_new s1.rel hpos (es := es) (vs := vs) hvs b1 hheld n1 n2 (d := es.all (·.all okDeep)) (fun hd0 e0 he0 q hq => by
      simp only [List.all_eq_true] at hd0; exact hd0 e0 he0 q hq) hml e
    refine .value hrun (s1.trans s2) ?_
    rw [hesl] at hh
    exact new_ref (home := home2) hh (Nat.le_refl _)
end
end Go.Proofs.YtecmolmlojehgaaGreat.T
