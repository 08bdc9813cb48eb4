/- Each operation of the machine does what the abstract one says: what touches no memory. Operations that read memory, or take values apart. -/
import Derived.Test.YtecmolmlojehgaaGreatMC
import Derived.ChangeKeysEq
import Derived.Laws.Entries
import Derived.Laws.Slices
import Derived.Laws.CopyRow
import Derived.Laws.AppendOwn
import Derived.Laws.StructEq
namespace Go.Proofs.YtecmolmlojehgaaGreat.T
open Go

/-! ### Which code is which -/
def beqV : Value → Value → Bool
  | .int k n, .int k' m => decide (k = k') && n == m
  | .bool a, .bool b => a == b
  | .string a, .string b => a.data.toList == b.data.toList
  | .pointer none, .pointer none => true
  | _, _ => false
theorem beqV_eq {a b : Value} (h : beqV a b = true) : a = b ∧ b.oneCell' = true := by
  cases a <;> cases b <;> simp only [beqV, Bool.and_eq_true, decide_eq_true_eq, beq_iff_eq, Bool.false_eq_true] at h
  · subst h; exact ⟨rfl, rfl⟩
  · obtain ⟨rfl, rfl⟩ := h; exact ⟨rfl, rfl⟩
  · rename_i a b
    refine ⟨?_, rfl⟩
    congr 1
    cases a; cases b; simp only at h ⊢; congr 1; exact Array.ext' h
  · rename_i a b
    cases a <;> cases b <;> simp at h
    exact ⟨rfl, rfl⟩
def svOk : Value → SV → Bool
  | .slice none 0 0, .nil k => decide (0 < k.sz)
  | v, .c (.val u) => beqV v u
  | _, _ => false
def all2 {α β : Type} (f : α → β → Bool) : List α → List β → Bool
  | [], [] => true
  | a :: as, b :: bs => f a b && all2 f as bs
  | _, _ => false
theorem all2_iff {α β : Type} {f : α → β → Bool} : ∀ {as : List α} {bs : List β}, all2 f as bs = true → as.length = bs.length ∧ ∀ (i : Nat) a b, as[i]? = some a → bs[i]? = some b → f a b = true
  | [], [], _ => ⟨rfl, fun i a b h => by simp at h⟩
  | [], _ :: _, h => by cases h
  | _ :: _, [], h => by cases h
  | a :: as, b :: bs, h => by
    simp only [all2, Bool.and_eq_true] at h
    obtain ⟨h1, h2⟩ := all2_iff h.2
    refine ⟨by simp [h1], fun i x y hx hy => ?_⟩
    cases i with
    | zero => simp at hx hy; subst hx hy; exact h.1
    | succ i => simp at hx hy; exact h2 i x y hx hy
def constOk : Value → A1 → Bool
  | .agg vs, .agg xs => all2 svOk vs.toList xs
  | v, .s x => svOk v x
  | _, _ => false
variable (ids : Nat → FuncId)
def mOpd : Operand → Opd → Bool
  | .tmp t, .t n => t == n
  | .const v, .k a => constOk v a
  | .func f, .k (.fn g []) => ids g == f
  | _, _ => false
theorem svOk_R {v : Value} {x : SV} (h : svOk v x = true) (w : World) (home : Home) (hd : Lb → Value) (rt : Rts) : SVR w home hd rt x v ∧ x.ids = [] := by
  unfold svOk at h
  split at h
  · exact ⟨⟨rfl, by simpa using h⟩, rfl⟩
  · obtain ⟨rfl, h1⟩ := beqV_eq h
    exact ⟨.val h1, rfl⟩
  · cases h
theorem constOk_R {v : Value} {a : A1} (h : constOk v a = true) (w : World) (home : Home) (hd : Lb → Value) (rt : Rts) : A1R ids w home hd rt a v ∧ a.ids = [] := by
  unfold constOk at h
  split at h
  · rename_i vs xs
    obtain ⟨h1, h2⟩ := all2_iff h
    refine ⟨⟨vs.toList, by simp, h1.symm, fun i x y hx hy => (svOk_R (h2 i y x hy hx) w home hd rt).1⟩, ?_⟩
    simp only [A1.ids, List.flatMap_eq_nil_iff]
    intro x hx
    obtain ⟨i, hi⟩ := List.getElem?_of_mem hx
    have hlt : i < vs.toList.length := by rw [h1]; exact (List.getElem?_eq_some_iff.1 hi).1
    exact (svOk_R (h2 i _ x (List.getElem?_eq_getElem hlt) hi) w home hd rt).2
  · obtain ⟨h1, h2⟩ := svOk_R h w home hd rt
    exact ⟨h1, h2⟩
  · cases h

/-- Evaluations agree. -/
def EvR (w : World) (home : Home) (hd : Lb → Value) (rt : Rts) (ev : Ev) (ρ : Operand → Value) : Prop :=
  ∀ x q a, mOpd ids x q = true → ev q = some a → A1R ids w home hd rt a (ρ x) ∧ ∀ i ∈ a.ids, (rt i).isSome = true

/-- What is owned by nobody lies nowhere. -/
def F0 : Nat → Option Root := fun _ => none
/-- The machine's operation does what the abstract one says. -/
def OpOk (P : Program) (o : Oper) (a : Act) (w : World) (home : Home) (hd : Lb → Value) (rt : Rts) (av : AV) (rt' : Rts) : Prop :=
  ∀ (next : Act → World → Prop) (Q : Exit → Act → World → Prop),
    (∀ v w' home' hd', Step w home hd rt F0 w' home' hd' rt' F0 → AVR ids w' home' hd' rt' av v → next (a.put o.dst v) w') → o.wp P a w next Q
section
variable {ids} {P : Program} {o : Oper} {a : Act} {w : World} {home : Home} {hd : Lb → Value} {rt rt' : Rts} {av : AV}
theorem OpOk.value {w' : World} {v : Value} {home' : Home} {hd' : Lb → Value} (hr : (execOp a.eval o).run P w = .ok (.value v) w') (hs : Step w home hd rt F0 w' home' hd' rt' F0) (hv : AVR ids w' home' hd' rt' av v) :
    OpOk ids P o a w home hd rt av rt' := by
  intro next Q h
  unfold Oper.wp
  rw [hr]
  exact h v w' home' hd' hs hv
theorem OpOk.skip {w' : World} {home' : Home} {hd' : Lb → Value} (hr : (execOp a.eval o).run P w = .ok .skip w') (hs : Step w home hd rt F0 w' home' hd' rt' F0) :
    OpOk ids P o a w home hd rt .undef rt' := by
  intro next Q h
  unfold Oper.wp
  rw [hr]
  exact h undef w' home' hd' hs rfl
end

def mMv (o : Op) (x : Opd) : Bool :=
  match o with
  | .move y => mOpd ids y x
  | .assign y => mOpd ids y x
  | _ => false
def mPick (o : Op) (c x y : Opd) : Bool :=
  match o with
  | .pick c' x' y' => mOpd ids c' c && mOpd ids x' x && mOpd ids y' y
  | _ => false
section
variable {ids} {P : Program} {o : Oper} {a : Act} {w : World} {home : Home} {hd : Lb → Value} {rt rt' : Rts} {av : AV} {ev : Ev}
theorem ok_mv (old : RtR w home hd rt F0) (he : EvR ids w home hd rt ev a.eval) {x : Opd} (hm : mMv ids o.op x = true) {c : A1} (h : ev x = some c) : OpOk ids P o a w home hd rt (.v c) rt := by
  unfold mMv at hm
  split at hm
  · rename_i y hy
    exact .value (v := a.eval y) (w' := w) (by unfold execOp; rw [hy]; rfl) (Step.refl old) (he y x c hm h).1
  · rename_i y hy
    exact .value (v := a.eval y) (w' := w) (by unfold execOp; rw [hy]; rfl) (Step.refl old) (he y x c hm h).1
  · cases hm
theorem evV_spec {x : Opd} {v : Value} (h : evV ev x = some v) : ev x = some (.s (.c (.val v))) := by
  unfold evV at h
  split at h
  · rename_i u hu; injection h with h; subst h; exact hu
  · cases h
theorem evI_spec {x : Opd} {n : Int} (h : evI ev x = some n) : ∃ k, ev x = some (.s (.c (.val (.int k n)))) := by
  unfold evI at h
  split at h
  · rename_i k m hm; injection h with h; subst h; exact ⟨k, evV_spec hm⟩
  · cases h
theorem evS_spec {x : Opd} {s : SV} (h : evS ev x = some s) : ev x = some (.s s) := by
  unfold evS at h
  split at h
  · rename_i u hu; injection h with h; subst h; exact hu
  · cases h
theorem EvR.V (he : EvR ids w home hd rt ev a.eval) {y : Operand} {x : Opd} (hm : mOpd ids y x = true) {v : Value} (h : evV ev x = some v) : a.eval y = v ∧ v.oneCell' = true := by
  have h1 : CR w home .imm (.val v) (a.eval y) := (he y x _ hm (evV_spec h)).1
  generalize a.eval y = u at h1 ⊢
  cases h1 with
  | val h => exact ⟨rfl, h⟩
theorem EvR.I (he : EvR ids w home hd rt ev a.eval) {y : Operand} {x : Opd} (hm : mOpd ids y x = true) {n : Int} (h : evI ev x = some n) : ∃ k, a.eval y = .int k n := by
  unfold evI at h
  split at h
  · rename_i k m hm'; injection h with h; subst h; exact ⟨k, (he.V hm hm').1⟩
  · cases h
theorem EvR.S (he : EvR ids w home hd rt ev a.eval) {y : Operand} {x : Opd} (hm : mOpd ids y x = true) {s : SV} (h : evS ev x = some s) : SVR w home hd rt s (a.eval y) ∧ ∀ i ∈ s.ids, (rt i).isSome = true :=
  he y x _ hm (evS_spec h)
theorem ok_pick (old : RtR w home hd rt F0) (he : EvR ids w home hd rt ev a.eval) {c x y : Opd} (hm : mPick ids o.op c x y = true) {t : Bool} (hc : evV ev c = some (.bool t)) {r : A1} (h : (if t then ev x else ev y) = some r) : OpOk ids P o a w home hd rt (.v r) rt := by
  unfold mPick at hm
  split at hm
  · rename_i c' x' y' hy
    simp only [Bool.and_eq_true] at hm
    obtain ⟨⟨h1, h2⟩, h3⟩ := hm
    have hcv := (he.V h1 hc).1
    refine .value (v := if t then a.eval x' else a.eval y') (w' := w) (by unfold execOp; rw [hy]; simp [asBool, hcv]) (Step.refl old) ?_
    cases t with
    | true => exact (he x' x r h2 h).1
    | false => exact (he y' y r h3 h).1
  · cases hm
/-- A scalar's relation. -/
theorem avr_v {v : Value} (h : v.oneCell' = true) : AVR ids w home hd rt (.sv (.v v)) v := CR.val h
end

/-! ### Sums and comparisons -/
def mBin (o : Op) (op : BinOp) (x y : Opd) : Bool :=
  match o with
  | .binOp op' _ x' y' _ => decide (op' = op) && mOpd ids x' x && mOpd ids y' y
  | _ => false
def isBoolT : TypeDesc → Bool
  | .bool => true
  | _ => false
theorem isBoolT_eq {d : TypeDesc} (h : isBoolT d = true) : d = .bool := by cases d <;> first | rfl | cases h
def isIntT : TypeDesc → Bool
  | .int _ => true
  | _ => false
def under (P : Program) (t : TypeId) (f : TypeDesc → Bool) : Bool :=
  match P.underlying t with
  | some d => f d
  | none => false
theorem under_spec {P : Program} {t : TypeId} {f : TypeDesc → Bool} (h : under P t f = true) : ∃ d, P.underlying t = some d ∧ f d = true := by
  unfold under at h
  split at h
  · rename_i d hd; exact ⟨d, hd, h⟩
  · cases h
def mEqb (P : Program) (o : Op) (neg : Bool) (x y : Opd) : Bool :=
  match o with
  | .binOp op' t x' y' _ => decide (op' = if neg then .neq else .eql) && mOpd ids x' x && mOpd ids y' y && under P t isBoolT
  | _ => false
def mUn (o : Op) (op : UnOp) (x : Opd) : Bool :=
  match o with
  | .unOp op' _ x' => decide (op' = op) && mOpd ids x' x
  | _ => false
theorem run_binS {P : Program} {w : World} {op : BinOp} {t : TypeId} {x y r : Value} (h : binS op x y = some r) :
    (binOp op t x y).run P w = .ok r w ∧ r.oneCell' = true := by
  unfold binS at h
  split at h <;> (first | (split at h) | skip) <;> simp only [Option.some.injEq, reduceCtorEq] at h
  all_goals (try subst h)
  all_goals (try (rename_i hc; first | (subst hc; exact ⟨rfl, rfl⟩) | (obtain ⟨rfl, hc⟩ := hc) | skip))
  all_goals (try exact ⟨rfl, rfl⟩)
  all_goals refine ⟨?_, rfl⟩
  all_goals first
    | (simp [binOp, Op.shift, Op.intArith, Op.intDiv, Op.intBits, Op.intCmp, Op.stringOp, *]; done)
    | (rename_i a b; have hm : ¬ (((a.size + b.size : Nat) : Int) > IntKind.i64.max) := by
        have : IntKind.i64.max = 9223372036854775807 := by decide
        omega
       simp only [binOp, Op.stringOp, if_neg hm, Sem.run_pure]; done)
theorem run_eqGuard {P : Program} {w : World} {op : BinOp} {t : TypeId} {x y : Operand} {u v : Value} (h1 : u ≠ .nilIface) (h2 : ∀ cs, u ≠ .agg cs) : (eqGuard op t x y u v).run P w = .ok () w := by
  unfold eqGuard
  cases u <;> first | exact absurd rfl h1 | exact absurd rfl (h2 _) | (cases op <;> cases v <;> rfl)
theorem binS_plain {op : BinOp} {x y r : Value} (h : binS op x y = some r) : x ≠ .nilIface ∧ ∀ cs, x ≠ .agg cs := by
  unfold binS at h
  split at h <;> first | (cases h; done) | exact ⟨by simp, by simp⟩
section
variable {ids} {P : Program} {o : Oper} {a : Act} {w : World} {home : Home} {hd : Lb → Value} {rt rt' : Rts} {av : AV} {ev : Ev}
theorem ok_bin (old : RtR w home hd rt F0) (he : EvR ids w home hd rt ev a.eval) {op : BinOp} {x y : Opd} (hm : mBin ids o.op op x y = true) {p q r : Value} (hx : evV ev x = some p) (hy : evV ev y = some q) (h : binS op p q = some r) :
    OpOk ids P o a w home hd rt (.sv (.v r)) rt := by
  unfold mBin at hm
  split at hm
  · rename_i op' t x' y' t' ho
    simp only [Bool.and_eq_true, decide_eq_true_eq] at hm
    obtain ⟨⟨rfl, h1⟩, h2⟩ := hm
    obtain ⟨g1, g2⟩ := binS_plain h
    obtain ⟨r1, r2⟩ := run_binS (P := P) (w := w) (t := t) h
    refine .value (v := r) (w' := w) ?_ (Step.refl old) (avr_v r2)
    unfold execOp
    rw [ho]
    simp only [(he.V h1 hx).1, (he.V h2 hy).1, Sem.run_bind, run_eqGuard g1 g2, Result.andThen_ok, r1, Sem.run_pure]
  · cases hm
theorem ok_eqb (old : RtR w home hd rt F0) (he : EvR ids w home hd rt ev a.eval) {neg : Bool} {x y : Opd} (hm : mEqb ids P o.op neg x y = true) {p q : Bool} (hx : evV ev x = some (.bool p)) (hy : evV ev y = some (.bool q)) :
    OpOk ids P o a w home hd rt (.sv (.v (.bool (if neg then !(p == q) else p == q)))) rt := by
  unfold mEqb at hm
  split at hm
  · rename_i op' t x' y' t' ho
    simp only [Bool.and_eq_true, decide_eq_true_eq] at hm
    obtain ⟨⟨⟨rfl, h1⟩, h2⟩, h3⟩ := hm
    obtain ⟨d, hd1, hd2⟩ := under_spec h3
    obtain rfl := isBoolT_eq hd2
    refine .value (v := .bool (if neg then !(p == q) else p == q)) (w' := w) ?_ (Step.refl old) (avr_v rfl)
    unfold execOp
    rw [ho]
    have e := run_equal_bool (P := P) w t p q hd1
    simp only [(he.V h1 hx).1, (he.V h2 hy).1, Sem.run_bind, run_eqGuard (u := .bool p) (by simp) (by simp), Result.andThen_ok]
    cases neg <;> simp [binOp, e]
  · cases hm
theorem ok_un (old : RtR w home hd rt F0) (he : EvR ids w home hd rt ev a.eval) {op : UnOp} {x : Opd} (hm : mUn ids o.op op x = true) {p r : Value} (hx : evV ev x = some p) (h : unS op p = some r) :
    OpOk ids P o a w home hd rt (.sv (.v r)) rt := by
  unfold mUn at hm
  split at hm
  · rename_i op' t x' ho
    simp only [Bool.and_eq_true, decide_eq_true_eq] at hm
    obtain ⟨rfl, h1⟩ := hm
    have hr : (Op.unary op' p).run P w = .ok r w ∧ r.oneCell' = true := by
      unfold unS at h
      split at h
      · injection h with h; subst h; exact ⟨by simp [Op.unary, Op.intArith], rfl⟩
      · injection h with h; subst h; exact ⟨rfl, rfl⟩
      · cases h
    refine .value (v := r) (w' := w) ?_ (Step.refl old) (avr_v hr.2)
    unfold execOp
    rw [ho]
    simp only [(he.V h1 hx).1, Sem.run_bind, hr.1, Result.andThen_ok, Sem.run_pure]
  · cases hm
end
def isIntK (k : IntKind) : TypeDesc → Bool
  | .int k' => decide (k' = k)
  | _ => false
theorem isIntK_eq {k : IntKind} {d : TypeDesc} (h : isIntK k d = true) : d = .int k := by
  cases d <;> simp [isIntK] at h
  subst h; rfl
def mConv (P : Program) (o : Op) (k : IntKind) (x : Opd) : Bool :=
  match o with
  | .convert src dst x' => mOpd ids x' x && under P dst (isIntK k) && under P src isIntT
  | _ => false
def isStructAt (off f : Nat) (P : Program) : TypeDesc → Bool
  | .struct fs => match fs[f]? with
    | some g => decide (g.offset = off) && match P.info? g.type with
      | some i => decide (0 < i.size)
      | none => false
    | none => false
  | _ => false
def mFa (P : Program) (o : Op) (off : Nat) (x : Opd) : Bool :=
  match o with
  | .fieldAddr s x' f => mOpd ids x' x && under P s (isStructAt off f P)
  | _ => false
theorem run_sizeOf' {P : Program} {w : World} {t : TypeId} {i : TypeInfo} (h : P.info? t = some i) : (sizeOf t).run P w = .ok i.size w := by simp [sizeOf, run_typeInfo w h]
section
variable {ids} {P : Program} {o : Oper} {a : Act} {w : World} {home : Home} {hd : Lb → Value} {rt rt' : Rts} {av : AV} {ev : Ev}
theorem ok_conv (old : RtR w home hd rt F0) (he : EvR ids w home hd rt ev a.eval) {k : IntKind} {x : Opd} (hm : mConv ids P o.op k x = true) {n : Int} (hx : evI ev x = some n) :
    OpOk ids P o a w home hd rt (.sv (.v (.int k (k.wrap n)))) rt := by
  unfold mConv at hm
  split at hm
  · rename_i src dst x' ho
    simp only [Bool.and_eq_true] at hm
    obtain ⟨⟨h1, h2⟩, h3⟩ := hm
    obtain ⟨d, hd1, hd2⟩ := under_spec h2
    obtain rfl := isIntK_eq hd2
    obtain ⟨ds, hs1, hs2⟩ := under_spec h3
    obtain ⟨k', hv⟩ := he.I h1 hx
    refine .value (v := .int k (k.wrap n)) (w' := w) ?_ (Step.refl old) (avr_v rfl)
    unfold execOp
    rw [ho]
    cases ds <;> simp only [isIntT, Bool.false_eq_true] at hs2
    simp only [hv, convert, Sem.run_bind, run_underlying hs1, run_underlying hd1, Result.andThen_ok, Conv.intToInt, Sem.run_pure]
  · cases hm
/-- Pointers with an offset. -/
theorem SVR.addOff {x y : SV} {v : Value} {n : Nat} (h : SVR w home hd rt x v) (hy : x.addOff n = some y) : ∃ ad, v = .pointer (some ad) ∧ SVR w home hd rt y (.pointer (some (ad.add n))) ∧ y.ids = x.ids := by
  cases x with
  | pb id off =>
    simp only [SV.addOff, Option.some.injEq] at hy
    subst hy
    obtain ⟨⟨ad, rfl⟩, h2⟩ := h
    refine ⟨ad, rfl, ⟨⟨_, rfl⟩, fun xs hr => ?_⟩, rfl⟩
    obtain ⟨b, h3, h4⟩ := h2 xs hr
    injection h4 with h4; injection h4 with h4; subst h4
    exact ⟨b, h3, by rw [addr_add]⟩
  | pe id p i off =>
    simp only [SV.addOff, Option.some.injEq] at hy
    subst hy
    obtain ⟨⟨ad, rfl⟩, h2⟩ := h
    refine ⟨ad, rfl, ⟨⟨_, rfl⟩, fun d t c hr ht c' u hg hu sz m tot hs hi => ?_⟩, rfl⟩
    obtain ⟨b, o', k, cap, h3, h4⟩ := h2 d t c hr ht c' u hg hu sz m tot hs hi
    injection h4 with h4; injection h4 with h4; subst h4
    exact ⟨b, o', k, cap, h3, by rw [addr_add]; congr 3; omega⟩
  | pm cs off =>
    simp only [SV.addOff, Option.some.injEq] at hy
    subst hy
    obtain ⟨b, o', rfl, h2⟩ := h
    exact ⟨_, rfl, ⟨b, o', by rw [addr_add, Nat.add_assoc], h2⟩, rfl⟩
  | c c => cases hy
  | nil k => cases hy
  | ref id p off len => cases hy
theorem ok_fa (old : RtR w home hd rt F0) (he : EvR ids w home hd rt ev a.eval) {off : Nat} {x : Opd} (hm : mFa ids P o.op off x = true) {p q : SV} (hx : evS ev x = some p) (h : p.addOff off = some q) :
    OpOk ids P o a w home hd rt (.sv q) rt := by
  unfold mFa at hm
  split at hm
  · rename_i s x' f ho
    simp only [Bool.and_eq_true] at hm
    obtain ⟨h1, h2⟩ := hm
    obtain ⟨d, hd1, hd2⟩ := under_spec h2
    unfold isStructAt at hd2
    split at hd2
    · rename_i fs
      split at hd2
      · rename_i g hg
        simp only [Bool.and_eq_true, decide_eq_true_eq] at hd2
        obtain ⟨rfl, h3⟩ := hd2
        split at h3
        · rename_i i hi
          obtain ⟨ad, hv, hq, _⟩ := (he.S h1 hx).1.addOff h
          have h0 : ¬ i.size = 0 := by simp at h3; omega
          refine .value (v := .pointer (some (ad.add g.offset))) (w' := w) ?_ (Step.refl old) hq
          unfold execOp
          rw [ho]
          simp [hv, Instr.fieldAt, run_underlying hd1, hg, Instr.sureAddr, fieldPlace, run_sizeOf' hi, h0]
        · cases h3
      · cases hd2
    · cases hd2
  · cases hm
end

def elemIs (P : Program) (sz : Nat) (e : TypeId) : Bool :=
  match P.info? e with
  | some i => decide (i.size = sz)
  | none => false
theorem elemIs_spec {P : Program} {sz : Nat} {e : TypeId} (h : elemIs P sz e = true) : ∃ i, P.info? e = some i ∧ i.size = sz := by
  unfold elemIs at h
  split at h
  · rename_i i hi; exact ⟨i, hi, by simpa using h⟩
  · cases h
def isSliceT (P : Program) (sz : Nat) : TypeDesc → Bool
  | .slice e => elemIs P sz e
  | _ => false
def isArrT (P : Program) (len sz : Nat) : TypeDesc → Bool
  | .array n e => decide (n = len) && elemIs P sz e
  | _ => false
def mIa (P : Program) (o : Op) (sz : Nat) (x i : Opd) : Bool :=
  match o with
  | .indexAddr t x' i' => mOpd ids x' x && mOpd ids i' i && under P t (isSliceT P sz)
  | _ => false
def mIap (P : Program) (o : Op) (len sz : Nat) (x i : Opd) : Bool :=
  match o with
  | .indexAddr t x' i' => mOpd ids x' x && mOpd ids i' i && under P t (isArrT P len sz)
  | _ => false
theorem isSliceT_spec {P : Program} {sz : Nat} {d : TypeDesc} (h : isSliceT P sz d = true) : ∃ e i, d = .slice e ∧ P.info? e = some i ∧ i.size = sz := by
  cases d <;> simp only [isSliceT, Bool.false_eq_true] at h
  obtain ⟨i, h1, h2⟩ := elemIs_spec h
  exact ⟨_, i, rfl, h1, h2⟩
theorem isArrT_spec {P : Program} {len sz : Nat} {d : TypeDesc} (h : isArrT P len sz d = true) : ∃ e i, d = .array len e ∧ P.info? e = some i ∧ i.size = sz := by
  cases d <;> simp only [isArrT, Bool.false_eq_true, Bool.and_eq_true, decide_eq_true_eq] at h
  obtain ⟨rfl, h⟩ := h
  obtain ⟨i, h1, h2⟩ := elemIs_spec h
  exact ⟨_, i, rfl, h1, h2⟩
def isStrT : TypeDesc → Bool
  | .string => true
  | _ => false
theorem isStrT_eq {d : TypeDesc} (h : isStrT d = true) : d = .string := by cases d <;> first | rfl | cases h
def mIxs (P : Program) (o : Op) (x i : Opd) : Bool :=
  match o with
  | .index t x' i' => mOpd ids x' x && mOpd ids i' i && under P t isStrT
  | _ => false
/-- A row's header, and where its elements lie, as a slot's value says. -/
theorem rowAt_spec {rt : Rts} {id : Nat} {p : Path} {d : Bool} {c' : C} (h : rowAt rt id p = some (d, c')) : ∃ t c, rt id = some (.arr d t c) ∧ (p = [] ∨ t = false) ∧ c.get p = some c' := by
  unfold rowAt at h
  split at h
  · rename_i d0 t c hr
    split at h
    · rename_i hc
      rw [Option.map_eq_some_iff] at h
      obtain ⟨c1, h1, h2⟩ := h
      injection h2 with h2 h3
      subst h2 h3
      refine ⟨t, c, hr, ?_, h1⟩
      simp only [Bool.or_eq_true, List.isEmpty_iff, Bool.not_eq_true'] at hc
      exact hc
    · cases h
  · cases h
section
variable {ids} {P : Program} {o : Oper} {a : Act} {w : World} {home : Home} {hd : Lb → Value} {rt rt' : Rts} {av : AV} {ev : Ev} {F : Nat → Option Root}
/-- What a reference leads to: the row's value u, the slot's value v is a part of it, and how the row is held. -/
theorem ref_open (old : RtR w home hd rt F) {id : Nat} {p : Path} {off n : Nat} {v : Value} (h : SVR w home hd rt (.ref id p off n) v) {d : Bool} {c' : C} (hr : rowAt rt id p = some (d, c')) {sz m tot : Nat} (hs : c'.shape = some (sz, m, tot)) :
    ∃ t c u, rt id = some (.arr d t c) ∧ (p = [] ∨ t = false) ∧ c.get p = some c' ∧ hdAt w c (hd (.r id)) p = some u ∧ CR w home ((arrTg d (.r id)).exts p) c' u ∧ Part u v sz off n := by
  obtain ⟨t, c, h1, h2, h3⟩ := rowAt_spec hr
  obtain ⟨u, h4, h5⟩ := CR.at p (old.root (.r id) _ h1) h3
  exact ⟨t, c, u, h1, h2, h3, h4, h5, h.2 d t c h1 h2 c' u h3 h4 sz m tot hs⟩
theorem exts_head {d : Bool} {l : Lb} {p : Path} {c : C} {u : Value} {sz m tot : Nat} (h : CR w home ((arrTg d l).exts p) c u) (hs : c.shape = some (sz, m, tot)) :
    ∃ vs, Hdr w home ((arrTg d l).exts p) u m tot sz vs ∧ ∀ i e, c.elemA i = some e → i < tot ∧ e.length = sz ∧ ∀ j d', e[j]? = some d' → CR w home (((arrTg d l).exts p).ext i j) d' (vs i j) := h.open hs
theorem C.elem_some {c : C} {sz n tot : Nat} (hs : c.shape = some (sz, n, tot)) {i : Nat} (hi : i < n) : ∃ e, c.elem i = some e := by
  cases c with
  | val v => cases hs
  | hole => cases hs
  | fl sz' es sp =>
    simp only [C.shape, Option.some.injEq, Prod.mk.injEq] at hs
    obtain ⟨_, rfl, _⟩ := hs
    exact ⟨_, by simp only [C.elem, List.getElem?_eq_getElem hi]; rfl⟩
  | sl sz' es sp =>
    simp only [C.shape, Option.some.injEq, Prod.mk.injEq] at hs
    obtain ⟨_, rfl, _⟩ := hs
    exact ⟨_, by simp only [C.elem]; exact List.getElem?_eq_getElem hi⟩
theorem run_asIntOf {k : IntKind} {n : Int} : (asIntOf (.int k n)).run P w = .ok (k, n) w := rfl
theorem Part.at {u v : Value} {sz off n i : Nat} (h : Part u v sz off n) (hi : i < n) {b o len cap : Nat} (hu : u = .slice (some ⟨b, o, none⟩) len cap) : ∃ cap', v = .slice (some ⟨b, o + off * sz, none⟩) n cap' := by
  obtain ⟨a, m, cap0, a', e1, e2, e3, e4⟩ := h
  subst hu
  injection e1 with e5 e6 e7
  subst e5 e7
  refine ⟨cap - off, ?_⟩
  rw [e3, e4 (by omega), Option.map_some, addr_add]
theorem run_indexAt {t e : TypeId} {i : TypeInfo} (ht : P.underlying t = some (.slice e)) (hi : P.info? e = some i) {b o n cap : Nat} {k : IntKind} {x : Int} (h0 : 0 ≤ x) (h1 : x < n) :
    (Instr.indexAt t (.slice (some ⟨b, o, none⟩) n cap) (.int k x)).run P w = .ok (.pointer (some ⟨b, o + x.toNat * i.size, none⟩)) w := by
  simp [Instr.indexAt, run_asIntOf, run_underlying ht, h0, h1, run_sizeOf' hi, addr_add]
theorem ok_ia (old : RtR w home hd rt F0) (he : EvR ids w home hd rt ev a.eval) {sz : Nat} {x i : Opd} (hm : mIa ids P o.op sz x i = true) {p q : SV} {n : Int} (hx : evS ev x = some p) (hi : evI ev i = some n) (h : index rt sz p n = some q) :
    OpOk ids P o a w home hd rt (.sv q) rt := by
  unfold mIa at hm
  split at hm
  · rename_i t x' i' ho
    simp only [Bool.and_eq_true] at hm
    obtain ⟨⟨h1, h2⟩, h3⟩ := hm
    obtain ⟨d, hd1, hd2⟩ := under_spec h3
    obtain ⟨e, ti, rfl, hti, hsz⟩ := isSliceT_spec hd2
    obtain ⟨k, hiv⟩ := he.I h2 hi
    have hp := (he.S h1 hx).1
    have hrun : ∀ {v : Value}, (Instr.indexAt t (a.eval x') (.int k n)).run P w = .ok v w → (execOp a.eval o).run P w = .ok (.value v) w := by
      intro v hv
      unfold execOp
      rw [ho]
      simp only [hiv, Sem.run_bind, hv, Result.andThen_ok, Sem.run_pure]
    unfold index at h
    split at h
    · rename_i c
      split at h
      · rename_i sz' m tot hs
        split at h
        · rename_i hc
          obtain ⟨rfl, hn0, hn1⟩ := hc
          rw [Option.map_eq_some_iff] at h
          obtain ⟨el, hel, rfl⟩ := h
          obtain ⟨vs, hh, hel2⟩ := CR.open hp hs
          obtain ⟨hlt, hlen, hcr⟩ := hel2 n.toNat el (C.elem_elemA hel)
          have hpos := hh.1
          obtain ⟨b, o', cap, hu, hb, _, hv0⟩ := hh.cell (i := n.toNat) (j := 0) hlt hpos
          have hnm : n < m := by
            have := C.elem_lt hel hs; omega
          refine .value (v := .pointer (some ⟨b, o' + n.toNat * ti.size, none⟩)) (w' := w) (hrun ?_) (Step.refl old) ?_
          · rw [hu]; exact run_indexAt hd1 hti hn0 hnm
          · refine ⟨b, o' + n.toNat * ti.size, by simp, fun j c' hj => ?_⟩
            have hj' : j < sz' := by rw [← hlen]; exact (List.getElem?_eq_some_iff.1 hj).1
            obtain ⟨b2, o2, cap2, hu2, hb2, _, hv2⟩ := hh.cell (i := n.toNat) (j := j) hlt hj'
            rw [hu] at hu2
            injection hu2 with e1 e2 e3
            injection e1 with e1
            injection e1 with e1 e4
            subst e1 e4
            refine ⟨hb, vs n.toNat j, ?_, hcr j c' hj⟩
            rw [← hv2, hsz]; congr 2; omega
        · cases h
      · cases h
    · rename_i id pa off len
      split at h
      · rename_i dd c' hr
        split at h
        · rename_i sz' m tot hs
          split at h
          · rename_i hc
            obtain ⟨rfl, hn0, hn1, hn2⟩ := hc
            injection h with h
            subst h
            obtain ⟨tt, c, u, g1, g2, g3, g4, g5, g6⟩ := ref_open old hp hr hs
            obtain ⟨vs, hh, hel2⟩ := g5.open hs
            have hpos := hh.1
            obtain ⟨b, o', cap, hu, hb, ho0, hv0⟩ := hh.cell (i := off + n.toNat) (j := 0) (by have := hh.2.1; omega) hpos
            obtain ⟨cap', hv⟩ := g6.at (i := n.toNat) (by omega) hu
            refine .value (v := .pointer (some ⟨b, o' + off * sz' + n.toNat * ti.size, none⟩)) (w' := w) (hrun ?_) (Step.refl old) ?_
            · rw [hv]; exact run_indexAt hd1 hti hn0 hn1
            · refine ⟨⟨_, rfl⟩, fun d1 t1 c1 k1 k2 c2 u2 k3 k4 sz2 m2 tot2 k5 k6 => ?_⟩
              rw [g1] at k1
              injection k1 with k1
              injection k1 with e1 e2 e3
              subst e1 e2 e3
              rw [g3] at k3; injection k3 with k3; subst k3
              rw [g4] at k4; injection k4 with k4; subst k4
              rw [hs] at k5; injection k5 with k5; injection k5 with e1 e2; injection e2 with e2 e3; subst e1 e2 e3
              exact ⟨b, o', m, cap, hu, by rw [hsz]; congr 3; rw [Nat.add_mul]; omega⟩
          · cases h
        · cases h
      · cases h
    · cases h
  · cases hm
end
end Go.Proofs.YtecmolmlojehgaaGreat.T
namespace Go.Proofs.YtecmolmlojehgaaGreat.T
open Go
variable (ids : Nat → FuncId)

def m2 (a : Option Operand) (b : Option Opd) : Bool :=
  match a, b with
  | none, none => true
  | some a, some b => mOpd ids a b
  | _, _ => false
def mSlc (P : Program) (o : Op) (sz : Nat) (x : Opd) (lo hi : Option Opd) : Bool :=
  match o with
  | .slice t x' lo' hi' none => mOpd ids x' x && m2 ids lo' lo && m2 ids hi' hi && under P t (isSliceT P sz)
  | _ => false
def mSlcs (P : Program) (o : Op) (x : Opd) (lo hi : Option Opd) : Bool :=
  match o with
  | .slice t x' lo' hi' none => mOpd ids x' x && m2 ids lo' lo && m2 ids hi' hi && under P t isStrT
  | _ => false
def mExt (o : Op) (t i : Nat) : Bool :=
  match o with
  | .extract (.tmp t') i' => t' == t && i' == i
  | _ => false
def isLenT (str : Bool) : TypeDesc → Bool
  | .string => str
  | .slice _ => !str
  | _ => false
def mLen (P : Program) (o : Op) (str : Bool) (x : Opd) : Bool :=
  match o with
  | .call c =>
    match c.callee with
    | .builtin .len =>
      match c.args.toList, c.argTypes.toList with
      | [x'], [t] => mOpd ids x' x && under P t (isLenT str)
      | _, _ => false
    | _ => false
  | _ => false
def mNchk (o : Op) (x : Opd) : Bool :=
  match o with
  | .nilCheck x' => mOpd ids x' x
  | _ => false
def mMm (o : Op) (mx : Bool) (xs : List Opd) : Bool :=
  match o with
  | .call c =>
    (match c.callee with
    | .builtin .max => mx
    | .builtin .min => !mx
    | _ => false) && all2 (mOpd ids) c.args.toList xs
  | _ => false
def mMkf (o : Op) (f : Nat) (caps : List Opd) : Bool :=
  match o with
  | .makeFunc (.func g) first captured => ids f == g && first.size == 0 && all2 (mOpd ids) captured.toList caps
  | _ => false
def aggIs (P : Program) (t : TypeId) (agg : Bool) : Bool :=
  match P.underlying t with
  | some (.struct _) => agg
  | some (.array _ _) => agg
  | some _ => !agg
  | none => false
def mLd (P : Program) (o : Op) (agg : Bool) (n : Nat) (x : Opd) : Bool :=
  match o with
  | .load t x' => mOpd ids x' x && aggIs P t agg && elemIs P n t
  | _ => false
def mFld (P : Program) (o : Op) (agg : Bool) (off n : Nat) (x : Opd) : Bool :=
  match o with
  | .field t x' f => mOpd ids x' x &&
    match P.underlying t with
    | some (.struct fs) => match fs[f]? with
      | some g => g.offset == off && aggIs P g.type agg && elemIs P n g.type
      | none => false
    | _ => false
  | _ => false
def mIxa (P : Program) (o : Op) (agg : Bool) (len sz : Nat) (x i : Opd) : Bool :=
  match o with
  | .index t x' i' => mOpd ids x' x && mOpd ids i' i &&
    match P.underlying t with
    | some (.array n e) => n == len && aggIs P e agg && elemIs P sz e
    | _ => false
  | _ => false

section
variable {ids} {P : Program} {o : Oper} {a : Act} {w : World} {home : Home} {hd : Lb → Value} {rt rt' : Rts} {av : AV} {ev : Ev}
theorem ok_iap (old : RtR w home hd rt F0) (he : EvR ids w home hd rt ev a.eval) {len sz : Nat} {x i : Opd} (hm : mIap ids P o.op len sz x i = true) {p q : SV} {n : Int} (hx : evS ev x = some p) (hi : evI ev i = some n) (h0 : 0 ≤ n) (h1 : n < len) (h : p.addOff (n.toNat * sz) = some q) :
    OpOk ids P o a w home hd rt (.sv q) rt := by
  unfold mIap at hm
  split at hm
  · rename_i t x' i' ho
    simp only [Bool.and_eq_true] at hm
    obtain ⟨⟨h2, h3⟩, h4⟩ := hm
    obtain ⟨d, hd1, hd2⟩ := under_spec h4
    obtain ⟨e, ti, rfl, hti, rfl⟩ := isArrT_spec hd2
    obtain ⟨k, hiv⟩ := he.I h3 hi
    obtain ⟨ad, hv, hq, _⟩ := (he.S h2 hx).1.addOff h
    refine .value (v := .pointer (some (ad.add (n.toNat * ti.size)))) (w' := w) ?_ (Step.refl old) hq
    unfold execOp
    rw [ho]
    simp [hv, hiv, Instr.indexAt, run_asIntOf, run_underlying hd1, Instr.sureAddr, h0, h1, run_sizeOf' hti]
  · cases hm
theorem ok_ixs (old : RtR w home hd rt F0) (he : EvR ids w home hd rt ev a.eval) {x i : Opd} (hm : mIxs ids P o.op x i = true) {s : ByteArray} {n : Int} (hx : evV ev x = some (.string s)) (hi : evI ev i = some n) (h0 : 0 ≤ n) {b : UInt8} (h : s[n.toNat]? = some b) :
    OpOk ids P o a w home hd rt (.sv (.v (.int .u8 b.toNat))) rt := by
  unfold mIxs at hm
  split at hm
  · rename_i t x' i' ho
    simp only [Bool.and_eq_true] at hm
    obtain ⟨⟨h2, h3⟩, h4⟩ := hm
    obtain ⟨d, hd1, hd2⟩ := under_spec h4
    obtain rfl := isStrT_eq hd2
    obtain ⟨k, hiv⟩ := he.I h3 hi
    refine .value (v := .int .u8 b.toNat) (w' := w) ?_ (Step.refl old) (avr_v rfl)
    unfold execOp
    rw [ho]
    simp [(he.V h2 hx).1, hiv, Instr.index, run_asIntOf, run_underlying hd1, h0, h]
  · cases hm
theorem ok_nchk (old : RtR w home hd rt F0) (he : EvR ids w home hd rt ev a.eval) {x : Opd} (hm : mNchk ids o.op x = true) {p : SV} (hx : evS ev x = some p) (h : p.isPtr = true) : OpOk ids P o a w home hd rt (.sv p) rt := by
  unfold mNchk at hm
  split at hm
  · rename_i x' ho
    have hv := (he.S hm hx).1
    have hp : ∃ ad, a.eval x' = .pointer (some ad) := by
      cases p with
      | pb id off => exact hv.1
      | pe id p i off => exact hv.1
      | pm cs off => obtain ⟨b, o', h1, _⟩ := hv; exact ⟨_, h1⟩
      | c c => cases h
      | nil k => cases h
      | ref id p off len => cases h
    obtain ⟨ad, hp⟩ := hp
    refine .value (v := .pointer (some ad)) (w' := w) ?_ (Step.refl old) (by rw [hp] at hv; exact hv)
    unfold execOp
    rw [ho]
    simp only [hp]
    rfl
  · cases hm
theorem lenOf_spec {x : SV} {v : Value} (h : SVR w home hd rt x v) {str : Bool} {n : Nat} (hn : x.lenOf str = some n) : (str = true ∧ ∃ s, v = .string s ∧ s.size = n) ∨ (str = false ∧ ∃ a cap, v = .slice a n cap) := by
  cases str with
  | true =>
    refine Or.inl ⟨rfl, ?_⟩
    cases x with
    | c c =>
      cases c with
      | val u =>
        cases u <;> simp only [SV.lenOf, Option.some.injEq, reduceCtorEq, if_true] at hn
        subst hn
        have h' : CR w home .imm (.val _) v := h
        cases h' with
        | val h => exact ⟨_, rfl, rfl⟩
      | fl sz es sp => simp [SV.lenOf] at hn
      | sl sz es sp => simp [SV.lenOf] at hn
      | hole => cases hn
    | nil k => simp [SV.lenOf] at hn
    | ref id p off len => simp [SV.lenOf] at hn
    | pb id off => cases hn
    | pe id p i off => cases hn
    | pm cs off => cases hn
  | false =>
    refine Or.inr ⟨rfl, ?_⟩
    cases x with
    | c c =>
      cases c with
      | val u => cases u <;> simp [SV.lenOf] at hn
      | fl sz es sp =>
        simp only [SV.lenOf, Option.some.injEq, Bool.false_eq_true, if_false] at hn
        subst hn
        obtain ⟨vs, hh, _⟩ := CR.open h (c := .fl sz es sp) rfl
        obtain ⟨_, _, a, cap, h1, _⟩ := hh
        exact ⟨a, cap, h1⟩
      | sl sz es sp =>
        simp only [SV.lenOf, Option.some.injEq, Bool.false_eq_true, if_false] at hn
        subst hn
        obtain ⟨vs, hh, _⟩ := CR.open h (c := .sl sz es sp) rfl
        obtain ⟨_, _, a, cap, h1, _⟩ := hh
        exact ⟨a, cap, h1⟩
      | hole => cases hn
    | nil k =>
      simp only [SV.lenOf, Option.some.injEq, Bool.false_eq_true, if_false] at hn
      subst hn
      exact ⟨none, 0, h.1⟩
    | ref id p off len =>
      simp only [SV.lenOf, Option.some.injEq, Bool.false_eq_true, if_false] at hn
      subst hn
      exact h.1
    | pb id off => cases hn
    | pe id p i off => cases hn
    | pm cs off => cases hn
theorem toList_one {α : Type} {xs : Array α} {x : α} (h : xs.toList = [x]) : xs = #[x] := by apply Array.ext'; simp [h]
theorem toList_two {α : Type} {xs : Array α} {x y : α} (h : xs.toList = [x, y]) : xs = #[x, y] := by apply Array.ext'; simp [h]
theorem ok_len (old : RtR w home hd rt F0) (he : EvR ids w home hd rt ev a.eval) {str : Bool} {x : Opd} (hm : mLen ids P o.op str x = true) {p : SV} (hx : evS ev x = some p) {n : Nat} (h : p.lenOf str = some n) :
    OpOk ids P o a w home hd rt (.sv (.v (.int .i64 n))) rt := by
  unfold mLen at hm
  split at hm
  · rename_i c ho
    split at hm
    · rename_i hc
      split at hm
      · rename_i x' t hx1 hx2
        simp only [Bool.and_eq_true] at hm
        obtain ⟨h1, h2⟩ := hm
        obtain ⟨d, hd1, hd2⟩ := under_spec h2
        have ha : c.args = #[x'] := toList_one hx1
        have ht : c.argTypes = #[t] := toList_one hx2
        refine .value (v := .int .i64 n) (w' := w) ?_ (Step.refl old) (avr_v rfl)
        unfold execOp
        rw [ho]
        have hrun : (Builtin.len_ #[t] o.type #[a.eval x']).run P w = .ok (goInt n) w := by
          rcases lenOf_spec (he.S h1 hx).1 h with ⟨rfl, s, hv, hs⟩ | ⟨rfl, ad, cap, hv⟩
          · subst hs
            cases d <;> simp [isLenT] at hd2
            simp [Builtin.len_, run_underlying hd1, hv]
          · cases d <;> simp [isLenT] at hd2
            simp [Builtin.len_, run_underlying hd1, hv]
        simp only [resolve, hc, ha, ht, Sem.run_bind, Sem.run_pure, Result.andThen_ok, invoke, builtin, List.map_toArray, List.map_cons, List.map_nil, hrun, goInt]
      · cases hm
    · cases hm
  · cases hm
theorem mapO_spec {α β : Type} {f : α → Option β} : ∀ {xs : List α} {ys : List β}, mapO f xs = some ys → xs.length = ys.length ∧ ∀ (i : Nat) x y, xs[i]? = some x → ys[i]? = some y → f x = some y
  | [], ys, h => by simp only [mapO, Option.some.injEq] at h; subst h; exact ⟨rfl, fun i x y hx => by simp at hx⟩
  | x :: xs, ys, h => by
    simp only [mapO] at h
    split at h
    · rename_i y hy
      split at h
      · rename_i ys' hys
        injection h with h
        subst h
        obtain ⟨h1, h2⟩ := mapO_spec hys
        refine ⟨by simp [h1], fun i x' y' hx hy' => ?_⟩
        cases i with
        | zero => simp at hx hy'; subst hx hy'; exact hy
        | succ i => simp at hx hy'; exact h2 i x' y' hx hy'
      · cases h
    · cases h
/-- Operands, one by one. -/
theorem EvR.Ss (he : EvR ids w home hd rt ev a.eval) {ys : List Operand} {xs : List Opd} (hm : all2 (mOpd ids) ys xs = true) {ss : List SV} (h : mapO (evS ev) xs = some ss) :
    F2 (SVR w home hd rt) ss (ys.map a.eval) ∧ ∀ x ∈ ss, ∀ i ∈ x.ids, (rt i).isSome = true := by
  obtain ⟨h1, h2⟩ := all2_iff hm
  obtain ⟨h3, h4⟩ := mapO_spec h
  refine ⟨⟨by simp [h1, h3], fun i s v hs hv => ?_⟩, fun x hx => ?_⟩
  · rw [List.getElem?_map, Option.map_eq_some_iff] at hv
    obtain ⟨y, hy, rfl⟩ := hv
    have hlt : i < xs.length := by rw [h3]; exact (List.getElem?_eq_some_iff.1 hs).1
    exact (he.S (h2 i y _ hy (List.getElem?_eq_getElem hlt)) (h4 i _ s (List.getElem?_eq_getElem hlt) hs)).1
  · obtain ⟨i, hi⟩ := List.getElem?_of_mem hx
    have hlt : i < xs.length := by rw [h3]; exact (List.getElem?_eq_some_iff.1 hi).1
    have hlt2 : i < ys.length := by rw [h1]; exact hlt
    exact (he.S (h2 i _ _ (List.getElem?_eq_getElem hlt2) (List.getElem?_eq_getElem hlt)) (h4 i _ x (List.getElem?_eq_getElem hlt) hi)).2
theorem ok_mkf (old : RtR w home hd rt F0) (he : EvR ids w home hd rt ev a.eval) {f : Nat} {xs : List Opd} (hm : mMkf ids o.op f xs = true) {ss : List SV} (h : mapO (evS ev) xs = some ss) :
    OpOk ids P o a w home hd rt (.v (.fn f ss)) rt := by
  unfold mMkf at hm
  split at hm
  · rename_i g first captured ho
    simp only [Bool.and_eq_true, beq_iff_eq] at hm
    obtain ⟨⟨rfl, h1⟩, h2⟩ := hm
    have hf : first = #[] := Array.eq_empty_of_size_eq_zero h1
    refine .value (v := .func (.func (ids f)) #[] (captured.map a.eval)) (w' := w) ?_ (Step.refl old) ⟨(captured.toList.map a.eval), ?_, (he.Ss h2 h).1⟩
    · unfold execOp
      rw [ho]
      simp [Instr.makeFunc, hf]
    · congr 1; apply Array.ext'; simp
  · cases hm
theorem run_mmS {mx : Bool} : ∀ {v r : Value} {vs : List Value}, mmS mx v vs = some r → v.oneCell' = true → (vs.foldlM (if mx then Builtin.max2 else Builtin.min2) v).run P w = .ok r w ∧ r.oneCell' = true
  | v, r, [], h, hv => by simp only [mmS, Option.some.injEq] at h; subst h; exact ⟨rfl, hv⟩
  | v, r, u :: vs, h, hv => by
    cases v <;> cases u <;> simp only [mmS, reduceCtorEq] at h
    rename_i k x k' y
    split at h
    · rename_i hk
      subst hk
      obtain ⟨h1, h2⟩ := run_mmS h rfl
      refine ⟨?_, h2⟩
      rw [List.foldlM_cons, Sem.run_bind]
      cases mx
      · simp only [Bool.false_eq_true, if_false, Builtin.min2, Sem.run_pure, Result.andThen_ok] at h1 ⊢; exact h1
      · simp only [if_true, Builtin.max2, Sem.run_pure, Result.andThen_ok] at h1 ⊢; exact h1
    · cases h
theorem EvR.Vs (he : EvR ids w home hd rt ev a.eval) {ys : List Operand} {xs : List Opd} (hm : all2 (mOpd ids) ys xs = true) {vs : List Value} (h : mapO (evV ev) xs = some vs) : ys.map a.eval = vs ∧ ∀ v ∈ vs, v.oneCell' = true := by
  obtain ⟨h1, h2⟩ := all2_iff hm
  obtain ⟨h3, h4⟩ := mapO_spec h
  have key : ∀ (i : Nat) v, vs[i]? = some v → (ys.map a.eval)[i]? = some v ∧ v.oneCell' = true := by
    intro i v hv
    have hlt : i < xs.length := by rw [h3]; exact (List.getElem?_eq_some_iff.1 hv).1
    have hlt2 : i < ys.length := by rw [h1]; exact hlt
    obtain ⟨e1, e2⟩ := he.V (h2 i _ _ (List.getElem?_eq_getElem hlt2) (List.getElem?_eq_getElem hlt)) (h4 i _ v (List.getElem?_eq_getElem hlt) hv)
    exact ⟨by rw [List.getElem?_map, List.getElem?_eq_getElem hlt2, Option.map_some, e1], e2⟩
  refine ⟨?_, fun v hv => ?_⟩
  · apply List.ext_getElem?
    intro i
    cases hv : vs[i]? with
    | none =>
      rw [List.getElem?_eq_none_iff] at hv ⊢
      rw [List.length_map]; omega
    | some v => exact (key i v hv).1
  · obtain ⟨i, hi⟩ := List.getElem?_of_mem hv
    exact (key i v hi).2
theorem ok_mm (old : RtR w home hd rt F0) (he : EvR ids w home hd rt ev a.eval) {mx : Bool} {xs : List Opd} (hm : mMm ids o.op mx xs = true) {v r : Value} {vs : List Value} (hx : mapO (evV ev) xs = some (v :: vs)) (h : mmS mx v vs = some r) :
    OpOk ids P o a w home hd rt (.sv (.v r)) rt := by
  unfold mMm at hm
  split at hm
  · rename_i c ho
    simp only [Bool.and_eq_true] at hm
    obtain ⟨h1, h2⟩ := hm
    obtain ⟨h3, h4⟩ := he.Vs h2 hx
    obtain ⟨h5, h6⟩ := run_mmS (P := P) (w := w) h (h4 v (List.mem_cons_self ..))
    refine .value (v := r) (w' := w) ?_ (Step.refl old) (avr_v h6)
    unfold execOp
    rw [ho]
    have hargs : (c.args.map a.eval).toList = v :: vs := by simp [h3]
    split at h1
    · rename_i hc
      subst h1
      simp only [if_true] at h5
      have : (Builtin.max_ c.argTypes o.type (c.args.map a.eval)).run P w = .ok r w := by unfold Builtin.max_; rw [hargs]; exact h5
      simp only [resolve, hc, Sem.run_bind, Sem.run_pure, Result.andThen_ok, invoke, builtin, this]
    · rename_i hc
      simp only [Bool.not_eq_true'] at h1
      subst h1
      simp only [Bool.false_eq_true, if_false] at h5
      have : (Builtin.min_ c.argTypes o.type (c.args.map a.eval)).run P w = .ok r w := by unfold Builtin.min_; rw [hargs]; exact h5
      simp only [resolve, hc, Sem.run_bind, Sem.run_pure, Result.andThen_ok, invoke, builtin, this]
    · cases h1
  · cases hm
end

section
variable {ids} {P : Program} {o : Oper} {a : Act} {w : World} {home : Home} {hd : Lb → Value} {rt rt' : Rts} {av : AV} {ev : Ev}
def TpR (ids : Nat → FuncId) (w : World) (home : Home) (hd : Lb → Value) (rt : Rts) (tp : Nat → Option (List A1)) (ρ : Operand → Value) : Prop :=
  ∀ t as, tp t = some as → ∃ vs : List Value, ρ (.tmp t) = .tuple vs.toArray ∧ F2 (A1R ids w home hd rt) as vs ∧ ∀ x ∈ as, ∀ i ∈ x.ids, (rt i).isSome = true
def mMvt (o : Op) (t : Nat) : Bool :=
  match o with
  | .move (.tmp t') => t' == t
  | .assign (.tmp t') => t' == t
  | _ => false
theorem ok_mvt (old : RtR w home hd rt F0) {tp : Nat → Option (List A1)} (ht : TpR ids w home hd rt tp a.eval) {t : Nat} (hm : mMvt o.op t = true) {as : List A1} (hx : tp t = some as) :
    OpOk ids P o a w home hd rt (.tup as) rt := by
  unfold mMvt at hm
  split at hm
  · rename_i t' ho
    have hm := eq_of_beq hm
    subst hm
    obtain ⟨vs, hv, hf, _⟩ := ht _ as hx
    exact .value (v := a.eval (.tmp t')) (w' := w) (by unfold execOp; rw [ho]; rfl) (Step.refl old) ⟨vs, hv, hf⟩
  · rename_i t' ho
    have hm := eq_of_beq hm
    subst hm
    obtain ⟨vs, hv, hf, _⟩ := ht _ as hx
    exact .value (v := a.eval (.tmp t')) (w' := w) (by unfold execOp; rw [ho]; rfl) (Step.refl old) ⟨vs, hv, hf⟩
  · cases hm
theorem ok_ext (old : RtR w home hd rt F0) {tp : Nat → Option (List A1)} (ht : TpR ids w home hd rt tp a.eval) {t i : Nat} (hm : mExt o.op t i = true) {as : List A1} (hx : tp t = some as) {x : A1} (h : as[i]? = some x) :
    OpOk ids P o a w home hd rt (.v x) rt := by
  unfold mExt at hm
  split at hm
  · rename_i t' i' ho
    simp only [Bool.and_eq_true, beq_iff_eq] at hm
    obtain ⟨rfl, rfl⟩ := hm
    obtain ⟨vs, hv, hf, _⟩ := ht _ as hx
    have hlt : i' < vs.length := by rw [← hf.1]; exact (List.getElem?_eq_some_iff.1 h).1
    refine .value (v := vs[i']) (w' := w) ?_ (Step.refl old) (hf.2 i' x _ h (List.getElem?_eq_getElem hlt))
    unfold execOp
    rw [ho]
    simp [hv, Instr.extract, List.getElem?_eq_getElem hlt]
  · cases hm
theorem F2.seg {α β : Type} {R : α → β → Prop} {xs : List α} {ys : List β} (h : F2 R xs ys) (off n : Nat) : F2 R ((xs.drop off).take n) ((ys.drop off).take n) := by
  refine ⟨by simp [h.1], fun i x y hx hy => ?_⟩
  rw [List.getElem?_take] at hx hy
  split at hx
  · rename_i hi
    rw [if_pos hi] at hy
    rw [List.getElem?_drop] at hx hy
    exact h.2 _ x y hx hy
  · cases hx
theorem aggIs_run {t : TypeId} {agg : Bool} (h : aggIs P t agg = true) : (isAgg t).run P w = .ok agg w := by
  unfold aggIs at h
  split at h
  · rename_i hd; simp [isAgg, run_underlying hd, h]
  · rename_i hd; simp [isAgg, run_underlying hd, h]
  · rename_i d h1 h2 hd
    simp only [isAgg, Sem.run_bind, run_underlying hd, Result.andThen_ok]
    cases d <;> simp_all
  · cases h
/-- A part of a row of cells, as a value. -/
theorem run_part {t : TypeId} {agg : Bool} {n off : Nat} (h1 : aggIs P t agg = true) (h2 : elemIs P n t = true) {vs : List Value} {xs ys : List SV} (hf : F2 (SVR w home hd rt) xs vs) (hs : seg xs off n = some ys) {r : A1} (hr : mkAgg agg ys = some r) :
    ∃ v, (part t vs.toArray off).run P w = .ok v w ∧ A1R ids w home hd rt r v := by
  obtain ⟨i, hi, hn⟩ := elemIs_spec h2
  unfold seg at hs
  split at hs
  · rename_i hle
    injection hs with hs
    subst hs
    unfold mkAgg at hr
    cases agg with
    | true =>
      simp only [if_true, Option.some.injEq] at hr
      subst hr
      refine ⟨.agg (vs.toArray.extract off (off + n)), ?_, (vs.drop off).take n, ?_, hf.seg off n⟩
      · unfold part
        simp only [Sem.run_bind, aggIs_run h1, Result.andThen_ok, if_true, run_sizeOf' hi, hn, Sem.run_pure]
      · congr 1
        apply Array.ext'
        simp [List.extract_eq_take_drop]
    | false =>
      simp only [Bool.false_eq_true, if_false] at hr
      split at hr
      · rename_i x hx
        injection hr with hr
        subst hr
        have h0 : ((xs.drop off).take n)[0]? = some x := by rw [hx]; rfl
        rw [List.getElem?_take] at h0
        split at h0
        · rw [List.getElem?_drop, Nat.add_zero] at h0
          have hlt : off < vs.length := by rw [← hf.1]; exact (List.getElem?_eq_some_iff.1 h0).1
          refine ⟨vs[off], ?_, hf.2 off x _ h0 (List.getElem?_eq_getElem hlt)⟩
          unfold part
          simp [aggIs_run h1, List.getElem?_eq_getElem hlt]
        · cases h0
      · cases hr
  · cases hs
theorem ok_fld (old : RtR w home hd rt F0) (he : EvR ids w home hd rt ev a.eval) {agg : Bool} {off n : Nat} {x : Opd} (hm : mFld ids P o.op agg off n x = true) {xs ys : List SV} (hx : ev x = some (.agg xs)) (hs : seg xs off n = some ys) {r : A1} (hr : mkAgg agg ys = some r) :
    OpOk ids P o a w home hd rt (.v r) rt := by
  unfold mFld at hm
  split at hm
  · rename_i t x' f ho
    simp only [Bool.and_eq_true] at hm
    obtain ⟨h1, h2⟩ := hm
    split at h2
    · rename_i fs hd1
      split at h2
      · rename_i g hg
        simp only [Bool.and_eq_true, beq_iff_eq] at h2
        obtain ⟨⟨rfl, h3⟩, h4⟩ := h2
        obtain ⟨vs, hv, hf⟩ := (he x' x _ h1 hx).1
        obtain ⟨v, hrun, hR⟩ := run_part (ids := ids) (P := P) h3 h4 hf hs hr
        refine .value (v := v) (w' := w) ?_ (Step.refl old) hR
        unfold execOp
        rw [ho]
        simp only [hv, Instr.field, Sem.run_bind, run_underlying hd1, Result.andThen_ok, hg, asAgg, Sem.run_pure, hrun]
      · cases h2
    · cases h2
  · cases hm
theorem ok_ixa (old : RtR w home hd rt F0) (he : EvR ids w home hd rt ev a.eval) {agg : Bool} {len sz : Nat} {x i : Opd} (hm : mIxa ids P o.op agg len sz x i = true) {xs ys : List SV} (hx : ev x = some (.agg xs)) {n : Int} (hi : evI ev i = some n) (h0 : 0 ≤ n) (h1 : n < len)
    (hs : seg xs (n.toNat * sz) sz = some ys) {r : A1} (hr : mkAgg agg ys = some r) : OpOk ids P o a w home hd rt (.v r) rt := by
  unfold mIxa at hm
  split at hm
  · rename_i t x' i' ho
    simp only [Bool.and_eq_true] at hm
    obtain ⟨⟨h2, h3⟩, h4⟩ := hm
    split at h4
    · rename_i m e hd1
      simp only [Bool.and_eq_true, beq_iff_eq] at h4
      obtain ⟨⟨rfl, h5⟩, h6⟩ := h4
      obtain ⟨vs, hv, hf⟩ := (he x' x _ h2 hx).1
      obtain ⟨k, hiv⟩ := he.I h3 hi
      obtain ⟨ti, hti, hsz⟩ := elemIs_spec h6
      obtain ⟨v, hrun, hR⟩ := run_part (ids := ids) (P := P) h5 h6 hf hs hr
      refine .value (v := v) (w' := w) ?_ (Step.refl old) hR
      unfold execOp
      rw [ho]
      simp only [hv, hiv, Instr.index, Sem.run_bind, run_asIntOf, run_underlying hd1, Result.andThen_ok, h0, h1, and_self, if_true, run_sizeOf' hti, hsz, hrun, Sem.run_pure]
    · cases h4
  · cases hm
/-- Cells of memory, as a value. -/
theorem run_loadVar' {t : TypeId} {agg : Bool} {n : Nat} (h1 : aggIs P t agg = true) (h2 : elemIs P n t = true) {b o' : Nat} {ys : List SV} (hl : ys.length = n)
    (hc : ∀ (j : Nat) x, ys[j]? = some x → ∃ u, w.cell? ⟨b, o' + j, none⟩ = some u ∧ SVR w home hd rt x u) {r : A1} (hr : mkAgg agg ys = some r) :
    ∃ v, (loadVar t ⟨b, o', none⟩).run P w = .ok v w ∧ A1R ids w home hd rt r v := by
  obtain ⟨i, hi, hn⟩ := elemIs_spec h2
  have hc' : ∀ j, j < n → ∃ u, w.cell? ⟨b, o' + j, none⟩ = some u := fun j hj => by
    obtain ⟨u, hu, _⟩ := hc j _ (List.getElem?_eq_getElem (by omega : j < ys.length)); exact ⟨u, hu⟩
  let f : Nat → Value := fun j => (w.cell? ⟨b, o' + j, none⟩).getD undef
  have hf : ∀ j, j < n → w.cell? ((⟨b, o', none⟩ : Addr).add j) = some (f j) := fun j hj => by
    obtain ⟨u, hu⟩ := hc' j hj
    rw [addr_add]
    simp [f, hu]
  have hF2 : F2 (SVR w home hd rt) ys ((List.range n).map f) := by
    refine ⟨by simp [hl], fun j x v hx hv => ?_⟩
    obtain ⟨u, hu, hR⟩ := hc j x hx
    rw [List.getElem?_map, Option.map_eq_some_iff] at hv
    obtain ⟨k, hk, rfl⟩ := hv
    rw [List.getElem?_range (by rw [← hl]; exact (List.getElem?_eq_some_iff.1 hx).1)] at hk
    injection hk with hk
    subst hk
    simp only [f, hu, Option.getD_some]
    exact hR
  unfold mkAgg at hr
  cases agg with
  | true =>
    simp only [if_true, Option.some.injEq] at hr
    subst hr
    refine ⟨.agg ((List.range n).map f).toArray, ?_, _, rfl, hF2⟩
    unfold loadVar
    simp only [Sem.run_bind, aggIs_run h1, Result.andThen_ok, if_true, run_sizeOf' hi, hn, run_loadCells (P := P) w _ n f hf, Sem.run_pure]
  | false =>
    simp only [Bool.false_eq_true, if_false] at hr
    split at hr
    · rename_i x
      injection hr with hr
      subst hr
      obtain ⟨u, hu, hR⟩ := hc 0 x rfl
      refine ⟨u, ?_, hR⟩
      unfold loadVar
      rw [Nat.add_zero] at hu
      simp only [Sem.run_bind, aggIs_run h1, Result.andThen_ok, Bool.false_eq_true, if_false, run_load, hu]
    · cases hr
theorem cellSVs_get {d : Bool} {id : Nat} {p : Path} {i : Nat} : ∀ {cs : List C} {j : Nat}, (cellSVs d id p i j cs).length = cs.length ∧ ∀ (k : Nat) x, (cellSVs d id p i j cs)[k]? = some x → ∃ c, cs[k]? = some c ∧ x = cellSV d id p i (j + k) c
  | [], j => ⟨rfl, fun k x hx => by simp [cellSVs] at hx⟩
  | c :: cs, j => by
    obtain ⟨h1, h2⟩ := cellSVs_get (d := d) (id := id) (p := p) (i := i) (cs := cs) (j := j + 1)
    refine ⟨by simp [cellSVs, h1], fun k x hx => ?_⟩
    cases k with
    | zero => simp only [cellSVs, List.getElem?_cons_zero, Option.some.injEq] at hx; exact ⟨c, rfl, hx.symm⟩
    | succ k =>
      simp only [cellSVs, List.getElem?_cons_succ] at hx
      obtain ⟨c', h3, h4⟩ := h2 k x hx
      exact ⟨c', h3, by rw [h4]; congr 1; omega⟩
theorem C.get_append : ∀ {p q : Path} {c : C}, c.get (p ++ q) = (c.get p).bind (fun d => d.get q)
  | [], q, c => by cases c <;> simp [C.get]
  | (i, j) :: p, q, c => by
    cases c with
    | val v => rfl
    | hole => rfl
    | fl sz es sp => rfl
    | sl sz es sp =>
      simp only [List.cons_append, C.get]
      cases es[i]? with
      | none => rfl
      | some e =>
        simp only
        cases e[j]? with
        | none => rfl
        | some d => exact C.get_append
theorem hdAt_append {w : World} : ∀ {p q : Path} {c d : C} {u u1 : Value}, c.get p = some d → hdAt w c u p = some u1 → hdAt w c u (p ++ q) = hdAt w d u1 q
  | [], q, c, d, u, u1, hg, hu => by
    have e1 : c.get [] = some c := by cases c <;> rfl
    have e2 : hdAt w c u [] = some u := by cases c <;> rfl
    rw [e1] at hg; injection hg with hg; subst hg
    rw [e2] at hu; injection hu with hu; subst hu
    rfl
  | (i, j) :: p, q, c, d, u, u1, hg, hu => by
    cases c with
    | val v => cases hg
    | hole => cases hg
    | fl sz es sp => cases hg
    | sl sz es sp =>
      simp only [C.get] at hg
      cases hi : es[i]? with
      | none => simp only [hi] at hg; cases hg
      | some e =>
        simp only [hi] at hg
        cases hj : e[j]? with
        | none => simp only [hj] at hg; cases hg
        | some d0 =>
          simp only [hj] at hg
          cases u <;> try (simp [hdAt] at hu; done)
          rename_i ad m cap
          cases ad with
          | none => simp [hdAt] at hu
          | some ad =>
            simp only [List.cons_append, hdAt, hi, hj] at hu ⊢
            cases hc : w.cell? { block := ad.block, off := ad.off + (i * sz + j) } with
            | none => simp only [hc] at hu; cases hu
            | some u' =>
              simp only [hc] at hu ⊢
              exact hdAt_append hg hu
theorem exts_false_imm (l : Lb) (p : Path) (i j : Nat) : ((arrTg false l).exts p).ext i j = .imm := by
  cases p with
  | nil => rfl
  | cons x p => simp only [arrTg, Bool.false_eq_true, if_false, Tg.exts_top]; rfl
theorem exts_true_own (l : Lb) (p : Path) : (arrTg true l).exts p = .own l p := by simp [arrTg, Tg.exts_own]
/-- One cell of an element of an owned row, as a slot holds it. -/
theorem cellSV_R (old : RtR w home hd rt F0) {id : Nat} {d t : Bool} {c c' : C} {p : Path} {u : Value} (hr : rt id = some (.arr d t c)) (hg : c.get p = some c') (hu : hdAt w c (hd (.r id)) p = some u) (hcr : CR w home ((arrTg d (.r id)).exts p) c' u)
    {i j : Nat} {e : List C} {x : C} (he : c'.elem i = some e) (hx : e[j]? = some x) {b o' n cap : Nat} (hub : u = .slice (some ⟨b, o', none⟩) n cap) {sz m tot : Nat} (hs : c'.shape = some (sz, m, tot)) {uj : Value} (hc : w.cell? ⟨b, o' + (i * sz + j), none⟩ = some uj) :
    SVR w home hd rt (cellSV d id p i j x) uj ∧ ∀ k ∈ (cellSV d id p i j x).ids, (rt k).isSome = true := by
  obtain ⟨vs, hh, hel⟩ := hcr.open hs
  obtain ⟨hlt, hlen, hcc⟩ := hel i e (C.elem_elemA he)
  have hjs : j < sz := by rw [← hlen]; exact (List.getElem?_eq_some_iff.1 hx).1
  obtain ⟨b2, o2, cap2, hu2, _, _, hv⟩ := hh.cell hlt hjs
  rw [hub] at hu2
  injection hu2 with e1 e2 e3
  injection e1 with e1
  injection e1 with e1 e4
  subst e1 e4
  rw [hc] at hv
  injection hv with hv
  have hX := hcc j x hx
  rw [← hv] at hX
  have hslice : ∀ {sz2 n2 tot2 : Nat}, x.shape = some (sz2, n2, tot2) → d = true → SVR w home hd rt (.ref id (p ++ [(i, j)]) 0 n2) uj := by
    intro sz2 n2 tot2 hsx hd'
    subst hd'
    obtain ⟨vs2, hh2, _⟩ := hX.open hsx
    obtain ⟨_, g1, a2, cap3, hu3, g2, _⟩ := hh2
    refine ⟨⟨a2, cap3, hu3⟩, fun d1 t1 c1 k1 _ c3 u3 k3 k4 sz3 m3 tot3 k5 => ?_⟩
    rw [hr] at k1
    injection k1 with k1
    injection k1 with e1 e2 e3
    subst e1 e2 e3
    have hg1 : c'.get [(i, j)] = some x := by
      cases c' with
      | val v => cases he
      | hole => cases he
      | fl sz' es sp =>
        simp only [C.elem, Option.map_eq_some_iff] at he
        obtain ⟨y, _, rfl⟩ := he
        rw [List.getElem?_map, Option.map_eq_some_iff] at hx
        obtain ⟨v, _, rfl⟩ := hx
        cases hsx
      | sl sz' es sp =>
        simp only [C.elem] at he
        simp only [C.get, he, hx]
    have k3' := k3
    rw [C.get_append, hg, Option.bind_some, hg1] at k3'
    injection k3' with k3'
    subst k3'
    rw [hdAt_append hg hu] at k4
    have hat : hdAt w c' u [(i, j)] = some uj := by
      cases c' with
      | val v => cases he
      | hole => cases he
      | fl sz' es sp => cases hg1
      | sl sz' es sp =>
        simp only [C.shape, Option.some.injEq, Prod.mk.injEq] at hs
        obtain ⟨rfl, _, _⟩ := hs
        simp only [C.elem] at he
        subst hub
        simp only [hdAt, he, hx, hc]
    rw [hat] at k4
    injection k4 with k4
    subst k4
    rw [hsx] at k5
    injection k5 with k5
    injection k5 with e1 e2
    injection e2 with e2 e3
    subst e1 e2 e3
    rw [hu3]
    exact Part.self _ (by omega)
  have himm : d = false → SVR w home hd rt (.c x) uj := fun hd' => by
    subst hd'
    rw [exts_false_imm] at hX
    exact hX
  have hpres : (rt id).isSome = true := by rw [hr]; rfl
  cases x with
  | val v =>
    refine ⟨?_, fun k hk => by cases hk⟩
    show CR w home .imm (.val v) uj
    cases hX with
    | val h => exact .val h
  | hole => exact ⟨.hole hX.one, fun k hk => by cases hk⟩
  | fl sz2 es2 sp2 =>
    cases d with
    | true =>
      simp only [cellSV, if_true]
      exact ⟨hslice rfl rfl, fun k hk => by simp only [SV.ids, List.mem_singleton] at hk; subst hk; exact hpres⟩
    | false =>
      simp only [cellSV, Bool.false_eq_true, if_false]
      exact ⟨himm rfl, fun k hk => by cases hk⟩
  | sl sz2 es2 sp2 =>
    cases d with
    | true =>
      simp only [cellSV, if_true]
      exact ⟨hslice rfl rfl, fun k hk => by simp only [SV.ids, List.mem_singleton] at hk; subst hk; exact hpres⟩
    | false =>
      simp only [cellSV, Bool.false_eq_true, if_false]
      exact ⟨himm rfl, fun k hk => by cases hk⟩
theorem seg_get {α : Type} {l ys : List α} {off n : Nat} (h : seg l off n = some ys) : ys.length = n ∧ ∀ (j : Nat) x, ys[j]? = some x → l[off + j]? = some x := by
  unfold seg at h
  split at h
  · rename_i hle
    injection h with h
    subst h
    refine ⟨by simp; omega, fun j x hx => ?_⟩
    rw [List.getElem?_take] at hx
    split at hx
    · rw [List.getElem?_drop] at hx; exact hx
    · cases hx
  · cases h
theorem ok_ld (old : RtR w home hd rt F0) (he : EvR ids w home hd rt ev a.eval) {agg : Bool} {n : Nat} {x : Opd} (hm : mLd ids P o.op agg n x = true) {p : SV} (hx : evS ev x = some p) {ys : List SV} (hl : load rt n p = some ys) {r : A1} (hr : mkAgg agg ys = some r) :
    OpOk ids P o a w home hd rt (.v r) rt := by
  unfold mLd at hm
  split at hm
  · rename_i t x' ho
    simp only [Bool.and_eq_true] at hm
    obtain ⟨⟨h1, h2⟩, h3⟩ := hm
    have hv := (he.S h1 hx).1
    have fin : ∀ {b o' : Nat}, a.eval x' = .pointer (some ⟨b, o', none⟩) → ys.length = n → (∀ (j : Nat) y, ys[j]? = some y → ∃ u, w.cell? ⟨b, o' + j, none⟩ = some u ∧ SVR w home hd rt y u) → OpOk ids P o a w home hd rt (.v r) rt := by
      intro b o' hp hlen hc
      obtain ⟨v, hrun, hR⟩ := run_loadVar' (ids := ids) (P := P) h2 h3 hlen hc hr
      refine .value (v := v) (w' := w) ?_ (Step.refl old) hR
      unfold execOp
      rw [ho]
      simp only [hp, Instr.loadAt, Instr.sureAddr, Sem.run_bind, Sem.run_pure, Result.andThen_ok, hrun]
    cases p with
    | c c => cases hl
    | nil k => cases hl
    | ref id p off len => cases hl
    | pb id off =>
      simp only [load] at hl
      split at hl
      · rename_i xs hrt
        obtain ⟨g1, g2⟩ := seg_get hl
        obtain ⟨b, cur, e, k1, k2, k3, k4⟩ := RR.box (old.root (.r id) _ hrt)
        obtain ⟨b', k5, k6⟩ := hv.2 xs hrt
        rw [k1] at k5
        injection k5 with k5; injection k5 with k5; injection k5 with k5
        subst k5
        refine fin k6 g1 (fun j y hy => ?_)
        have hxj := g2 j y hy
        have hlt : off + j < cur.toList.length := by rw [← k4.1]; exact (List.getElem?_eq_some_iff.1 hxj).1
        refine ⟨cur.toList[off + j], ?_, k4.2 _ y _ hxj (List.getElem?_eq_getElem hlt)⟩
        rw [cell_row k3]
        rw [Array.getElem?_eq_getElem (by simpa using hlt)]
        rfl
      · cases hl
    | pm cs off =>
      simp only [load, Option.map_eq_some_iff] at hl
      obtain ⟨cs', hcs, rfl⟩ := hl
      obtain ⟨g1, g2⟩ := seg_get hcs
      obtain ⟨b, o', k1, k2⟩ := hv
      refine fin k1 (by simp [g1]) (fun j y hy => ?_)
      rw [List.getElem?_map, Option.map_eq_some_iff] at hy
      obtain ⟨c, hc, rfl⟩ := hy
      obtain ⟨_, u, k3, k4⟩ := k2 _ c (g2 j c hc)
      exact ⟨u, by rw [← k3, Nat.add_assoc], k4⟩
    | pe id pa i off =>
      simp only [load] at hl
      split at hl
      · rename_i d c' hra
        split at hl
        · rename_i e hel
          rw [Option.map_eq_some_iff] at hl
          obtain ⟨cs, hcs, rfl⟩ := hl
          obtain ⟨g1, g2⟩ := seg_get hcs
          obtain ⟨q1, q2⟩ := cellSVs_get (d := d) (id := id) (p := pa) (i := i) (cs := cs) (j := off)
          obtain ⟨t0, c, k1, k2, k3⟩ := rowAt_spec hra
          obtain ⟨u, k4, k5⟩ := CR.at pa (old.root (.r id) _ k1) k3
          cases hs : c'.shape with
          | none => cases c' <;> first | cases hel | cases hs
          | some sh =>
            obtain ⟨sz, m, tot⟩ := sh
            obtain ⟨b, o', kk, cap, k6, k7⟩ := hv.2 d t0 c k1 k2 c' u k3 k4 sz m tot hs (C.elem_lt hel hs)
            refine fin k7 (by rw [q1, g1]) (fun j y hy => ?_)
            obtain ⟨x0, hx0, rfl⟩ := q2 j y hy
            have hxe := g2 j x0 hx0
            obtain ⟨vs, hh, hel2⟩ := k5.open hs
            obtain ⟨hlt, hlen, _⟩ := hel2 i e (C.elem_elemA hel)
            have hjs : off + j < sz := by rw [← hlen]; exact (List.getElem?_eq_some_iff.1 hxe).1
            obtain ⟨b2, o2, cap2, hu2, _, _, hcv⟩ := hh.cell hlt hjs
            rw [k6] at hu2
            injection hu2 with e1 e2 e3
            injection e1 with e1
            injection e1 with e1 e4
            subst e1 e4
            refine ⟨vs i (off + j), by rw [← hcv]; congr 2; omega, (cellSV_R old k1 k3 k4 k5 hel hxe k6 hs hcv).1⟩
        · cases hl
      · cases hl
  · cases hm
/-- A bound that may be left out. -/
def BdR (ρ : Operand → Value) (y : Option Operand) (n : Option Int) : Prop := (y = none ∧ n = none) ∨ ∃ x k m, y = some x ∧ ρ x = .int k m ∧ n = some m
theorem run_sliceBounds {isSlice : Bool} {len cap : Nat} {ρ : Operand → Value} {lo' hi' : Option Operand} {lo hi : Option Int} (h1 : BdR ρ lo' lo) (h2 : BdR ρ hi' hi) (h3 : 0 ≤ lo.getD 0) (h4 : lo.getD 0 ≤ hi.getD len) (h5 : hi.getD len ≤ cap) :
    (Instr.sliceBounds isSlice len cap (lo'.map ρ) (hi'.map ρ) none).run P w = .ok ((lo.getD 0).toNat, (hi.getD len).toNat, cap) w := by
  have hb : ∀ {k : IntKind} {n : Int} {y : Nat} {code : BoundsCode}, 0 ≤ n → n ≤ y → (Instr.sliceBound (.int k n) y code).run P w = .ok n.toNat w := by
    intro k n y code g1 g2
    simp [Instr.sliceBound, run_asIntOf, g1, g2]
  rcases h2 with ⟨rfl, rfl⟩ | ⟨y, k, m, rfl, hy, rfl⟩
  · rcases h1 with ⟨rfl, rfl⟩ | ⟨x, k1, m1, rfl, hx, rfl⟩
    · simp [Instr.sliceBounds]
    · simp only [Option.getD_some, Option.getD_none] at h3 h4 h5
      simp [Instr.sliceBounds, hx, hb h3 h4]
  · rcases h1 with ⟨rfl, rfl⟩ | ⟨x, k1, m1, rfl, hx, rfl⟩
    · simp only [Option.getD_some, Option.getD_none] at h3 h4 h5
      simp [Instr.sliceBounds, hy, hb h4 h5]
    · simp only [Option.getD_some] at h3 h4 h5
      have h6 : (m1 : Int) ≤ (m.toNat : Int) := by omega
      simp [Instr.sliceBounds, hx, hy, hb (by omega : 0 ≤ m) h5, hb h3 h6]
theorem BdR.mk (he : EvR ids w home hd rt ev a.eval) {y : Option Operand} {x : Option Opd} (hm : m2 ids y x = true) {n : Option Int}
    (h : x.elim (some none) (fun o => (evI ev o).map some) = some n) : BdR a.eval y n := by
  cases y with
  | none =>
    cases x with
    | none => simp only [Option.elim_none, Option.some.injEq] at h; subst h; exact Or.inl ⟨rfl, rfl⟩
    | some x => cases hm
  | some y =>
    cases x with
    | none => cases hm
    | some x =>
      simp only [Option.elim_some, Option.map_eq_some_iff] at h
      obtain ⟨m, hm2, rfl⟩ := h
      obtain ⟨k, hk⟩ := he.I hm hm2
      exact Or.inr ⟨y, k, m, rfl, hk, rfl⟩
theorem run_sliceAt {t e : TypeId} {ti : TypeInfo} (ht : P.underlying t = some (.slice e)) (hti : P.info? e = some ti) {ad : Option Addr} {len cap : Nat} {ρ : Operand → Value} {lo' hi' : Option Operand} {lo hi : Option Int}
    (h1 : BdR ρ lo' lo) (h2 : BdR ρ hi' hi) (h3 : 0 ≤ lo.getD 0) (h4 : lo.getD 0 ≤ hi.getD len) (h5 : hi.getD len ≤ cap) :
    (Instr.sliceAt t (.slice ad len cap) (lo'.map ρ) (hi'.map ρ) none).run P w =
      .ok (.slice (if cap = (lo.getD 0).toNat then ad else ad.map (fun x => x.add ((lo.getD 0).toNat * ti.size))) ((hi.getD len).toNat - (lo.getD 0).toNat) (cap - (lo.getD 0).toNat)) w := by
  unfold Instr.sliceAt
  simp only [Sem.run_bind, run_underlying ht, Result.andThen_ok]
  unfold Instr.slice
  simp only [Sem.run_bind, run_underlying ht, Result.andThen_ok, run_sliceBounds h1 h2 h3 h4 h5, run_sizeOf' hti, Sem.run_pure]
theorem Part.sub {u : Value} {ad : Option Addr} {len cap sz off : Nat} (h : Part u (.slice ad len cap) sz off len) {l n : Nat} (hl : l + n ≤ cap) :
    Part u (.slice (if cap = l then ad else ad.map (fun x => x.add (l * sz))) n (cap - l)) sz (off + l) n := by
  obtain ⟨a0, m, cap0, a', e1, e2, e3, e4⟩ := h
  injection e3 with e5 e6 e7
  subst e5 e7
  refine ⟨a0, m, cap0, _, e1, by omega, by congr 1; omega, fun hlt => ?_⟩
  rw [if_neg (by omega), e4 (by omega), Option.map_map]
  congr 1
  funext x
  simp only [Function.comp]
  unfold Addr.add
  by_cases h1 : off * sz = 0 <;> by_cases h2 : l * sz = 0
  · rw [if_pos h1, if_pos h2, if_pos (by rw [Nat.add_mul]; omega)]
  · rw [if_pos h1, if_neg h2, if_neg (by rw [Nat.add_mul]; omega)]
    congr 1; rw [Nat.add_mul]; omega
  · rw [if_neg h1, if_pos h2, if_neg (by rw [Nat.add_mul]; omega)]
    congr 1; rw [Nat.add_mul]; omega
  · rw [if_neg h1, if_neg h2, if_neg (by rw [Nat.add_mul]; omega)]
    simp only
    congr 1; rw [Nat.add_mul]; omega
theorem ok_slcs (old : RtR w home hd rt F0) (he : EvR ids w home hd rt ev a.eval) {x : Opd} {lo hi : Option Opd} (hm : mSlcs ids P o.op x lo hi = true) {s : ByteArray} (hx : evV ev x = some (.string s)) {l h : Option Int}
    (hl : lo.elim (some none) (fun o => (evI ev o).map some) = some l) (hh : hi.elim (some none) (fun o => (evI ev o).map some) = some h) (g1 : 0 ≤ l.getD 0) (g2 : l.getD 0 ≤ h.getD s.size) (g3 : h.getD s.size ≤ s.size) :
    OpOk ids P o a w home hd rt (.sv (.v (.string (s.extract (l.getD 0).toNat (h.getD s.size).toNat)))) rt := by
  unfold mSlcs at hm
  split at hm
  · rename_i t x' lo' hi' ho
    simp only [Bool.and_eq_true] at hm
    obtain ⟨⟨⟨h1, h2⟩, h3⟩, h4⟩ := hm
    obtain ⟨d, hd1, hd2⟩ := under_spec h4
    obtain rfl := isStrT_eq hd2
    refine .value (v := .string (s.extract (l.getD 0).toNat (h.getD s.size).toNat)) (w' := w) ?_ (Step.refl old) (avr_v rfl)
    unfold execOp
    rw [ho]
    have hb := run_sliceBounds (P := P) (w := w) (isSlice := false) (BdR.mk he h2 hl) (BdR.mk he h3 hh) g1 g2 g3
    simp [(he.V h1 hx).1, Instr.sliceAt, Instr.slice, run_underlying hd1, hb]
  · cases hm
theorem ok_slc (old : RtR w home hd rt F0) (he : EvR ids w home hd rt ev a.eval) {sz : Nat} {x : Opd} {lo hi : Option Opd} (hm : mSlc ids P o.op sz x lo hi = true) {p q : SV} (hx : evS ev x = some p) {l h : Option Int}
    (hl : lo.elim (some none) (fun o => (evI ev o).map some) = some l) (hh : hi.elim (some none) (fun o => (evI ev o).map some) = some h) (hs : slice rt sz p l h = some q) : OpOk ids P o a w home hd rt (.sv q) rt := by
  unfold mSlc at hm
  split at hm
  · rename_i t x' lo' hi' ho
    simp only [Bool.and_eq_true] at hm
    obtain ⟨⟨⟨h1, h2⟩, h3⟩, h4⟩ := hm
    have hv := (he.S h1 hx).1
    have b1 := BdR.mk he h2 hl
    have b2 := BdR.mk he h3 hh
    obtain ⟨d, hd1, hd2⟩ := under_spec h4
    obtain ⟨e, ti, rfl, hti, hsz⟩ := isSliceT_spec hd2
    have fin : ∀ {v : Value}, (Instr.sliceAt t (a.eval x') (lo'.map a.eval) (hi'.map a.eval) none).run P w = .ok v w → SVR w home hd rt q v → OpOk ids P o a w home hd rt (.sv q) rt := by
      intro v hrun hR
      refine .value (v := v) (w' := w) ?_ (Step.refl old) hR
      unfold execOp
      rw [ho]
      simp only [Sem.run_bind, Option.map_none, hrun, Result.andThen_ok, Sem.run_pure]
    have himm : ∀ {c : C} {m tot : Nat}, p = .c c → c.shape = some (sz, m, tot) → 0 ≤ l.getD 0 → l.getD 0 ≤ h.getD m → h.getD m ≤ tot → q = .c (c.sub (l.getD 0).toNat ((h.getD m).toNat - (l.getD 0).toNat)) → OpOk ids P o a w home hd rt (.sv q) rt := by
      intro c m tot hp hsh g1 g2 g3 hq
      subst hp hq
      have hv' : CR w home .imm c (a.eval x') := hv
      obtain ⟨vs, hdr, _⟩ := hv'.open hsh
      obtain ⟨hpos, hmt, ad, cap, hu, htc, _, _⟩ := id hdr
      have hrun := run_sliceAt (P := P) (w := w) hd1 hti (ad := ad) (len := m) (cap := cap) b1 b2 g1 g2 (by omega)
      rw [hu] at fin hv'
      refine fin hrun ?_
      have hpart : Part (.slice ad m cap) (.slice ad m cap) sz 0 m := Part.self sz (by omega)
      have := hpart.sub (l := (l.getD 0).toNat) (n := (h.getD m).toNat - (l.getD 0).toNat) (by omega)
      rw [Nat.zero_add] at this
      rw [hsz]
      exact hv'.part hsh this (by omega)
    cases p with
    | c c =>
      cases c with
      | val v => cases hs
      | hole => cases hs
      | fl sz' es sp =>
        simp only [slice] at hs
        split at hs
        · rename_i hc
          obtain ⟨rfl, g1, g2, g3⟩ := hc
          injection hs with hs
          exact himm rfl rfl g1 g2 g3 hs.symm
        · cases hs
      | sl sz' es sp =>
        simp only [slice] at hs
        split at hs
        · rename_i hc
          obtain ⟨rfl, g1, g2, g3⟩ := hc
          injection hs with hs
          exact himm rfl rfl g1 g2 g3 hs.symm
        · cases hs
    | nil k =>
      simp only [slice] at hs
      split at hs
      · rename_i hc
        obtain ⟨g1, g2⟩ := hc
        injection hs with hs
        subst hs
        obtain ⟨hu, hk⟩ := hv
        have g3 : l.getD 0 = 0 := g2
        have g4 : h.getD ((0 : Nat) : Int) = 0 := g1
        have hrun := run_sliceAt (P := P) (w := w) hd1 hti (ad := none) (len := 0) (cap := 0) b1 b2 (by omega) (by omega) (by omega)
        rw [hu] at fin
        refine fin hrun ⟨?_, hk⟩
        rw [g3, g4]
        simp
      · cases hs
    | ref id pa off len =>
      simp only [slice] at hs
      split at hs
      · rename_i dd c' hra
        split at hs
        · rename_i sz' m tot hsh
          split at hs
          · rename_i hc
            obtain ⟨rfl, g1, g2, g3⟩ := hc
            injection hs with hs
            subst hs
            obtain ⟨tt, c, u, k1, k2, k3, k4, k5, k6⟩ := ref_open old hv hra hsh
            obtain ⟨⟨ad, cap, hu⟩, hall⟩ := hv
            obtain ⟨vs, hdr, _⟩ := k5.open hsh
            obtain ⟨_, _, ad0, cap0, hu0, htc, _, _⟩ := hdr
            have hcap : off + (h.getD len).toNat ≤ off + cap := by
              rw [hu] at k6
              obtain ⟨a1, m1, cap1, a1', e1, e2, e3, _⟩ := k6
              rw [hu0] at e1
              injection e1 with _ _ e1
              injection e3 with _ _ e3
              subst e1
              omega
            have hrun := run_sliceAt (P := P) (w := w) hd1 hti (ad := ad) (len := len) (cap := cap) b1 b2 g1 g2 (by omega)
            rw [hu] at fin hall
            refine fin hrun ⟨⟨_, _, rfl⟩, fun d1 t1 c1 j1 j2 c2 u2 j3 j4 sz2 m2 tot2 j5 => ?_⟩
            have := (hall d1 t1 c1 j1 j2 c2 u2 j3 j4 sz2 m2 tot2 j5).sub (l := (l.getD 0).toNat) (n := (h.getD len).toNat - (l.getD 0).toNat) (by omega)
            have hszz : sz2 = ti.size := by
              rw [k1] at j1
              injection j1 with j1
              injection j1 with q1 q2 q3
              subst q1 q2 q3
              rw [k3] at j3; injection j3 with j3; subst j3
              rw [hsh] at j5; injection j5 with j5; injection j5 with j5 _
              omega
            rw [← hszz]
            exact this
          · cases hs
        · cases hs
      · cases hs
    | pb id off => cases hs
    | pe id pa i off => cases hs
    | pm cs off => cases hs
  · cases hm
end
end Go.Proofs.YtecmolmlojehgaaGreat.T
