/- How the abstract executor is run by rewriting. Values of the program's types, as trees. Arguments, copied. What is valid: the reference's side. What is valid: systems, boxes, entries, catalogues. What is valid: entries, catalogues. What is valid: the program's side. What is valid: the program's systems and boxes. What is valid: the program's entries and catalogues. -/
import Derived.Test.YtecmolmlojehgaaGreatMC
import Derived.Test.YtecmolmlojehgaaGreatMB
import Derived.Laws.BitsLemmas
namespace Go.Proofs.YtecmolmlojehgaaGreat.T
open Go
section
variable {α : Type}
theorem upd_at (f : Nat → Option α) (k : Nat) (v : α) (i : Nat) : upd f k v i = if i = k then some v else f i := rfl
theorem asl_nil (i : Nat) : asl ([] : List (Nat × α)) i = none := rfl
theorem asl_cons (k : Nat) (v : α) (l : List (Nat × α)) (i : Nat) : asl ((k, v) :: l) i = if i = k then some v else asl l i := by
  simp only [asl, List.lookup_cons]
  by_cases h : i = k
  · subst h; simp
  · rw [if_neg h]
    have : (i == k) = false := by simpa using h
    rw [this]
end
/-! ### Without functions under binders -/
def pres (rt : Rts) : List Nat → Bool
  | [] => true
  | i :: l => (rt i).isSome && pres rt l
theorem pres_eq (rt : Rts) (l : List Nat) : l.all (fun i => (rt i).isSome) = pres rt l := by
  induction l with
  | nil => rfl
  | cons i l ih => simp only [List.all_cons, ih, pres]
def doneP (fr : Fr) (d : Nat) : Option (AV × Rts) → Option Fr
  | some (a, rt) => if pres rt a.ids = true then some ⟨upd fr.sl d a, rt, fr.ps⟩ else none
  | none => none
def doneU (fr : Fr) : Option (AV × Rts) → Option Fr
  | some (_, rt) => some ⟨fr.sl, rt, fr.ps⟩
  | none => none
def idsIn (sl : Nat → Option AV) : List Nat → List Nat
  | [] => []
  | s :: l =>
    match sl s with
    | some a => a.ids ++ idsIn sl l
    | none => idsIn sl l
def tidySl (rt : Rts) (sl : Nat → Option AV) : List Nat → List (Nat × AV)
  | [] => []
  | s :: l =>
    match sl s with
    | some a => (s, a.tidy rt) :: tidySl rt sl l
    | none => tidySl rt sl l
def tidyRt (rt rt0 : Rts) : List Nat → List (Nat × Root)
  | [] => []
  | i :: l =>
    match rt0 i with
    | some r =>
      match r.tidy rt with
      | some r => (i, r) :: tidyRt rt rt0 l
      | none => tidyRt rt rt0 l
    | none => tidyRt rt rt0 l
def renSl (rt : Rts) (m : List Nat) (sl : Nat → Option AV) : List Nat → List (Nat × AV)
  | [] => []
  | s :: l =>
    match sl s with
    | some a => (s, (a.tidy rt).ren m) :: renSl rt m sl l
    | none => renSl rt m sl l
def renRtF (rt : Rts) (m : List Nat) (rt0 : Rts) : List Nat → List (Nat × Root)
  | [] => []
  | i :: l =>
    match rt0 i with
    | some r =>
      match r.tidy rt with
      | some r => ((renId m i).getD 0, r.ren m) :: renRtF rt m rt0 l
      | none => renRtF rt m rt0 l
    | none => renRtF rt m rt0 l
def idsRt (rt : Rts) : List Nat → List Nat
  | [] => []
  | i :: l =>
    match rt i with
    | some r => r.ids ++ idsRt rt l
    | none => idsRt rt l
def cutL (rt : Rts) (m : List Nat) (i : Nat) : Option Root := if m.contains i = true then rt i else none
def meetsF (sl : Nat → Option AV) (rt : Rts) (ps live : List Nat) : List Nat :=
  let a := addIds ps (idsIn sl live)
  let b := addIds a (idsRt rt a)
  addIds b (idsRt rt b)
def keepF (sl : Nat → Option AV) (rt : Rts) (ps live m : List Nat) : Fr := ⟨asl (tidySl (cutL rt m) sl live), asl (tidyRt (cutL rt m) (cutL rt m) m), ps⟩
def canonF (sl : Nat → Option AV) (rt : Rts) (ps live m : List Nat) : Fr := ⟨asl (renSl (cutL rt m) m sl live), asl (renRtF (cutL rt m) m (cutL rt m) m), ps⟩
theorem idsIn_eq (sl : Nat → Option AV) (l : List Nat) : l.flatMap (fun s => match sl s with | some a => a.ids | none => []) = idsIn sl l := by
  induction l with
  | nil => rfl
  | cons s l ih =>
    simp only [List.flatMap_cons, ih, idsIn]
    cases sl s <;> rfl
theorem idsRt_eq (rt : Rts) (l : List Nat) : l.flatMap (idsOf rt) = idsRt rt l := by
  induction l with
  | nil => rfl
  | cons s l ih =>
    simp only [List.flatMap_cons, ih, idsRt, idsOf]
    cases rt s <;> rfl
theorem meets_eq (fr : Fr) (live : List Nat) : fr.meets live = meetsF fr.sl fr.rt fr.ps live := by
  unfold Fr.meets meetsF
  simp only [reach, idsRt_eq]
  rw [← idsIn_eq]
  rfl
theorem cut_eq (rt : Rts) (m : List Nat) : cut rt m = cutL rt m := by
  funext i; rfl
theorem tidySl_eq (rt : Rts) (sl : Nat → Option AV) (l : List Nat) : l.filterMap (fun s => (sl s).map (fun a => (s, a.tidy rt))) = tidySl rt sl l := by
  induction l with
  | nil => rfl
  | cons s l ih =>
    rw [List.filterMap_cons, ih]
    simp only [tidySl]
    cases sl s <;> rfl
theorem renSl_eq (rt : Rts) (m : List Nat) (sl : Nat → Option AV) (l : List Nat) : l.filterMap (fun s => (sl s).map (fun a => (s, (a.tidy rt).ren m))) = renSl rt m sl l := by
  induction l with
  | nil => rfl
  | cons s l ih =>
    rw [List.filterMap_cons, ih]
    simp only [renSl]
    cases sl s <;> rfl
theorem tidyRt_eq (rt rt0 : Rts) (l : List Nat) : l.filterMap (fun i => ((rt0 i).bind (·.tidy rt)).map (fun r => (i, r))) = tidyRt rt rt0 l := by
  induction l with
  | nil => rfl
  | cons s l ih =>
    rw [List.filterMap_cons, ih]
    simp only [tidyRt]
    cases rt0 s with
    | none => rfl
    | some r =>
      simp only [Option.bind_some]
      cases r.tidy rt <;> rfl
theorem renRt_eq (rt : Rts) (m : List Nat) (rt0 : Rts) (l : List Nat) : l.filterMap (fun i => ((rt0 i).bind (·.tidy rt)).map (fun r => ((renId m i).getD 0, r.ren m))) = renRtF rt m rt0 l := by
  induction l with
  | nil => rfl
  | cons s l ih =>
    rw [List.filterMap_cons, ih]
    simp only [renRtF]
    cases rt0 s with
    | none => rfl
    | some r =>
      simp only [Option.bind_some]
      cases r.tidy rt <;> rfl
theorem keep_mk (sl : Nat → Option AV) (rt : Rts) (ps live : List Nat) : Fr.keep ⟨sl, rt, ps⟩ live = keepF sl rt ps live (meetsF sl rt ps live) := by
  unfold Fr.keep keepF
  simp only [meets_eq, cut_eq, tidySl_eq, tidyRt_eq]
theorem canon_mk (sl : Nat → Option AV) (rt : Rts) (ps live : List Nat) : Fr.canon ⟨sl, rt, ps⟩ live = canonF sl rt ps live (meetsF sl rt ps live) := by
  unfold Fr.canon canonF
  simp only [meets_eq, cut_eq, renSl_eq, renRt_eq]

/-! ### Regions with what follows -/
/-- The rest of a region, and what follows. -/
inductive Rest where
  | mk (keep : List Nat) (K : Kont) (l : List POp)
inductive RestD where
  | mk (keep : List Nat) (K : Kont) (l : List (Nat × POp))
def goOps (call : Call) (keep : List Nat) (K : Kont) : List POp → Fr → Option Res
  | [], fr => K .normal (fr.keep keep)
  | p :: l, fr =>
    match fr.step call p with
    | some fr => goOps call keep K l fr
    | none => none
def goDops (call : Call) (keep : List Nat) (K : Kont) : List (Nat × POp) → Fr → Option Res
  | [], fr => K .normal (fr.keep keep)
  | p :: l, fr =>
    match fr.stepD call p.2 with
    | some fr => goDops call keep K l fr
    | none => none
def opsK (call : Call) (r : Rest) (fr : Fr) : Option Res :=
  match r with
  | .mk keep K l => goOps call keep K l fr
def dopsK (call : Call) (r : RestD) (fr : Fr) : Option Res :=
  match r with
  | .mk keep K l => goDops call keep K l fr
def thenP (call : Call) (r : Rest) : Option Fr → Option Res
  | some fr => opsK call r fr
  | none => none
def thenD (call : Call) (r : RestD) : Option Fr → Option Res
  | some fr => dopsK call r fr
  | none => none
theorem opsK_nil (call : Call) (keep : List Nat) (K : Kont) (fr : Fr) : opsK call (.mk keep K []) fr = K .normal (fr.keep keep) := rfl
theorem opsK_cons (call : Call) (keep : List Nat) (K : Kont) (p : POp) (l : List POp) (fr : Fr) : opsK call (.mk keep K (p :: l)) fr = thenP call (.mk keep K l) (fr.step call p) := by
  simp only [opsK, goOps]
  cases fr.step call p <;> rfl
theorem dopsK_nil (call : Call) (keep : List Nat) (K : Kont) (fr : Fr) : dopsK call (.mk keep K []) fr = K .normal (fr.keep keep) := rfl
theorem dopsK_cons (call : Call) (keep : List Nat) (K : Kont) (i : Nat) (p : POp) (l : List (Nat × POp)) (fr : Fr) : dopsK call (.mk keep K ((i, p) :: l)) fr = thenD call (.mk keep K l) (fr.stepD call p) := by
  simp only [dopsK, goDops]
  cases fr.stepD call p <;> rfl
theorem thenP_some (call : Call) (r : Rest) (fr : Fr) : thenP call r (some fr) = opsK call r fr := rfl
theorem thenP_none (call : Call) (r : Rest) : thenP call r none = none := rfl
theorem thenD_some (call : Call) (r : RestD) (fr : Fr) : thenD call r (some fr) = dopsK call r fr := rfl
theorem thenD_none (call : Call) (r : RestD) : thenD call r none = none := rfl
theorem thenP_ite (call : Call) (r : Rest) {c : Prop} [Decidable c] (p q : Option Fr) : thenP call r (if c then p else q) = if c then thenP call r p else thenP call r q := by split <;> rfl
theorem thenD_ite (call : Call) (r : RestD) {c : Prop} [Decidable c] (p q : Option Fr) : thenD call r (if c then p else q) = if c then thenD call r p else thenD call r q := by split <;> rfl
section
variable {call : Call} {n : Nat}
theorem K_ops (l : List POp) (keep : List Nat) (K : Kont) (fr : Fr) : runK call n (.ops l keep) K fr = opsK call (.mk keep K l) fr := by
  simp only [runK, opsK]
  induction l generalizing fr with
  | nil => rfl
  | cons p l ih =>
    simp only [Fr.steps, goOps]
    cases h : fr.step call p with
    | none => rfl
    | some fr1 => exact ih fr1
theorem K_dops (l : List (Nat × POp)) (keep : List Nat) (K : Kont) (fr : Fr) : runK call n (.dops l keep) K fr = dopsK call (.mk keep K l) fr := by
  simp only [runK, dopsK]
  induction l generalizing fr with
  | nil => rfl
  | cons p l ih =>
    simp only [Fr.stepsD, goDops]
    cases h : fr.stepD call p.2 with
    | none => rfl
    | some fr1 => exact ih fr1
theorem K_seq (a b : PC) (K : Kont) (fr : Fr) : runK call n (.seq a b) K fr = runK call n a (kSeq (runK call n b K) K) fr := rfl
theorem K_block (id : Nat) (c : PC) (K : Kont) (fr : Fr) : runK call n (.block id c) K fr = runK call n c (kBlock id K) fr := rfl
theorem K_exit (id : Nat) (K : Kont) (fr : Fr) : runK call n (.exit id) K fr = K (.exit id) fr := rfl
theorem K_ret (K : Kont) (fr : Fr) : runK call n .ret K fr = K .ret fr := rfl
theorem K_skip (K : Kont) (fr : Fr) : runK call n .skip K fr = K .normal fr := rfl
def condK (a b : Option Res) : Option Value → Option Res
  | some (.bool t) => if t = true then a else b
  | _ => none
theorem K_cond (c : Opd) (a b : PC) (K : Kont) (fr : Fr) : runK call n (.cond c a b) K fr = condK (runK call n a K fr) (runK call n b K fr) (evV fr.ev c) := by
  simp only [runK]
  cases evV fr.ev c with
  | none => rfl
  | some v => cases v <;> rfl
theorem step_o (fr : Fr) (d : Nat) (p : PO) : fr.step call (o d p) = doneP fr d (act call fr.ev fr.tup fr.rt d p) := by
  show fr.exec call (o d p) = _
  unfold Fr.exec
  simp only [o, mask, merge, Option.getD_some, Hide.hid, Bool.not_false, Bool.and_true]
  cases act call fr.ev fr.tup fr.rt d p with
  | none => rfl
  | some x =>
    obtain ⟨a, rt⟩ := x
    simp only [doneP, pres_eq]
    rfl
theorem act_undef {ev : Ev} {tp : Nat → Option (List A1)} {rt : Rts} {m : Nat} {a y : Opd} {d : Nat} {av : AV} {rt1 : Rts} (h : act call ev tp rt d (.st m a y) = some (av, rt1)) : av = .undef := by
  simp only [act] at h
  split at h
  · split at h
    · rw [Option.map_eq_some_iff] at h
      obtain ⟨_, _, h⟩ := h
      injection h with h
      exact h.symm
    · cases h
  · cases h
theorem step_u (fr : Fr) (m : Nat) (a y : Opd) : fr.step call (u (.st m a y)) = doneU fr (act call fr.ev fr.tup fr.rt 0 (.st m a y)) := by
  show fr.exec call (u (.st m a y)) = _
  unfold Fr.exec
  simp only [u, mask, merge, Option.getD_none, Hide.hid, Bool.not_false, Bool.and_true]
  cases h : act call fr.ev fr.tup fr.rt 0 (.st m a y) with
  | none => rfl
  | some x =>
    obtain ⟨av, rt⟩ := x
    have := act_undef h
    subst this
    rfl
def guardP (go skip : Option Fr) (want : Bool) : Option AV → Option Fr
  | some (.v (.s (.c (.val (.bool b))))) => if b = want then go else skip
  | some .undef => skip
  | _ => none
theorem step_g (fr : Fr) (d : Nat) (p : PO) (s : Nat) (w : Bool) : fr.step call ⟨some d, some (s, w), .no, .no, [], [], p⟩ = guardP (doneP fr d (act call fr.ev fr.tup fr.rt d p)) (some ⟨upd fr.sl d .undef, fr.rt, fr.ps⟩) w (fr.sl s) := by
  have h := step_o (call := call) fr d p
  have e : fr.exec call ⟨some d, some (s, w), .no, .no, [], [], p⟩ = fr.step call (o d p) := rfl
  unfold Fr.step
  simp only [e, h]
  cases fr.sl s with
  | none => rfl
  | some a =>
    cases a with
    | undef => rfl
    | tup as => rfl
    | v a =>
      cases a with
      | agg _ => rfl
      | fn _ _ => rfl
      | s x =>
        cases x with
        | c c =>
          cases c with
          | val v => cases v <;> rfl
          | _ => rfl
        | _ => rfl
/-- Slots that may be seen. -/
def seeS (b : List Nat) (sl : Nat → Option AV) (t : Nat) : Option AV := if b.contains t = true then none else sl t
def evS1 (sl : Nat → Option AV) : Opd → Option A1
  | .t n =>
    match sl n with
    | some (.v a) => some a
    | _ => none
  | .k a => some a
theorem ev_mk (sl : Nat → Option AV) (rt : Rts) (ps : List Nat) : Fr.ev ⟨sl, rt, ps⟩ = evS1 sl := by
  funext x; cases x <;> rfl
def tpS (sl : Nat → Option AV) (t : Nat) : Option (List A1) :=
  match sl t with
  | some (.tup as) => some as
  | _ => none
theorem tup_mk (sl : Nat → Option AV) (rt : Rts) (ps : List Nat) : Fr.tup ⟨sl, rt, ps⟩ = tpS sl := by
  funext x; rfl
theorem see_sl (fr : Fr) (b : List Nat) : (fr.see b).sl = seeS b fr.sl := by
  funext t; rfl
def doneQ (fr : Fr) (d : Nat) : Option (AV × Rts) → Option Fr
  | some (a, _) => if pres fr.rt a.ids = true then some ⟨upd fr.sl d a, fr.rt, fr.ps⟩ else none
  | none => none
/-- Quiet operations of drawn regions. -/
theorem stepD_q (fr : Fr) (d : Nat) (p : PO) (h m : Hide) (anc bl : List Nat) (hq : p.quiet = true) : fr.stepD call ⟨some d, none, h, m, anc, bl, p⟩ = doneQ fr d (act call (evS1 (seeS bl fr.sl)) (tpS (seeS bl fr.sl)) (mask h fr.rt) d p) := by
  show fr.execD call ⟨some d, none, h, m, anc, bl, p⟩ = _
  unfold Fr.execD
  rw [if_pos hq]
  have e1 : (fr.see bl).ev = evS1 (seeS bl fr.sl) := by rw [← see_sl]; exact ev_mk _ _ _
  have e2 : (fr.see bl).tup = tpS (seeS bl fr.sl) := by rw [← see_sl]; exact tup_mk _ _ _
  simp only [e1, e2, Option.getD_some]
  cases act call (evS1 (seeS bl fr.sl)) (tpS (seeS bl fr.sl)) (mask h fr.rt) d p with
  | none => rfl
  | some x =>
    obtain ⟨a, rt⟩ := x
    simp only [doneQ, pres_eq]
    rfl
def hidAll (h : Hide) : List Nat → Bool
  | [] => true
  | i :: l => h.hid i && hidAll h l
theorem hidAll_eq (h : Hide) (l : List Nat) : l.all (fun i => h.hid i) = hidAll h l := by
  induction l with
  | nil => rfl
  | cons i l ih => simp only [List.all_cons, ih, hidAll]
theorem hidAll_all (l : List Nat) : hidAll .all l = true := by
  induction l with
  | nil => rfl
  | cons i l ih => simp only [hidAll, ih]; rfl
/-- Loud ones. -/
theorem stepD_l (fr : Fr) (d : Nat) (p : PO) (h m : Hide) (anc bl : List Nat) (hq : p.quiet = false) : fr.stepD call ⟨some d, none, h, m, anc, bl, p⟩ = if hidAll m (touch (evS1 (seeS bl fr.sl)) p) = true then doneP fr d (act call (evS1 (seeS bl fr.sl)) (tpS (seeS bl fr.sl)) fr.rt d p) else none := by
  show fr.execD call ⟨some d, none, h, m, anc, bl, p⟩ = _
  unfold Fr.execD
  simp only [hq, Bool.false_eq_true, if_false]
  have e1 : (fr.see bl).ev = evS1 (seeS bl fr.sl) := by rw [← see_sl]; exact ev_mk _ _ _
  have e2 : (fr.see bl).tup = tpS (seeS bl fr.sl) := by rw [← see_sl]; exact tup_mk _ _ _
  simp only [e1, e2, Option.getD_some, hidAll_eq]
  split
  · cases act call (evS1 (seeS bl fr.sl)) (tpS (seeS bl fr.sl)) fr.rt d p with
    | none => rfl
    | some x =>
      obtain ⟨a, rt⟩ := x
      simp only [doneP, pres_eq]
      rfl
  · rfl
theorem stepD_mk (fr : Fr) (d : Nat) (p : PO) (h m : Hide) (anc bl : List Nat) : fr.stepD call ⟨some d, none, h, m, anc, bl, p⟩ =
    if p.quiet = true then doneQ fr d (act call (evS1 (seeS bl fr.sl)) (tpS (seeS bl fr.sl)) (mask h fr.rt) d p)
    else if hidAll m (touch (evS1 (seeS bl fr.sl)) p) = true then doneP fr d (act call (evS1 (seeS bl fr.sl)) (tpS (seeS bl fr.sl)) fr.rt d p) else none := by
  cases hq : p.quiet with
  | true => rw [if_pos rfl, stepD_q _ _ _ _ _ _ _ hq]
  | false => rw [if_neg (by simp), stepD_l _ _ _ _ _ _ _ hq]
def guardD (go skip : Option Fr) (want : Bool) : Option AV → Option Fr
  | some (.v (.s (.c (.val (.bool b))))) => if b = want then go else skip
  | some .undef => skip
  | _ => none
theorem stepD_g (fr : Fr) (d : Nat) (p : PO) (s : Nat) (w : Bool) (h m : Hide) (anc bl : List Nat) : fr.stepD call ⟨some d, some (s, w), h, m, anc, bl, p⟩ = guardP (fr.stepD call ⟨some d, none, h, m, anc, bl, p⟩) (some ⟨upd fr.sl d .undef, fr.rt, fr.ps⟩) w (seeS bl fr.sl s) := by
  have e : fr.execD call ⟨some d, some (s, w), h, m, anc, bl, p⟩ = fr.stepD call ⟨some d, none, h, m, anc, bl, p⟩ := rfl
  unfold Fr.stepD
  simp only [e, see_sl]
  cases seeS bl fr.sl s with
  | none => rfl
  | some a =>
    cases a with
    | undef => rfl
    | tup as => rfl
    | v a =>
      cases a with
      | agg _ => rfl
      | fn _ _ => rfl
      | s x =>
        cases x with
        | c c =>
          cases c with
          | val v => cases v <;> rfl
          | _ => rfl
        | _ => rfl
theorem stepD_u (fr : Fr) (x : Nat) (a y : Opd) (h m : Hide) (anc bl : List Nat) : fr.stepD call ⟨none, none, h, m, anc, bl, .st x a y⟩ = if hidAll m (touch (evS1 (seeS bl fr.sl)) (.st x a y)) = true then doneU fr (act call (evS1 (seeS bl fr.sl)) (tpS (seeS bl fr.sl)) fr.rt 0 (.st x a y)) else none := by
  show fr.execD call ⟨none, none, h, m, anc, bl, .st x a y⟩ = _
  unfold Fr.execD
  simp only [PO.quiet, Bool.false_eq_true, if_false]
  have e1 : (fr.see bl).ev = evS1 (seeS bl fr.sl) := by rw [← see_sl]; exact ev_mk _ _ _
  have e2 : (fr.see bl).tup = tpS (seeS bl fr.sl) := by rw [← see_sl]; exact tup_mk _ _ _
  simp only [e1, e2, Option.getD_none, hidAll_eq]
  split
  · cases hact : act call (evS1 (seeS bl fr.sl)) (tpS (seeS bl fr.sl)) fr.rt 0 (.st x a y) with
    | none => rfl
    | some z =>
      obtain ⟨av, rt⟩ := z
      have := act_undef hact
      subst this
      rfl
  · rfl

/-! ### Loops -/
theorem K_start {live : List Nat} {c : PC} {K : Kont} {fr fr' : Fr} (h : fr.canon live = fr'.canon live) : runK call n (.loop live c) K fr = runK call n (.loop live c) K fr' := by
  show iterK _ K n fr = iterK _ K n fr'
  cases n with
  | zero => rfl
  | succ n => simp only [iterK, h]
theorem K_loop {σ : Type} (F : σ → Fr) (G : σ → Option Res) (m : σ → Nat) (I : σ → Prop) {live : List Nat} {c : PC} {K : Kont}
    (h : ∀ s, I s → ∀ k : Fr → Option Res, (∀ s', I s' → m s' < m s → k (F s') = G s') → runK call n c (kSeq k K) ((F s).canon live) = G s) :
    ∀ s, I s → m s < n → runK call n (.loop live c) K (F s) = G s := by
  have key : ∀ (j : Nat) (s : σ), I s → m s < j → iterK (fun K fr => runK call n c K (fr.canon live)) K j (F s) = G s := by
    intro j
    induction j with
    | zero => intro s _ h; omega
    | succ j ih =>
      intro s hs hj
      exact h s hs _ (fun s' hs' hlt => ih s' hs' (by omega))
  exact fun s hs hn => key n s hs hn
/-- A loop that counts. -/
theorem K_for (F : Nat → Fr) (lo hi : Nat) {live : List Nat} {c : PC} {K : Kont} {R : Option Res} (hle : lo ≤ hi) (hf : hi - lo < n)
    (hbody : ∀ i, lo ≤ i → i < hi → ∀ K, runK call n c K ((F i).canon live) = K .normal (F (i + 1)))
    (hend : ∀ k, runK call n c (kSeq k K) ((F hi).canon live) = R) : runK call n (.loop live c) K (F lo) = R := by
  refine K_loop F (fun _ => R) (fun i => hi - i) (fun i => lo ≤ i ∧ i ≤ hi) ?_ lo ⟨Nat.le_refl _, hle⟩ hf
  intro i ⟨h1, h2⟩ k hk
  by_cases h : i < hi
  · rw [hbody i h1 h]
    exact hk (i + 1) ⟨by omega, by omega⟩ (by omega)
  · have : i = hi := by omega
    subst this
    exact hend k
/-- The same, where what is owned gets another number on the way. -/
theorem K_for2 (F F' : Nat → Fr) (lo hi : Nat) {live : List Nat} {c : PC} {K : Kont} {R : Option Res} (hle : lo ≤ hi) (hf : hi - lo < n)
    (hcan : ∀ i, lo < i → i ≤ hi → (F' i).canon live = (F i).canon live)
    (hbody : ∀ i, lo ≤ i → i < hi → ∀ K, runK call n c K ((F i).canon live) = K .normal (F' (i + 1)))
    (hend : ∀ k, runK call n c (kSeq k K) ((F hi).canon live) = R) : runK call n (.loop live c) K (F lo) = R := by
  refine K_loop (fun s : Bool × Nat => if s.1 then F' s.2 else F s.2) (fun _ => R) (fun s => hi - s.2) (fun s => lo ≤ s.2 ∧ s.2 ≤ hi ∧ (s.1 = true → lo < s.2)) ?_ (false, lo) ⟨Nat.le_refl _, hle, fun h => by cases h⟩ hf
  rintro ⟨b, i⟩ ⟨h1, h2, h3⟩ k hk
  have hc : (if b then F' i else F i).canon live = (F i).canon live := by
    cases b with
    | false => rfl
    | true => exact hcan i (h3 rfl) h2
  show runK call n c (kSeq k K) ((if b then F' i else F i).canon live) = R
  rw [hc]
  simp only at h1 h2
  by_cases h : i < hi
  · rw [hbody i h1 h]
    exact hk (true, i + 1) ⟨by simp; omega, by simp; omega, fun _ => by simp; omega⟩ (by simp; omega)
  · have : i = hi := by omega
    subst this
    exact hend k
end
section
variable (k : Fr → Option Res) (K : Kont) (fr : Fr) (d : Nat) (a : AV) (rt : Rts) (x y : Option Res) (b w : Bool) (go skip : Option Fr) (i id : Nat)
theorem doneP_some : doneP fr d (some (a, rt)) = if pres rt a.ids = true then some ⟨upd fr.sl d a, rt, fr.ps⟩ else none := rfl
theorem doneU_some : doneU fr (some (a, rt)) = some ⟨fr.sl, rt, fr.ps⟩ := rfl
theorem doneQ_some : doneQ fr d (some (a, rt)) = if pres fr.rt a.ids = true then some ⟨upd fr.sl d a, fr.rt, fr.ps⟩ else none := rfl
theorem guardP_b : guardP go skip w (some (.v (.s (.c (.val (.bool b)))))) = if b = w then go else skip := rfl
theorem guardP_u : guardP go skip w (some .undef) = skip := rfl
theorem condK_b : condK x y (some (.bool b)) = if b = true then x else y := rfl
theorem kSeq_n : kSeq k K .normal fr = k fr := rfl
theorem kSeq_e : kSeq k K (.exit i) fr = K (.exit i) fr := rfl
theorem kSeq_r : kSeq k K .ret fr = K .ret fr := rfl
theorem kBlock_n : kBlock id K .normal fr = K .normal fr := rfl
theorem kBlock_e : kBlock id K (.exit i) fr = if i = id then K .normal fr else K (.exit i) fr := rfl
theorem kBlock_r : kBlock id K .ret fr = K .ret fr := rfl
end
theorem q_mv (x : Opd) : (PO.mv x).quiet = true := rfl
theorem q_mvt (x : Nat) : (PO.mvt x).quiet = true := rfl
theorem q_pick (x y z : Opd) : (PO.pick x y z).quiet = true := rfl
theorem q_build (z : List SV) (p : List (Nat × Nat × Opd)) : (PO.build z p).quiet = true := rfl
theorem q_ld (g : Bool) (n : Nat) (x : Opd) : (PO.ld g n x).quiet = true := rfl
theorem q_nchk (x : Opd) : (PO.nchk x).quiet = true := rfl
theorem q_bin (p : BinOp) (x y : Opd) : (PO.bin p x y).quiet = true := rfl
theorem q_eqb (g : Bool) (x y : Opd) : (PO.eqb g x y).quiet = true := rfl
theorem q_eqs (g : Bool) (ks : List Nat) (x y : Opd) : (PO.eqs g ks x y).quiet = true := rfl
theorem q_un (p : UnOp) (x : Opd) : (PO.un p x).quiet = true := rfl
theorem q_conv (p : IntKind) (x : Opd) : (PO.conv p x).quiet = true := rfl
theorem q_b2s (x : Opd) : (PO.b2s x).quiet = true := rfl
theorem q_fa (n : Nat) (x : Opd) : (PO.fa n x).quiet = true := rfl
theorem q_ia (n : Nat) (x y : Opd) : (PO.ia n x y).quiet = true := rfl
theorem q_iap (m n : Nat) (x y : Opd) : (PO.iap m n x y).quiet = true := rfl
theorem q_ixs (x y : Opd) : (PO.ixs x y).quiet = true := rfl
theorem q_ixa (g : Bool) (m n : Nat) (x y : Opd) : (PO.ixa g m n x y).quiet = true := rfl
theorem q_fld (g : Bool) (m n : Nat) (x : Opd) : (PO.fld g m n x).quiet = true := rfl
theorem q_slc (n : Nat) (x : Opd) (l h : Option Opd) : (PO.slc n x l h).quiet = true := rfl
theorem q_slcs (x : Opd) (l h : Option Opd) : (PO.slcs x l h).quiet = true := rfl
theorem q_ext (m n : Nat) : (PO.ext m n).quiet = true := rfl
theorem q_len (g : Bool) (x : Opd) : (PO.len g x).quiet = true := rfl
theorem q_mm (g : Bool) (x : List Opd) : (PO.mm g x).quiet = true := rfl
theorem q_mkf (n : Nat) (x : List Opd) : (PO.mkf n x).quiet = true := rfl
theorem q_mkn (k : K) : (PO.mkn k).quiet = false := rfl
theorem q_box (x : Opd) : (PO.box x).quiet = false := rfl
theorem q_alloc (z : List SV) : (PO.alloc z).quiet = false := rfl
theorem q_bs (k : K) (x : List Opd) : (PO.bs k x).quiet = false := rfl
theorem q_st (n : Nat) (x y : Opd) : (PO.st n x y).quiet = false := rfl
theorem q_app (k : K) (n : Nat) (x y : Opd) : (PO.app k n x y).quiet = false := rfl
theorem q_call (n : Nat) (q : List (Bool × Opd)) : (PO.call n q).quiet = false := rfl
theorem q_mks (k : K) (n : Nat) (z : List C) (x y : Opd) : (PO.mks k n z x y).quiet = false := rfl
attribute [simp] upd_at asl_nil asl_cons pres idsIn tidySl tidyRt renSl renRtF idsRt cutL meetsF keepF canonF keep_mk canon_mk opsK_nil opsK_cons dopsK_nil dopsK_cons K_ops K_dops K_seq K_block K_exit K_ret K_skip K_cond step_o step_u step_g seeS evS1 ev_mk tpS tup_mk stepD_mk stepD_g stepD_u hidAll hidAll_all
  thenP_some thenP_none thenD_some thenD_none doneP_some doneU_some doneQ_some guardP_b guardP_u condK_b kSeq_n kSeq_e kSeq_r kBlock_n kBlock_e kBlock_r thenP_ite thenD_ite
  q_mv q_mvt q_pick q_build q_ld q_nchk q_bin q_eqb q_eqs q_un q_conv q_b2s q_fa q_ia q_iap q_ixs q_ixa q_fld q_slc q_slcs q_ext q_len q_mm q_mkf q_mkn q_box q_alloc q_bs q_st q_app q_call q_mks
  evS evV evI evC A1.cells act mask merge Hide.hid touch idsS idsC SV.ids A1.ids AV.ids Root.ids mapO addIds renId SV.tidy A1.tidy AV.tidy Root.tidy SV.ren A1.ren AV.ren Root.ren initFr initSl initRt initArg finish resAt takesR take1 take Root.fin
  binS unS eqCell cont C.shape C.flat C.get C.elem C.sub C.all C.isVal C.isSlice rowAt K.empty K.sz load seg mkAgg index slice cellSV cellSVs C.set C.setElem setSeg store takes okDeep vals fillC bsEs takesL append takeSl source cellsRes mmS eqCells SV.isVal SV.lenOf SV.addOff newRt nid SV.isPtr
  argOf srcIds callR callvR flatQ SV.isRef initFrG numA snap1 snap snapC valsRes valRes cellRes retAV RV.n RC.free RV.free mfree back apartB argHas
end Go.Proofs.YtecmolmlojehgaaGreat.T
namespace Go.Proofs.YtecmolmlojehgaaGreat.T
open Go
abbrev int (n : Int) : Value := .int .i64 n
/-- A list with what lies behind it. -/
structure Row (α : Type) where
  es : List α
  sp : List α
  ok : es.length + sp.length ≤ 9223372036854775807
abbrev arg (c : C) : Arg := .imm (.s (.c c))
abbrev argV (v : Value) : Arg := .imm (.s (.c (.val v)))
abbrev argI (n : Int) : Arg := argV (int n)
abbrev argA (cs : List C) : Arg := .imm (.agg (cs.map .c))
abbrev resV (v : Value) : Res := ⟨[.s (.mk .imm (.val v))], []⟩
abbrev resB (b : Bool) : Res := resV (.bool b)
abbrev resI (n : Int) : Res := resV (int n)
abbrev eI (n : Int) : List Value := [int n]
abbrev Ints := Row Int
abbrev cI (a : Ints) : C := .fl 1 (a.es.map eI) (a.sp.map eI)
structure TermV where
  c : Int
  x : Int
  y : Int
  z : Int
  deriving DecidableEq
abbrev eT (t : TermV) : List Value := [int t.c, int t.x, int t.y, int t.z]
abbrev Poly := Row TermV
abbrev cP (a : Poly) : C := .fl 4 (a.es.map eT) (a.sp.map eT)
abbrev Sys := Row Poly
abbrev eP (p : Poly) : List C := [cP p]
abbrev cS (s : Sys) : C := .sl 1 (s.es.map eP) (s.sp.map eP)
structure BoxV where
  k : Int
  low : Ints
  high : Ints
abbrev eB (b : BoxV) : List C := [.val (int b.k), cI b.low, cI b.high]
abbrev sT (t : TermV) : List SV := [.c (.val (int t.c)), .c (.val (int t.x)), .c (.val (int t.y)), .c (.val (int t.z))]
abbrev argT (t : TermV) : Arg := .imm (.agg (sT t))
abbrev sB (b : BoxV) : List SV := [.c (.val (int b.k)), .c (cI b.low), .c (cI b.high)]
abbrev argB (b : BoxV) : Arg := .imm (.agg (sB b))
structure EntryV where
  name : ByteArray
  nok : name.size ≤ 9223372036854775807
  system : Sys
  box : BoxV
  least : Int
  most : Int
  version : Int
abbrev eE (e : EntryV) : List C := [.val (.string e.name), cS e.system, .val (int e.box.k), cI e.box.low, cI e.box.high, .val (int e.least), .val (int e.most), .val (int e.version)]
abbrev sE (e : EntryV) : List SV := [.c (.val (.string e.name)), .c (cS e.system), .c (.val (int e.box.k)), .c (cI e.box.low), .c (cI e.box.high), .c (.val (int e.least)), .c (.val (int e.most)), .c (.val (int e.version))]
abbrev argE (e : EntryV) : Arg := .imm (.agg (sE e))
abbrev Entries := Row EntryV
abbrev cE (l : Entries) : C := .sl 8 (l.es.map eE) (l.sp.map eE)
/-! What is said of a value by what can be read of it. -/
structure PBox where
  k : Int
  low : List Int
  high : List Int
  deriving DecidableEq
structure PEntry where
  name : List UInt8
  system : List (List TermV)
  box : PBox
  least : Int
  most : Int
  version : Int
  deriving DecidableEq
def Row.v {α β : Type} (f : α → β) (a : Row α) : List β := a.es.map f
def pS (s : Sys) : List (List TermV) := s.es.map (·.es)
def pB (b : BoxV) : PBox := ⟨b.k, b.low.es, b.high.es⟩
def pE (e : EntryV) : PEntry := ⟨e.name.toList, pS e.system, pB e.box, e.least, e.most, e.version⟩
def pL (l : Entries) : List PEntry := l.es.map pE

abbrev kRes (rs : List PR) : Kont := kFin ⟨0, 0, .skip, rs⟩
theorem kRes_eq (pf : PFunc) : kFin pf = kRes pf.results := by
  funext e fr; cases e <;> rfl
theorem kFin_n (pf : PFunc) (fr : Fr) : kFin pf .normal fr = finish pf fr := rfl
theorem kFin_r (pf : PFunc) (fr : Fr) : kFin pf .ret fr = finish pf fr := rfl
theorem L_body {pp : PP} {f np nt : Nat} {b : PC} {rs : List PR} {args : List Arg} {r : Res} (hc : pp.code f = some ⟨np, nt, b, rs⟩) (hl : args.length = np) (N : Nat) (h : ∀ n, N < n → runK (L pp) n b (kRes rs) (initFr args) = some r) (hs : (shapeOf f).isEmpty = true := by rfl) : L pp f args = some r :=
  L_run hc hl (N + 1) (by rw [kRes_eq]; exact h (N + 1) (Nat.lt_succ_self N)) hs
theorem L_bodyG {pp : PP} {f np nt : Nat} {b : PC} {rs : List PR} {args : List Arg} {as : List A1} {r : Res} (hc : pp.code f = some ⟨np, nt, b, rs⟩) (hs : (shapeOf f).isEmpty = false) (hg : grpA (shapeOf f) (initA 0 args) = some as) (hl : as.length = np) (N : Nat) (h : ∀ n, N < n → runK (L pp) n b (kRes rs) (initFrG args as) = some r) : L pp f args = some r :=
  L_runG hc hs hg hl (N + 1) (by rw [kRes_eq]; exact h (N + 1) (Nat.lt_succ_self N))
/-- The program with what is proved by hand. -/
def prog (hand : Call) : PP := { code := tab, hand }
theorem drop_cons {α : Type} {l : List α} {i : Nat} (h : i < l.length) : l.drop i = l[i] :: l.drop (i + 1) := List.drop_eq_getElem_cons h
theorem drop_end {α : Type} {l : List α} {i : Nat} (h : ¬ i < l.length) : l.drop i = [] := List.drop_eq_nil_of_le (by omega)
theorem wrap64 {n : Int} (h1 : -9223372036854775808 ≤ n) (h2 : n < 9223372036854775808) : IntKind.i64.wrap n = n := by
  rw [IntKind.wrap_i64]; omega
theorem wrap_suc {i : Nat} (h : i < 9223372036854775807) : IntKind.i64.wrap ((i : Int) + 1) = (i : Int) + 1 := wrap64 (by omega) (by omega)
theorem wrap_succ {i : Nat} (h : i < 9223372036854775807) : IntKind.i64.wrap ((i : Int) + 1) = ((i + 1 : Nat) : Int) := by
  rw [wrap64 (by omega) (by omega)]; rfl
attribute [simp] kFin_n kFin_r Int.natCast_inj Int.ofNat_lt Int.ofNat_le
end Go.Proofs.YtecmolmlojehgaaGreat.T
namespace Go.Proofs.YtecmolmlojehgaaGreat.T
open Go
variable {hand : Call}
set_option maxHeartbeats 2000000
attribute [-simp] List.getElem_cons_drop List.map_drop
def room (n : Nat) : Nat := if n % 6 = 5 then 0 else if n % 3 = 0 then 1 else n
theorem room_le (n : Nat) : room n ≤ n + 1 := by unfold room; repeat' split
                                                 all_goals omega
theorem L_roomBehind (n : Nat) : L (prog hand) n_laws_roomBehind [argI n] = some (resI (room n)) := by
  refine L_body (b := b_laws_roomBehind) rfl rfl 0 ?_
  intro fuel hfuel
  have h6 : ((n : Int).tmod 6) = (n : Int) % 6 := Int.tmod_eq_emod_of_nonneg (by omega)
  have h3 : ((n : Int).tmod 3) = (n : Int) % 3 := Int.tmod_eq_emod_of_nonneg (by omega)
  have e6 : ((n : Int) % 6 = 5) = (n % 6 = 5) := by rw [eq_iff_iff]; omega
  have e3 : ((n : Int) % 3 = 0) = (n % 3 = 0) := by rw [eq_iff_iff]; omega
  by_cases h1 : n % 6 = 5
  · have : room n = 0 := by simp [room, h1]
    rw [this]
    simp [b_laws_roomBehind, h6, h3, e6, e3, h1]
  · by_cases h2 : n % 3 = 0
    · have : room n = 1 := by simp [room, h1, h2]
      rw [this]
      simp [b_laws_roomBehind, h6, h3, e6, e3, h1, h2]
    · have : room n = n := by simp [room, h1, h2]
      rw [this]
      simp [b_laws_roomBehind, h6, h3, e6, e3, h1, h2]
abbrev rT (t : TermV) : RV := .agg [.mk .imm (.val (int t.c)), .mk .imm (.val (int t.x)), .mk .imm (.val (int t.y)), .mk .imm (.val (int t.z))]
theorem L_toTerm (t : TermV) : L (prog hand) n_laws_toTerm [argT t] = some ⟨[rT t], []⟩ := by
  refine L_body (b := b_laws_toTerm) rfl rfl 0 ?_
  intro fuel hfuel
  simp [b_laws_toTerm]
def one {α : Type} (x : α) : Row α := ⟨[x], [], by simp⟩
theorem one_es {α : Type} (x : α) : (one x).es = [x] := rfl
theorem one_sp {α : Type} (x : α) : (one x).sp = [] := rfl
abbrev fillI : Int := -7000000000000000101
def fillT : TermV := ⟨fillI, fillI, fillI, fillI⟩
theorem L_fillerTerm : L (prog hand) n_laws_fillerTerm [] = some ⟨[rT fillT], []⟩ := by
  refine L_body (b := b_laws_fillerTerm) rfl rfl 0 ?_
  intro fuel hfuel
  simp [b_laws_fillerTerm, fillT]
/-! ### Rows that are filled -/
/-- A row of which the first places are filled. -/
def fillRow {α : Type} (X : List α) (z : α) (i : Nat) : List α := X.take i ++ List.replicate (X.length - i) z
section
variable {α : Type} {X : List α} {z : α} {i : Nat}
theorem fillRow_length : (fillRow X z i).length = X.length := by simp [fillRow]; omega
theorem fillRow_zero : List.replicate X.length z = fillRow X z 0 := by simp [fillRow]
theorem fillRow_all : fillRow X z X.length = X := by simp [fillRow]
theorem fillRow_get (h : i < X.length) : (fillRow X z i)[i]? = some z := by
  unfold fillRow
  rw [List.getElem?_append_right (by simp; omega), List.length_take, Nat.min_eq_left (by omega), Nat.sub_self, List.getElem?_replicate, if_pos (by omega)]
theorem fillRow_at (h : i < (fillRow X z i).length) : (fillRow X z i)[i] = z := by
  have h2 := fillRow_get (X := X) (z := z) (by rw [fillRow_length] at h; exact h)
  rw [List.getElem?_eq_getElem h] at h2
  exact Option.some.inj h2
theorem fillRow_set {v : α} (h : X[i]? = some v) : (fillRow X z i).set i v = fillRow X z (i + 1) := by
  obtain ⟨hlt, hv⟩ := List.getElem?_eq_some_iff.1 h
  unfold fillRow
  apply List.ext_getElem?
  intro j
  rw [List.getElem?_set]
  by_cases e : i = j
  · subst e
    rw [if_pos rfl, if_pos (by simp; omega)]
    rw [List.getElem?_append_left (by simp; omega), List.getElem?_take_of_lt (by omega), h]
  · rw [if_neg e]
    by_cases hj : j < i
    · rw [List.getElem?_append_left (by simp; omega), List.getElem?_append_left (by simp; omega), List.getElem?_take_of_lt hj, List.getElem?_take_of_lt (by omega)]
    · rw [List.getElem?_append_right (by simp; omega), List.getElem?_append_right (by simp; omega), List.length_take, List.length_take, Nat.min_eq_left (by omega), Nat.min_eq_left (by omega)]
      rw [List.getElem?_replicate, List.getElem?_replicate]
      by_cases h3 : j < X.length
      · rw [if_pos (by omega), if_pos (by omega)]
      · rw [if_neg (by omega), if_neg (by omega)]
end
/-- A row's copy: where it is bare an empty one has no room behind it. -/
def copyRow {α β : Type} (f : α → β) (fill : β) (a : Row α) (bare : Bool) : Row β :=
  if bare = true ∧ a.es.length = 0 then ⟨[], [], by simp⟩
  else if h : a.es.length ≤ 1000000 then ⟨a.es.map f, List.replicate (room a.es.length) fill, by have := room_le a.es.length; simp; omega⟩ else ⟨[], [], by simp⟩
theorem copyRow_bare {α β : Type} {f : α → β} {fill : β} {a : Row α} (h : a.es.length = 0) : (copyRow f fill a true).es = [] ∧ (copyRow f fill a true).sp = [] := by
  unfold copyRow; rw [if_pos ⟨rfl, h⟩]; exact ⟨rfl, rfl⟩
theorem copyRow_full {α β : Type} {f : α → β} {fill : β} {a : Row α} {bare : Bool} (hb : ¬ (bare = true ∧ a.es.length = 0)) (h : a.es.length ≤ 1000000) : (copyRow f fill a bare).es = a.es.map f ∧ (copyRow f fill a bare).sp = List.replicate (room a.es.length) fill := by
  unfold copyRow; rw [if_neg hb, dif_pos h]; exact ⟨rfl, rfl⟩
abbrev toInts (a : Ints) (bare : Bool) : Ints := copyRow (id : Int → Int) fillI a bare
theorem L_toIntS (a : Ints) (bare : Bool) (h : a.es.length ≤ 1000000) : L (prog hand) n_laws_toIntS [arg (cI a), argV (.bool bare)] = some ⟨[.s (.mk .deep (cI (toInts a bare)))], []⟩ := by
  skip
  have hr := room_le a.es.length
  refine L_body (b := b_laws_toIntS) rfl rfl (a.es.length + room a.es.length) ?_
  intro fuel hfuel
  by_cases hb : bare = true ∧ a.es.length = 0
  · obtain ⟨rfl, h0⟩ := hb
    obtain ⟨e1, e2⟩ := copyRow_bare (f := (id : Int → Int)) (fill := fillI) h0
    have h0' : a.es = [] := by simpa using h0
    simp [b_laws_toIntS, e1, e2, h0']
  · obtain ⟨e1, e2⟩ := copyRow_full (f := (id : Int → Int)) (fill := fillI) hb h
    have hw := wrap64 (n := (a.es.length : Int) + (room a.es.length : Int)) (by omega) (by omega)
    have hm : ((a.es.length : Int) + (room a.es.length : Int)) * 8 ≤ 140737488355328 := by omega
    have hm2 : ((a.es.length : Int) + (room a.es.length : Int)) ≤ 9223372036854775807 := by omega
    have hm0 : 0 ≤ ((a.es.length : Int) + (room a.es.length : Int)) := by omega
    obtain ⟨X, hX⟩ : ∃ X, X = (a.es.map (id : Int → Int)).map eI ++ List.replicate (room a.es.length) (eI fillI) := ⟨_, rfl⟩
    have hlen : X.length = a.es.length + room a.es.length := by rw [hX]; simp
    have hle : a.es.length ≤ X.length := by omega
    have hN : ((a.es.length : Int) + (room a.es.length : Int)).toNat = X.length := by omega
    have hT : X.take a.es.length = (a.es.map (id : Int → Int)).map eI := by rw [hX, List.take_left' (by simp)]
    have hD : X.drop a.es.length = List.replicate (room a.es.length) (eI fillI) := by rw [hX, List.drop_left' (by simp)]
    have hget : ∀ i (h : i < a.es.length), X[i]? = some (eI ((id : Int → Int) a.es[i])) := by intro i h; subst hX; rw [List.getElem?_append_left (by simpa using h)]; simp [h]
    have hget2 : ∀ i, i < X.length → a.es.length ≤ i → X[i]? = some (eI fillI) := by
      intro i h h2
      subst hX
      rw [List.getElem?_append_right (by simpa using h2), List.getElem?_replicate, if_pos (by simp at h ⊢; omega)]
    have hgo : bare = false ∨ a.es.length ≠ 0 := by cases bare <;> simp_all
    clear hX
    cases bare
    · simp [b_laws_toIntS, L_roomBehind, hw, hm, hm2, hm0, hN]
      rw [fillRow_zero]
      rw [K_start (fr' := ⟨asl [(0, .sv (.c (cI a))), (5, .sv (.ref 1000000 [] 0 X.length)), (6, .sv (.v (int (0 : Nat))))], asl [(1000000, .arr true false (.fl 1 (fillRow X [int 0] 0) []))], []⟩) (by simp)]
      refine K_for (fun i => ⟨asl [(0, .sv (.c (cI a))), (5, .sv (.ref 1000000 [] 0 X.length)), (6, .sv (.v (int i)))], asl [(1000000, .arr true false (.fl 1 (fillRow X [int 0] i) []))], []⟩) 0 a.es.length (by omega) (by omega) ?_ ?_
      · intro i _ hi K
        have h2 : i < X.length := by omega
        have hs := fillRow_set (z := [int 0]) (hget i hi)
        try simp only [id] at hs
        simp [l1_laws_toIntS, hi, h2, fillRow_length, fillRow_at, hs, wrap_suc (show i < 9223372036854775807 by omega)]
      · intro k
        simp [l1_laws_toIntS]
        rw [K_start (fr' := ⟨asl [(0, .sv (.c (cI a))), (5, .sv (.ref 1000000 [] 0 X.length)), (7, .sv (.v (int a.es.length)))], asl [(1000000, .arr true false (.fl 1 (fillRow X [int 0] a.es.length) []))], []⟩) (by simp)]
        refine K_for (fun i => ⟨asl [(0, .sv (.c (cI a))), (5, .sv (.ref 1000000 [] 0 X.length)), (7, .sv (.v (int i)))], asl [(1000000, .arr true false (.fl 1 (fillRow X [int 0] i) []))], []⟩) a.es.length X.length (by omega) (by omega) ?_ ?_
        · intro i hi0 hi K
          have hs := fillRow_set (z := [int 0]) (hget2 i hi hi0)
          try simp only [eP, cP, eE, cS, cI, one_es, one_sp, List.map_cons, List.map_nil] at hs
          simp [l2_laws_toIntS, hi, fillRow_length, fillRow_at, hs, wrap_suc (show i < 9223372036854775807 by omega)]
        · intro k
          simp [l2_laws_toIntS, fillRow_all, hle, hT, hD, e1, e2]
    · have h0 : a.es.length ≠ 0 := by simpa using hgo
      simp [b_laws_toIntS, L_roomBehind, hw, hm, hm2, hm0, hN, h0]
      rw [fillRow_zero]
      rw [K_start (fr' := ⟨asl [(0, .sv (.c (cI a))), (5, .sv (.ref 1000000 [] 0 X.length)), (6, .sv (.v (int (0 : Nat))))], asl [(1000000, .arr true false (.fl 1 (fillRow X [int 0] 0) []))], []⟩) (by simp)]
      refine K_for (fun i => ⟨asl [(0, .sv (.c (cI a))), (5, .sv (.ref 1000000 [] 0 X.length)), (6, .sv (.v (int i)))], asl [(1000000, .arr true false (.fl 1 (fillRow X [int 0] i) []))], []⟩) 0 a.es.length (by omega) (by omega) ?_ ?_
      · intro i _ hi K
        have h2 : i < X.length := by omega
        have hs := fillRow_set (z := [int 0]) (hget i hi)
        try simp only [id] at hs
        simp [l1_laws_toIntS, hi, h2, fillRow_length, fillRow_at, hs, wrap_suc (show i < 9223372036854775807 by omega)]
      · intro k
        simp [l1_laws_toIntS]
        rw [K_start (fr' := ⟨asl [(0, .sv (.c (cI a))), (5, .sv (.ref 1000000 [] 0 X.length)), (7, .sv (.v (int a.es.length)))], asl [(1000000, .arr true false (.fl 1 (fillRow X [int 0] a.es.length) []))], []⟩) (by simp)]
        refine K_for (fun i => ⟨asl [(0, .sv (.c (cI a))), (5, .sv (.ref 1000000 [] 0 X.length)), (7, .sv (.v (int i)))], asl [(1000000, .arr true false (.fl 1 (fillRow X [int 0] i) []))], []⟩) a.es.length X.length (by omega) (by omega) ?_ ?_
        · intro i hi0 hi K
          have hs := fillRow_set (z := [int 0]) (hget2 i hi hi0)
          try simp only [eP, cP, eE, cS, cI, one_es, one_sp, List.map_cons, List.map_nil] at hs
          simp [l2_laws_toIntS, hi, fillRow_length, fillRow_at, hs, wrap_suc (show i < 9223372036854775807 by omega)]
        · intro k
          simp [l2_laws_toIntS, fillRow_all, hle, hT, hD, e1, e2]
abbrev toPoly (a : Poly) (bare : Bool) : Poly := copyRow (id : TermV → TermV) fillT a bare
theorem L_toTermS (a : Poly) (bare : Bool) (h : a.es.length ≤ 1000000) : L (prog hand) n_laws_toTermS [arg (cP a), argV (.bool bare)] = some ⟨[.s (.mk .deep (cP (toPoly a bare)))], []⟩ := by
  skip
  have hr := room_le a.es.length
  refine L_body (b := b_laws_toTermS) rfl rfl (a.es.length + room a.es.length) ?_
  intro fuel hfuel
  by_cases hb : bare = true ∧ a.es.length = 0
  · obtain ⟨rfl, h0⟩ := hb
    obtain ⟨e1, e2⟩ := copyRow_bare (f := (id : TermV → TermV)) (fill := fillT) h0
    have h0' : a.es = [] := by simpa using h0
    simp [b_laws_toTermS, e1, e2, h0']
  · obtain ⟨e1, e2⟩ := copyRow_full (f := (id : TermV → TermV)) (fill := fillT) hb h
    have hw := wrap64 (n := (a.es.length : Int) + (room a.es.length : Int)) (by omega) (by omega)
    have hm : ((a.es.length : Int) + (room a.es.length : Int)) * 32 ≤ 140737488355328 := by omega
    have hm2 : ((a.es.length : Int) + (room a.es.length : Int)) ≤ 9223372036854775807 := by omega
    have hm0 : 0 ≤ ((a.es.length : Int) + (room a.es.length : Int)) := by omega
    obtain ⟨X, hX⟩ : ∃ X, X = (a.es.map (id : TermV → TermV)).map eT ++ List.replicate (room a.es.length) (eT fillT) := ⟨_, rfl⟩
    have hlen : X.length = a.es.length + room a.es.length := by rw [hX]; simp
    have hle : a.es.length ≤ X.length := by omega
    have hN : ((a.es.length : Int) + (room a.es.length : Int)).toNat = X.length := by omega
    have hT : X.take a.es.length = (a.es.map (id : TermV → TermV)).map eT := by rw [hX, List.take_left' (by simp)]
    have hD : X.drop a.es.length = List.replicate (room a.es.length) (eT fillT) := by rw [hX, List.drop_left' (by simp)]
    have hget : ∀ i (h : i < a.es.length), X[i]? = some (eT ((id : TermV → TermV) a.es[i])) := by intro i h; subst hX; rw [List.getElem?_append_left (by simpa using h)]; simp [h]
    have hget2 : ∀ i, i < X.length → a.es.length ≤ i → X[i]? = some (eT fillT) := by
      intro i h h2
      subst hX
      rw [List.getElem?_append_right (by simpa using h2), List.getElem?_replicate, if_pos (by simp at h ⊢; omega)]
    have hgo : bare = false ∨ a.es.length ≠ 0 := by cases bare <;> simp_all
    clear hX
    cases bare
    · simp [b_laws_toTermS, L_roomBehind, hw, hm, hm2, hm0, hN]
      rw [fillRow_zero]
      rw [K_start (fr' := ⟨asl [(0, .sv (.c (cP a))), (5, .sv (.ref 1000000 [] 0 X.length)), (6, .sv (.v (int (0 : Nat))))], asl [(1000000, .arr true false (.fl 4 (fillRow X [int 0, int 0, int 0, int 0] 0) []))], []⟩) (by simp)]
      refine K_for (fun i => ⟨asl [(0, .sv (.c (cP a))), (5, .sv (.ref 1000000 [] 0 X.length)), (6, .sv (.v (int i)))], asl [(1000000, .arr true false (.fl 4 (fillRow X [int 0, int 0, int 0, int 0] i) []))], []⟩) 0 a.es.length (by omega) (by omega) ?_ ?_
      · intro i _ hi K
        have h2 : i < X.length := by omega
        have hs := fillRow_set (z := [int 0, int 0, int 0, int 0]) (hget i hi)
        try simp only [id] at hs
        simp [l1_laws_toTermS, hi, h2, fillRow_length, fillRow_at, hs, wrap_suc (show i < 9223372036854775807 by omega), L_toTerm]
      · intro k
        simp [l1_laws_toTermS]
        rw [K_start (fr' := ⟨asl [(0, .sv (.c (cP a))), (5, .sv (.ref 1000000 [] 0 X.length)), (7, .sv (.v (int a.es.length)))], asl [(1000000, .arr true false (.fl 4 (fillRow X [int 0, int 0, int 0, int 0] a.es.length) []))], []⟩) (by simp)]
        refine K_for (fun i => ⟨asl [(0, .sv (.c (cP a))), (5, .sv (.ref 1000000 [] 0 X.length)), (7, .sv (.v (int i)))], asl [(1000000, .arr true false (.fl 4 (fillRow X [int 0, int 0, int 0, int 0] i) []))], []⟩) a.es.length X.length (by omega) (by omega) ?_ ?_
        · intro i hi0 hi K
          have hs := fillRow_set (z := [int 0, int 0, int 0, int 0]) (hget2 i hi hi0)
          try simp only [eP, cP, eE, cS, cI, one_es, one_sp, List.map_cons, List.map_nil] at hs
          simp [l2_laws_toTermS, hi, fillRow_length, fillRow_at, hs, wrap_suc (show i < 9223372036854775807 by omega), L_fillerTerm]
        · intro k
          simp [l2_laws_toTermS, fillRow_all, hle, hT, hD, e1, e2]
    · have h0 : a.es.length ≠ 0 := by simpa using hgo
      simp [b_laws_toTermS, L_roomBehind, hw, hm, hm2, hm0, hN, h0]
      rw [fillRow_zero]
      rw [K_start (fr' := ⟨asl [(0, .sv (.c (cP a))), (5, .sv (.ref 1000000 [] 0 X.length)), (6, .sv (.v (int (0 : Nat))))], asl [(1000000, .arr true false (.fl 4 (fillRow X [int 0, int 0, int 0, int 0] 0) []))], []⟩) (by simp)]
      refine K_for (fun i => ⟨asl [(0, .sv (.c (cP a))), (5, .sv (.ref 1000000 [] 0 X.length)), (6, .sv (.v (int i)))], asl [(1000000, .arr true false (.fl 4 (fillRow X [int 0, int 0, int 0, int 0] i) []))], []⟩) 0 a.es.length (by omega) (by omega) ?_ ?_
      · intro i _ hi K
        have h2 : i < X.length := by omega
        have hs := fillRow_set (z := [int 0, int 0, int 0, int 0]) (hget i hi)
        try simp only [id] at hs
        simp [l1_laws_toTermS, hi, h2, fillRow_length, fillRow_at, hs, wrap_suc (show i < 9223372036854775807 by omega), L_toTerm]
      · intro k
        simp [l1_laws_toTermS]
        rw [K_start (fr' := ⟨asl [(0, .sv (.c (cP a))), (5, .sv (.ref 1000000 [] 0 X.length)), (7, .sv (.v (int a.es.length)))], asl [(1000000, .arr true false (.fl 4 (fillRow X [int 0, int 0, int 0, int 0] a.es.length) []))], []⟩) (by simp)]
        refine K_for (fun i => ⟨asl [(0, .sv (.c (cP a))), (5, .sv (.ref 1000000 [] 0 X.length)), (7, .sv (.v (int i)))], asl [(1000000, .arr true false (.fl 4 (fillRow X [int 0, int 0, int 0, int 0] i) []))], []⟩) a.es.length X.length (by omega) (by omega) ?_ ?_
        · intro i hi0 hi K
          have hs := fillRow_set (z := [int 0, int 0, int 0, int 0]) (hget2 i hi hi0)
          try simp only [eP, cP, eE, cS, cI, one_es, one_sp, List.map_cons, List.map_nil] at hs
          simp [l2_laws_toTermS, hi, fillRow_length, fillRow_at, hs, wrap_suc (show i < 9223372036854775807 by omega), L_fillerTerm]
        · intro k
          simp [l2_laws_toTermS, fillRow_all, hle, hT, hD, e1, e2]
theorem toInts_es (a : Ints) (b : Bool) (h : a.es.length ≤ 1000000) : (toInts a b).es = a.es := by
  by_cases hb : b = true ∧ a.es.length = 0
  · obtain ⟨rfl, h0⟩ := hb
    rw [(copyRow_bare h0).1]; symm; simpa using h0
  · rw [(copyRow_full hb h).1]; simp
theorem toPoly_es (a : Poly) (b : Bool) (h : a.es.length ≤ 1000000) : (toPoly a b).es = a.es := by
  by_cases hb : b = true ∧ a.es.length = 0
  · obtain ⟨rfl, h0⟩ := hb
    rw [(copyRow_bare h0).1]; symm; simpa using h0
  · rw [(copyRow_full hb h).1]; simp
abbrev rB (b : BoxV) : RV := .agg [.mk .imm (.val (int b.k)), .mk .deep (cI b.low), .mk .deep (cI b.high)]
def fillB : BoxV := ⟨fillI, one fillI, one fillI⟩
theorem L_fillerBox : L (prog hand) n_laws_fillerBox [] = some ⟨[rB fillB], []⟩ := by
  refine L_body (b := b_laws_fillerBox) rfl rfl 0 ?_
  intro fuel hfuel
  simp [b_laws_fillerBox, fillB, one_es, one_sp]
def toBoxV (b : BoxV) (bare : Bool) : BoxV := ⟨b.k, toInts b.low bare, toInts b.high bare⟩
theorem L_toBox (b : BoxV) (bare : Bool) (h1 : b.low.es.length ≤ 1000000) (h2 : b.high.es.length ≤ 1000000) : L (prog hand) n_laws_toBox [argB b, argV (.bool bare)] = some ⟨[rB (toBoxV b bare)], []⟩ := by
  refine L_body (b := b_laws_toBox) rfl rfl 0 ?_
  intro fuel hfuel
  simp [b_laws_toBox, toBoxV, L_toIntS _ _ h1, L_toIntS _ _ h2]
abbrev toSys (a : Sys) (bare : Bool) : Sys := copyRow (fun p => toPoly p bare) (one fillT) a bare
theorem L_toTermSS (a : Sys) (bare : Bool) (h : a.es.length ≤ 1000000) (hp : ∀ p ∈ a.es, p.es.length ≤ 1000000) : L (prog hand) n_laws_toTermSS [arg (cS a), argV (.bool bare)] = some ⟨[.s (.mk .deep (cS (toSys a bare)))], []⟩ := by
  have hq : ∀ (i : Nat) (hi : i < a.es.length), a.es[i].es.length ≤ 1000000 := fun i hi => hp _ (List.getElem_mem hi)
  have hr := room_le a.es.length
  refine L_body (b := b_laws_toTermSS) rfl rfl (a.es.length + room a.es.length) ?_
  intro fuel hfuel
  by_cases hb : bare = true ∧ a.es.length = 0
  · obtain ⟨rfl, h0⟩ := hb
    obtain ⟨e1, e2⟩ := copyRow_bare (f := (fun p => toPoly p true)) (fill := (one fillT)) h0
    have h0' : a.es = [] := by simpa using h0
    simp [b_laws_toTermSS, e1, e2, h0']
  · obtain ⟨e1, e2⟩ := copyRow_full (f := (fun p => toPoly p bare)) (fill := (one fillT)) hb h
    have hw := wrap64 (n := (a.es.length : Int) + (room a.es.length : Int)) (by omega) (by omega)
    have hm : ((a.es.length : Int) + (room a.es.length : Int)) * 24 ≤ 140737488355328 := by omega
    have hm2 : ((a.es.length : Int) + (room a.es.length : Int)) ≤ 9223372036854775807 := by omega
    have hm0 : 0 ≤ ((a.es.length : Int) + (room a.es.length : Int)) := by omega
    obtain ⟨X, hX⟩ : ∃ X, X = (a.es.map (fun p => toPoly p bare)).map eP ++ List.replicate (room a.es.length) (eP (one fillT)) := ⟨_, rfl⟩
    have hlen : X.length = a.es.length + room a.es.length := by rw [hX]; simp
    have hle : a.es.length ≤ X.length := by omega
    have hN : ((a.es.length : Int) + (room a.es.length : Int)).toNat = X.length := by omega
    have hT : X.take a.es.length = (a.es.map (fun p => toPoly p bare)).map eP := by rw [hX, List.take_left' (by simp)]
    have hD : X.drop a.es.length = List.replicate (room a.es.length) (eP (one fillT)) := by rw [hX, List.drop_left' (by simp)]
    have hget : ∀ i (h : i < a.es.length), X[i]? = some (eP ((fun p => toPoly p bare) a.es[i])) := by intro i h; subst hX; rw [List.getElem?_append_left (by simpa using h)]; simp [h]
    have hget2 : ∀ i, i < X.length → a.es.length ≤ i → X[i]? = some (eP (one fillT)) := by
      intro i h h2
      subst hX
      rw [List.getElem?_append_right (by simpa using h2), List.getElem?_replicate, if_pos (by simp at h ⊢; omega)]
    have hgo : bare = false ∨ a.es.length ≠ 0 := by cases bare <;> simp_all
    clear hX
    cases bare
    · simp [b_laws_toTermSS, L_roomBehind, hw, hm, hm2, hm0, hN]
      rw [fillRow_zero]
      rw [K_start (fr' := ⟨asl [(0, .sv (.c (cS a))), (1, .sv (.v (.bool false))), (5, .sv (.ref 1000000 [] 0 X.length)), (6, .sv (.v (int (0 : Nat))))], asl [(1000000, .arr true false (.sl 1 (fillRow X [.fl 4 [] []] 0) []))], []⟩) (by simp)]
      refine K_for (fun i => ⟨asl [(0, .sv (.c (cS a))), (1, .sv (.v (.bool false))), (5, .sv (.ref 1000000 [] 0 X.length)), (6, .sv (.v (int i)))], asl [(1000000, .arr true false (.sl 1 (fillRow X [.fl 4 [] []] i) []))], []⟩) 0 a.es.length (by omega) (by omega) ?_ ?_
      · intro i _ hi K
        have h2 : i < X.length := by omega
        have hs := fillRow_set (z := [.fl 4 [] []]) (hget i hi)
        try simp only [id] at hs
        simp [l1_laws_toTermSS, hi, h2, fillRow_length, fillRow_at, hs, wrap_suc (show i < 9223372036854775807 by omega), L_toTermS _ _ (hq i hi)]
      · intro k
        simp [l1_laws_toTermSS]
        rw [K_start (fr' := ⟨asl [(0, .sv (.c (cS a))), (5, .sv (.ref 1000000 [] 0 X.length)), (7, .sv (.v (int a.es.length)))], asl [(1000000, .arr true false (.sl 1 (fillRow X [.fl 4 [] []] a.es.length) []))], []⟩) (by simp)]
        refine K_for (fun i => ⟨asl [(0, .sv (.c (cS a))), (5, .sv (.ref 1000000 [] 0 X.length)), (7, .sv (.v (int i)))], asl [(1000000, .arr true false (.sl 1 (fillRow X [.fl 4 [] []] i) []))], []⟩) a.es.length X.length (by omega) (by omega) ?_ ?_
        · intro i hi0 hi K
          have hs := fillRow_set (z := [.fl 4 [] []]) (hget2 i hi hi0)
          try simp only [eP, cP, eE, cS, cI, one_es, one_sp, List.map_cons, List.map_nil] at hs
          simp [l2_laws_toTermSS, hi, fillRow_length, fillRow_at, hs, wrap_suc (show i < 9223372036854775807 by omega), L_fillerTerm]
        · intro k
          simp [l2_laws_toTermSS, fillRow_all, hle, hT, hD, e1, e2]
    · have h0 : a.es.length ≠ 0 := by simpa using hgo
      simp [b_laws_toTermSS, L_roomBehind, hw, hm, hm2, hm0, hN, h0]
      rw [fillRow_zero]
      rw [K_start (fr' := ⟨asl [(0, .sv (.c (cS a))), (1, .sv (.v (.bool true))), (5, .sv (.ref 1000000 [] 0 X.length)), (6, .sv (.v (int (0 : Nat))))], asl [(1000000, .arr true false (.sl 1 (fillRow X [.fl 4 [] []] 0) []))], []⟩) (by simp)]
      refine K_for (fun i => ⟨asl [(0, .sv (.c (cS a))), (1, .sv (.v (.bool true))), (5, .sv (.ref 1000000 [] 0 X.length)), (6, .sv (.v (int i)))], asl [(1000000, .arr true false (.sl 1 (fillRow X [.fl 4 [] []] i) []))], []⟩) 0 a.es.length (by omega) (by omega) ?_ ?_
      · intro i _ hi K
        have h2 : i < X.length := by omega
        have hs := fillRow_set (z := [.fl 4 [] []]) (hget i hi)
        try simp only [id] at hs
        simp [l1_laws_toTermSS, hi, h2, fillRow_length, fillRow_at, hs, wrap_suc (show i < 9223372036854775807 by omega), L_toTermS _ _ (hq i hi)]
      · intro k
        simp [l1_laws_toTermSS]
        rw [K_start (fr' := ⟨asl [(0, .sv (.c (cS a))), (5, .sv (.ref 1000000 [] 0 X.length)), (7, .sv (.v (int a.es.length)))], asl [(1000000, .arr true false (.sl 1 (fillRow X [.fl 4 [] []] a.es.length) []))], []⟩) (by simp)]
        refine K_for (fun i => ⟨asl [(0, .sv (.c (cS a))), (5, .sv (.ref 1000000 [] 0 X.length)), (7, .sv (.v (int i)))], asl [(1000000, .arr true false (.sl 1 (fillRow X [.fl 4 [] []] i) []))], []⟩) a.es.length X.length (by omega) (by omega) ?_ ?_
        · intro i hi0 hi K
          have hs := fillRow_set (z := [.fl 4 [] []]) (hget2 i hi hi0)
          try simp only [eP, cP, eE, cS, cI, one_es, one_sp, List.map_cons, List.map_nil] at hs
          simp [l2_laws_toTermSS, hi, fillRow_length, fillRow_at, hs, wrap_suc (show i < 9223372036854775807 by omega), L_fillerTerm]
        · intro k
          simp [l2_laws_toTermSS, fillRow_all, hle, hT, hD, e1, e2]
theorem toSys_es (a : Sys) (b : Bool) (h : a.es.length ≤ 1000000) : (toSys a b).es = a.es.map (fun p => toPoly p b) := by
  by_cases hb : b = true ∧ a.es.length = 0
  · obtain ⟨rfl, h0⟩ := hb
    rw [(copyRow_bare h0).1]; symm; simpa using h0
  · rw [(copyRow_full hb h).1]
abbrev rE (e : EntryV) : RV := .agg [.mk .imm (.val (.string e.name)), .mk .deep (cS e.system), .mk .imm (.val (int e.box.k)), .mk .deep (cI e.box.low), .mk .deep (cI e.box.high), .mk .imm (.val (int e.least)), .mk .imm (.val (int e.most)), .mk .imm (.val (int e.version))]
abbrev fillName : ByteArray := ⟨#[126, 115, 112, 97, 114, 101, 126]⟩
def fillE : EntryV := ⟨fillName, by decide, one (one fillT), fillB, fillI, fillI, fillI⟩
theorem L_fillerEntry : L (prog hand) n_laws_fillerEntry [] = some ⟨[rE fillE], []⟩ := by
  refine L_body (b := b_laws_fillerEntry) rfl rfl 0 ?_
  intro fuel hfuel
  simp [b_laws_fillerEntry, fillE, one_es, one_sp, L_fillerTerm, L_fillerBox]
/-- A small entry. -/
def SmallS (s : Sys) : Prop := s.es.length ≤ 1000000 ∧ ∀ p ∈ s.es, p.es.length ≤ 1000000
def SmallE (e : EntryV) : Prop := SmallS e.system ∧ e.box.low.es.length ≤ 1000000 ∧ e.box.high.es.length ≤ 1000000
def toEntryV (e : EntryV) (bare : Bool) : EntryV := ⟨e.name, e.nok, toSys e.system bare, toBoxV e.box bare, e.least, e.most, e.version⟩
theorem L_toEntry (e : EntryV) (bare : Bool) (h : SmallE e) : L (prog hand) n_laws_toEntry [argE e, argV (.bool bare)] = some ⟨[rE (toEntryV e bare)], []⟩ := by
  obtain ⟨⟨h1, h2⟩, h3, h4⟩ := h
  refine L_body (b := b_laws_toEntry) rfl rfl 0 ?_
  intro fuel hfuel
  simp [b_laws_toEntry, toEntryV, L_toTermSS _ _ h1 h2, L_toBox _ _ h3 h4]
abbrev toEntries (a : Entries) (bare : Bool) : Entries := copyRow (fun e => toEntryV e bare) fillE a bare
theorem L_toEntryS (a : Entries) (bare : Bool) (h : a.es.length ≤ 1000000) (hp : ∀ e ∈ a.es, SmallE e) : L (prog hand) n_laws_toEntryS [arg (cE a), argV (.bool bare)] = some ⟨[.s (.mk .deep (cE (toEntries a bare)))], []⟩ := by
  have hq : ∀ (i : Nat) (hi : i < a.es.length), SmallE a.es[i] := fun i hi => hp _ (List.getElem_mem hi)
  have hr := room_le a.es.length
  refine L_body (b := b_laws_toEntryS) rfl rfl (a.es.length + room a.es.length) ?_
  intro fuel hfuel
  by_cases hb : bare = true ∧ a.es.length = 0
  · obtain ⟨rfl, h0⟩ := hb
    obtain ⟨e1, e2⟩ := copyRow_bare (f := (fun e => toEntryV e true)) (fill := fillE) h0
    have h0' : a.es = [] := by simpa using h0
    simp [b_laws_toEntryS, e1, e2, h0']
  · obtain ⟨e1, e2⟩ := copyRow_full (f := (fun e => toEntryV e bare)) (fill := fillE) hb h
    have hw := wrap64 (n := (a.es.length : Int) + (room a.es.length : Int)) (by omega) (by omega)
    have hm : ((a.es.length : Int) + (room a.es.length : Int)) * 120 ≤ 140737488355328 := by omega
    have hm2 : ((a.es.length : Int) + (room a.es.length : Int)) ≤ 9223372036854775807 := by omega
    have hm0 : 0 ≤ ((a.es.length : Int) + (room a.es.length : Int)) := by omega
    obtain ⟨X, hX⟩ : ∃ X, X = (a.es.map (fun e => toEntryV e bare)).map eE ++ List.replicate (room a.es.length) (eE fillE) := ⟨_, rfl⟩
    have hlen : X.length = a.es.length + room a.es.length := by rw [hX]; simp
    have hle : a.es.length ≤ X.length := by omega
    have hN : ((a.es.length : Int) + (room a.es.length : Int)).toNat = X.length := by omega
    have hT : X.take a.es.length = (a.es.map (fun e => toEntryV e bare)).map eE := by rw [hX, List.take_left' (by simp)]
    have hD : X.drop a.es.length = List.replicate (room a.es.length) (eE fillE) := by rw [hX, List.drop_left' (by simp)]
    have hget : ∀ i (h : i < a.es.length), X[i]? = some (eE ((fun e => toEntryV e bare) a.es[i])) := by intro i h; subst hX; rw [List.getElem?_append_left (by simpa using h)]; simp [h]
    have hget2 : ∀ i, i < X.length → a.es.length ≤ i → X[i]? = some (eE fillE) := by
      intro i h h2
      subst hX
      rw [List.getElem?_append_right (by simpa using h2), List.getElem?_replicate, if_pos (by simp at h ⊢; omega)]
    have hgo : bare = false ∨ a.es.length ≠ 0 := by cases bare <;> simp_all
    clear hX
    cases bare
    · simp [b_laws_toEntryS, L_roomBehind, hw, hm, hm2, hm0, hN]
      rw [fillRow_zero]
      rw [K_start (fr' := ⟨asl [(0, .sv (.c (cE a))), (1, .sv (.v (.bool false))), (5, .sv (.ref 1000000 [] 0 X.length)), (6, .sv (.v (int (0 : Nat))))], asl [(1000000, .arr true false (.sl 8 (fillRow X [.val (.string ⟨#[]⟩), .sl 1 [] [], .val (int 0), .fl 1 [] [], .fl 1 [] [], .val (int 0), .val (int 0), .val (int 0)] 0) []))], []⟩) (by simp)]
      refine K_for (fun i => ⟨asl [(0, .sv (.c (cE a))), (1, .sv (.v (.bool false))), (5, .sv (.ref 1000000 [] 0 X.length)), (6, .sv (.v (int i)))], asl [(1000000, .arr true false (.sl 8 (fillRow X [.val (.string ⟨#[]⟩), .sl 1 [] [], .val (int 0), .fl 1 [] [], .fl 1 [] [], .val (int 0), .val (int 0), .val (int 0)] i) []))], []⟩) 0 a.es.length (by omega) (by omega) ?_ ?_
      · intro i _ hi K
        have h2 : i < X.length := by omega
        have hs := fillRow_set (z := [.val (.string ⟨#[]⟩), .sl 1 [] [], .val (int 0), .fl 1 [] [], .fl 1 [] [], .val (int 0), .val (int 0), .val (int 0)]) (hget i hi)
        try simp only [id] at hs
        simp [l1_laws_toEntryS, hi, h2, fillRow_length, fillRow_at, hs, wrap_suc (show i < 9223372036854775807 by omega), L_toEntry _ _ (hq i hi)]
      · intro k
        simp [l1_laws_toEntryS]
        rw [K_start (fr' := ⟨asl [(0, .sv (.c (cE a))), (5, .sv (.ref 1000000 [] 0 X.length)), (7, .sv (.v (int a.es.length)))], asl [(1000000, .arr true false (.sl 8 (fillRow X [.val (.string ⟨#[]⟩), .sl 1 [] [], .val (int 0), .fl 1 [] [], .fl 1 [] [], .val (int 0), .val (int 0), .val (int 0)] a.es.length) []))], []⟩) (by simp)]
        refine K_for (fun i => ⟨asl [(0, .sv (.c (cE a))), (5, .sv (.ref 1000000 [] 0 X.length)), (7, .sv (.v (int i)))], asl [(1000000, .arr true false (.sl 8 (fillRow X [.val (.string ⟨#[]⟩), .sl 1 [] [], .val (int 0), .fl 1 [] [], .fl 1 [] [], .val (int 0), .val (int 0), .val (int 0)] i) []))], []⟩) a.es.length X.length (by omega) (by omega) ?_ ?_
        · intro i hi0 hi K
          have hs := fillRow_set (z := [.val (.string ⟨#[]⟩), .sl 1 [] [], .val (int 0), .fl 1 [] [], .fl 1 [] [], .val (int 0), .val (int 0), .val (int 0)]) (hget2 i hi hi0)
          try simp only [eP, cP, eE, cS, cI, one_es, one_sp, List.map_cons, List.map_nil] at hs
          simp [l2_laws_toEntryS, hi, fillRow_length, fillRow_at, hs, wrap_suc (show i < 9223372036854775807 by omega), L_fillerEntry]
        · intro k
          simp [l2_laws_toEntryS, fillRow_all, hle, hT, hD, e1, e2]
    · have h0 : a.es.length ≠ 0 := by simpa using hgo
      simp [b_laws_toEntryS, L_roomBehind, hw, hm, hm2, hm0, hN, h0]
      rw [fillRow_zero]
      rw [K_start (fr' := ⟨asl [(0, .sv (.c (cE a))), (1, .sv (.v (.bool true))), (5, .sv (.ref 1000000 [] 0 X.length)), (6, .sv (.v (int (0 : Nat))))], asl [(1000000, .arr true false (.sl 8 (fillRow X [.val (.string ⟨#[]⟩), .sl 1 [] [], .val (int 0), .fl 1 [] [], .fl 1 [] [], .val (int 0), .val (int 0), .val (int 0)] 0) []))], []⟩) (by simp)]
      refine K_for (fun i => ⟨asl [(0, .sv (.c (cE a))), (1, .sv (.v (.bool true))), (5, .sv (.ref 1000000 [] 0 X.length)), (6, .sv (.v (int i)))], asl [(1000000, .arr true false (.sl 8 (fillRow X [.val (.string ⟨#[]⟩), .sl 1 [] [], .val (int 0), .fl 1 [] [], .fl 1 [] [], .val (int 0), .val (int 0), .val (int 0)] i) []))], []⟩) 0 a.es.length (by omega) (by omega) ?_ ?_
      · intro i _ hi K
        have h2 : i < X.length := by omega
        have hs := fillRow_set (z := [.val (.string ⟨#[]⟩), .sl 1 [] [], .val (int 0), .fl 1 [] [], .fl 1 [] [], .val (int 0), .val (int 0), .val (int 0)]) (hget i hi)
        try simp only [id] at hs
        simp [l1_laws_toEntryS, hi, h2, fillRow_length, fillRow_at, hs, wrap_suc (show i < 9223372036854775807 by omega), L_toEntry _ _ (hq i hi)]
      · intro k
        simp [l1_laws_toEntryS]
        rw [K_start (fr' := ⟨asl [(0, .sv (.c (cE a))), (5, .sv (.ref 1000000 [] 0 X.length)), (7, .sv (.v (int a.es.length)))], asl [(1000000, .arr true false (.sl 8 (fillRow X [.val (.string ⟨#[]⟩), .sl 1 [] [], .val (int 0), .fl 1 [] [], .fl 1 [] [], .val (int 0), .val (int 0), .val (int 0)] a.es.length) []))], []⟩) (by simp)]
        refine K_for (fun i => ⟨asl [(0, .sv (.c (cE a))), (5, .sv (.ref 1000000 [] 0 X.length)), (7, .sv (.v (int i)))], asl [(1000000, .arr true false (.sl 8 (fillRow X [.val (.string ⟨#[]⟩), .sl 1 [] [], .val (int 0), .fl 1 [] [], .fl 1 [] [], .val (int 0), .val (int 0), .val (int 0)] i) []))], []⟩) a.es.length X.length (by omega) (by omega) ?_ ?_
        · intro i hi0 hi K
          have hs := fillRow_set (z := [.val (.string ⟨#[]⟩), .sl 1 [] [], .val (int 0), .fl 1 [] [], .fl 1 [] [], .val (int 0), .val (int 0), .val (int 0)]) (hget2 i hi hi0)
          try simp only [eP, cP, eE, cS, cI, one_es, one_sp, List.map_cons, List.map_nil] at hs
          simp [l2_laws_toEntryS, hi, fillRow_length, fillRow_at, hs, wrap_suc (show i < 9223372036854775807 by omega), L_fillerEntry]
        · intro k
          simp [l2_laws_toEntryS, fillRow_all, hle, hT, hD, e1, e2]
end Go.Proofs.YtecmolmlojehgaaGreat.T
namespace Go.Proofs.YtecmolmlojehgaaGreat.T
open Go
variable {hand : Call}
set_option maxHeartbeats 2000000
attribute [-simp] List.getElem_cons_drop List.map_drop
def inR (n lo hi : Int) : Bool := decide (lo ≤ n) && decide (n ≤ hi)
theorem L_l1In (n lo hi : Int) : L (prog hand) n_spec_l1In [argI n, argI lo, argI hi] = some (resB (inR n lo hi)) := by
  refine L_body (b := b_spec_l1In) rfl rfl 0 ?_
  intro fuel _
  by_cases h : lo ≤ n <;> simp -implicitDefEqProofs [b_spec_l1In, inR, h]
theorem L_inside (n lo hi : Int) : L (prog hand) n_impl_inside [argI n, argI lo, argI hi] = some (resB (inR n lo hi)) := by
  refine L_body (b := b_impl_inside) rfl rfl 0 ?_
  intro fuel _
  by_cases h : lo ≤ n <;> simp -implicitDefEqProofs [b_impl_inside, inR, h]
def sgn (n : Int) : Int := if 0 < n then 1 else if n < 0 then -1 else 0
theorem L_l1Sign (n : Int) : L (prog hand) n_spec_l1Sign [argI n] = some (resI (sgn n)) := by
  refine L_body (b := b_spec_l1Sign) rfl rfl 0 ?_
  intro fuel _
  by_cases h : 0 < n
  · simp -implicitDefEqProofs [b_spec_l1Sign, sgn, h]
  · by_cases h2 : n < 0 <;> simp -implicitDefEqProofs [b_spec_l1Sign, sgn, h, h2]
theorem L_l1Most (a b : Int) : L (prog hand) n_spec_l1Most [argI a, argI b] = some (resI (max a b)) := by
  refine L_body (b := b_spec_l1Most) rfl rfl 0 ?_
  intro fuel _
  by_cases h : b < a
  · have e : max a b = a := by omega
    simp -implicitDefEqProofs [b_spec_l1Most, h, e]
  · have e : max a b = b := by omega
    simp -implicitDefEqProofs [b_spec_l1Most, h, e]
theorem L_l1Least (a b : Int) : L (prog hand) n_spec_l1Least [argI a, argI b] = some (resI (min a b)) := by
  refine L_body (b := b_spec_l1Least) rfl rfl 0 ?_
  intro fuel _
  by_cases h : a < b
  · have e : min a b = a := by omega
    simp -implicitDefEqProofs [b_spec_l1Least, h, e]
  · have e : min a b = b := by omega
    simp -implicitDefEqProofs [b_spec_l1Least, h, e]
def allUp (f : Nat → Bool) : Nat → Nat → Bool
  | _, 0 => true
  | i, m + 1 => f i && allUp f (i + 1) m
theorem allUp_step {f : Nat → Bool} {i n : Nat} (h : i < n) : allUp f i (n - i) = (f i && allUp f (i + 1) (n - (i + 1))) := by
  obtain ⟨m, hm⟩ : ∃ m, n - i = m + 1 := ⟨n - i - 1, by omega⟩
  rw [hm, show n - (i + 1) = m by omega]
  rfl
theorem allUp_end {f : Nat → Bool} {i n : Nat} (h : ¬ i < n) : allUp f i (n - i) = true := by rw [show n - i = 0 by omega]; rfl
def byteOk (s : ByteArray) (i : Nat) : Bool :=
  match s[i]? with
  | some b => decide (97 ≤ b.toNat) && decide (b.toNat ≤ 122)
  | none => false
def nameOk (s : ByteArray) : Bool := allUp (byteOk s) 0 s.size && inR s.size 1 8
theorem L_caName (s : ByteArray) (hs : s.size ≤ 9223372036854775807) : L (prog hand) n_spec_caName [argV (.string s)] = some (resB (nameOk s)) := by
  refine L_body (b := b_spec_caName) rfl rfl s.size ?_
  intro fuel hfuel
  simp -implicitDefEqProofs [b_spec_caName]
  refine K_loop (fun (i : Nat) => ⟨asl [(0, .sv (.v (.string s))), (3, .sv (.v (int i)))], asl [], []⟩) (fun i => some (resB (allUp (byteOk s) i (s.size - i) && inR s.size 1 8))) (fun i => s.size - i) (fun i => i ≤ s.size) ?_ 0 (by simp) (by omega)
  intro i hi k hk
  by_cases hlt : i < s.size
  · rw [allUp_step hlt]
    have hb : s[i]? = some s[i] := by simp [hlt]
    have hbo : byteOk s i = (decide (97 ≤ s[i].toNat) && decide (s[i].toNat ≤ 122)) := by unfold byteOk; rw [hb]
    rw [hbo]
    by_cases h1 : 97 ≤ s[i].toNat
    · have h1' : ¬ ((s[i].toNat : Int) < 97) := by omega
      have h1z : (97 : Int) ≤ s[i].toNat := by omega
      by_cases h2 : s[i].toNat ≤ 122
      · have h2' : ¬ ((122 : Int) < s[i].toNat) := by omega
        have h2z : (s[i].toNat : Int) ≤ 122 := by omega
        simp -implicitDefEqProofs [l1_spec_caName, hlt, h1, h1', h1z, h2, h2', h2z, wrap_suc (show i < 9223372036854775807 by omega)]
        exact (hk (i + 1) (by omega) (by omega)).trans (by simp)
      · have h2' : ((122 : Int) < s[i].toNat) := by omega
        simp -implicitDefEqProofs [l1_spec_caName, hlt, h1, h1', h1z, h2, h2']
    · have h1' : ((s[i].toNat : Int) < 97) := by omega
      simp -implicitDefEqProofs [l1_spec_caName, hlt, h1, h1']
  · rw [allUp_end hlt]
    simp -implicitDefEqProofs [l1_spec_caName, hlt, L_l1In]
def termOk (t : TermV) : Bool := inR t.c (-1000) 1000 && (inR t.x 0 4 && (inR t.y 0 4 && (inR t.z 0 4 && decide (t.x + t.y + t.z ≤ 4))))
theorem inR_true {n lo hi : Int} (h : inR n lo hi = true) : lo ≤ n ∧ n ≤ hi := by simpa [inR] using h
theorem L_poTerm (t : TermV) : L (prog hand) n_spec_poTerm [argT t] = some (resB (termOk t)) := by
  refine L_body (b := b_spec_poTerm) rfl rfl 0 ?_
  intro fuel _
  cases h1 : inR t.c (-1000) 1000
  · simp -implicitDefEqProofs [b_spec_poTerm, termOk, L_l1In, h1]
  cases h2 : inR t.x 0 4
  · simp -implicitDefEqProofs [b_spec_poTerm, termOk, L_l1In, h1, h2]
  cases h3 : inR t.y 0 4
  · simp -implicitDefEqProofs [b_spec_poTerm, termOk, L_l1In, h1, h2, h3]
  cases h4 : inR t.z 0 4
  · simp -implicitDefEqProofs [b_spec_poTerm, termOk, L_l1In, h1, h2, h3, h4]
  have e2 := inR_true h2
  have e3 := inR_true h3
  have e4 := inR_true h4
  have w1 := wrap64 (n := t.x + t.y) (by omega) (by omega)
  have w2 := wrap64 (n := t.x + t.y + t.z) (by omega) (by omega)
  simp -implicitDefEqProofs [b_spec_poTerm, termOk, L_l1In, h1, h2, h3, h4, w1, w2]
def cmp3 (a b : TermV) : Int := if a.x ≠ b.x then sgn (a.x - b.x) else if a.y ≠ b.y then sgn (a.y - b.y) else sgn (a.z - b.z)
theorem L_poOrder (a b : TermV) (ha : termOk a = true) (hb : termOk b = true) : L (prog hand) n_spec_poOrder [argT a, argT b] = some (resI (cmp3 a b)) := by
  refine L_body (b := b_spec_poOrder) rfl rfl 0 ?_
  intro fuel _
  simp only [termOk, Bool.and_eq_true] at ha hb
  have a2 := inR_true ha.2.1
  have a3 := inR_true ha.2.2.1
  have a4 := inR_true ha.2.2.2.1
  have b2 := inR_true hb.2.1
  have b3 := inR_true hb.2.2.1
  have b4 := inR_true hb.2.2.2.1
  have w1 := wrap64 (n := a.x - b.x) (by omega) (by omega)
  have w2 := wrap64 (n := a.y - b.y) (by omega) (by omega)
  have w3 := wrap64 (n := a.z - b.z) (by omega) (by omega)
  by_cases h1 : a.x = b.x
  · by_cases h2 : a.y = b.y
    · simp -implicitDefEqProofs [b_spec_poOrder, cmp3, h1, h2, w3, L_l1Sign]
    · simp -implicitDefEqProofs [b_spec_poOrder, cmp3, h1, h2, w2, L_l1Sign]
  · simp -implicitDefEqProofs [b_spec_poOrder, cmp3, h1, w1, L_l1Sign]
def polyGo : Option TermV → List TermV → Bool
  | _, [] => true
  | none, t :: r => termOk t && (decide (t.c ≠ 0) && polyGo (some t) r)
  | some p, t :: r => termOk t && (decide (t.c ≠ 0) && (decide (cmp3 p t < 0) && polyGo (some t) r))
def polyOk (l : List TermV) : Bool := polyGo none l && decide (l.length ≤ 20)
def prevAt (l : List TermV) : Nat → Option TermV
  | 0 => none
  | i + 1 => l[i]?
theorem L_poGood (p : Poly) : L (prog hand) n_spec_poGood [arg (cP p)] = some (resB (polyOk p.es)) := by
  have hok := p.ok
  refine L_body (b := b_spec_poGood) rfl rfl p.es.length ?_
  intro fuel hfuel
  simp -implicitDefEqProofs [b_spec_poGood]
  refine K_loop (fun (i : Nat) => ⟨asl [(0, .sv (.c (cP p))), (5, .sv (.c (cP p))), (6, .sv (.v (int p.es.length))), (7, .sv (.v (int i)))], asl [], []⟩) (fun i => some (resB (polyGo (prevAt p.es i) (p.es.drop i) && decide (p.es.length ≤ 20)))) (fun i => p.es.length - i) (fun i => i ≤ p.es.length ∧ ∀ t, prevAt p.es i = some t → termOk t = true) ?_ 0 ⟨by simp, fun t h => by cases h⟩ (by omega)
  rintro i ⟨hi, hprev⟩ k hk
  by_cases hlt : i < p.es.length
  · have hk' := hk (i + 1)
    have hnext : prevAt p.es (i + 1) = some p.es[i] := by simp [prevAt, hlt]
    rw [hnext] at hk'
    rw [drop_cons hlt]
    have hws := wrap_suc (show i < 9223372036854775807 by omega)
    by_cases hi0 : i = 0
    · have hz : ¬ (0 < i) := by omega
      have hp0 : prevAt p.es i = none := by rw [hi0]; rfl
      rw [hp0]
      cases h1 : termOk p.es[i]
      · simp -implicitDefEqProofs [l1_spec_poGood, hlt, L_poTerm, h1, polyGo]
      · by_cases h2 : p.es[i].c = 0
        · have hPT := L_poTerm (hand := hand) p.es[i]
          rw [h1] at hPT
          simp only [argT, sT, h2] at hPT
          simp -implicitDefEqProofs [l1_spec_poGood, hlt, hPT, h1, h2, polyGo]
        · have hgo := hk' ⟨by omega, fun t e => by injection e with e; rw [← e]; exact h1⟩ (by omega)
          simp -implicitDefEqProofs [l1_spec_poGood, hlt, L_poTerm, h1, h2, polyGo, hz, hws]
          exact hgo.trans (by simp)
    · have hz : 0 < i := by omega
      have hj : i - 1 < p.es.length := by omega
      have hp0 : prevAt p.es i = some p.es[i - 1] := by
        obtain ⟨j, rfl⟩ : ∃ j, i = j + 1 := ⟨i - 1, by omega⟩
        simp [prevAt, show j < p.es.length by omega]
      have hpj : termOk p.es[i - 1] = true := hprev _ hp0
      rw [hp0]
      have hw := wrap64 (n := (i : Int) - 1) (by omega) (by omega)
      have ht : ((i : Int) - 1).toNat = i - 1 := by omega
      have hb0 : (0 : Int) ≤ (i : Int) - 1 := by omega
      have hb1 : (i : Int) - 1 < (p.es.length : Int) := by omega
      have hb2 : (1 : Int) ≤ (i : Int) := by omega
      have hb3 : 1 ≤ i := by omega
      cases h1 : termOk p.es[i]
      · simp -implicitDefEqProofs [l1_spec_poGood, hlt, L_poTerm, h1, polyGo]
      · by_cases h2 : p.es[i].c = 0
        · have hPT := L_poTerm (hand := hand) p.es[i]
          rw [h1] at hPT
          simp only [argT, sT, h2] at hPT
          simp -implicitDefEqProofs [l1_spec_poGood, hlt, hPT, h1, h2, polyGo]
        · have hgo := hk' ⟨by omega, fun t e => by injection e with e; rw [← e]; exact h1⟩ (by omega)
          have hO := L_poOrder (hand := hand) p.es[i - 1] p.es[i] hpj h1
          by_cases h3 : cmp3 p.es[i - 1] p.es[i] < 0
          · have h3' : ¬ (0 ≤ cmp3 p.es[i - 1] p.es[i]) := by omega
            simp -implicitDefEqProofs [l1_spec_poGood, hlt, L_poTerm, h1, h2, polyGo, hO, hw, hz, hj, ht, hb0, hb1, hb2, hb3, h3, h3', hws]
            exact hgo
          · have h3' : 0 ≤ cmp3 p.es[i - 1] p.es[i] := by omega
            simp -implicitDefEqProofs [l1_spec_poGood, hlt, L_poTerm, h1, h2, polyGo, hO, hw, hz, hj, ht, hb0, hb1, hb2, hb3, h3, h3']
  · rw [drop_end hlt]
    have hg : polyGo (prevAt p.es i) [] = true := by cases prevAt p.es i <;> rfl
    have hc : ((p.es.length : Int) ≤ 20) = (p.es.length ≤ 20) := by rw [eq_iff_iff]; omega
    simp -implicitDefEqProofs [l1_spec_poGood, hlt, hg, hc]
end Go.Proofs.YtecmolmlojehgaaGreat.T
namespace Go.Proofs.YtecmolmlojehgaaGreat.T
open Go
variable {hand : Call}
set_option maxHeartbeats 2000000
attribute [-simp] List.getElem_cons_drop List.map_drop
def pow (t : TermV) (k : Nat) : Int := if k = 0 then t.x else if k = 1 then t.y else t.z
theorem L_poPower (t : TermV) (k : Nat) : L (prog hand) n_spec_poPower [argT t, argI k] = some (resI (pow t k)) := by
  refine L_body (b := b_spec_poPower) rfl rfl 0 ?_
  intro fuel _
  by_cases h0 : k = 0
  · simp -implicitDefEqProofs [b_spec_poPower, pow, h0]
  · by_cases h1 : k = 1
    · simp -implicitDefEqProofs [b_spec_poPower, pow, h1]
    · have h1' : ¬ ((k : Int) = 1) := by omega
      simp -implicitDefEqProofs [b_spec_poPower, pow, h0, h1, h1']
def degGo (k : Nat) : Int → List TermV → Int
  | m, [] => m
  | m, t :: r => degGo k (max m (pow t k)) r
theorem L_poDegreeIn (p : Poly) (k : Nat) : L (prog hand) n_spec_poDegreeIn [arg (cP p), argI k] = some (resI (degGo k (-1) p.es)) := by
  have hok := p.ok
  refine L_body (b := b_spec_poDegreeIn) rfl rfl p.es.length ?_
  intro fuel hfuel
  simp -implicitDefEqProofs [b_spec_poDegreeIn]
  refine K_loop (fun (s : Nat × Int) => ⟨asl [(1, .sv (.v (int k))), (5, .sv (.v (int s.2))), (8, .sv (.c (cP p))), (9, .sv (.v (int p.es.length))), (10, .sv (.v (int s.1)))], asl [], []⟩) (fun s => some (resI (degGo k s.2 (p.es.drop s.1)))) (fun s => p.es.length - s.1) (fun s => s.1 ≤ p.es.length) ?_ (0, -1) (by simp) (by simpa using hfuel)
  rintro ⟨i, m⟩ hi K hK
  simp only at hi
  by_cases hlt : i < p.es.length
  · rw [drop_cons hlt]
    simp -implicitDefEqProofs [l1_spec_poDegreeIn, hlt, L_poPower, L_l1Most, degGo, wrap_suc (show i < 9223372036854775807 by omega)]
    exact hK (i + 1, max m (pow p.es[i] k)) (by simp; omega) (by simp; omega)
  · rw [drop_end hlt]
    simp -implicitDefEqProofs [l1_spec_poDegreeIn, hlt, degGo]
def degOk (p : List TermV) (n : Nat) : Bool := allUp (fun k => !decide (0 < degGo k (-1) p)) n (3 - n)
def sysGo (n : Nat) : List (List TermV) → Bool
  | [] => true
  | p :: r => polyOk p && (degOk p n && sysGo n r)
def sysOk (s : List (List TermV)) : Bool := sysGo s.length s && inR s.length 1 3
theorem L_poSystem (s : Sys) : L (prog hand) n_spec_poSystem [arg (cS s)] = some (resB (sysOk (pS s))) := by
  have hok := s.ok
  have hlen : (pS s).length = s.es.length := by simp [pS]
  refine L_body (b := b_spec_poSystem) rfl rfl (s.es.length + 4) ?_
  intro fuel hfuel
  rw [sysOk, hlen]
  simp -implicitDefEqProofs [b_spec_poSystem]
  refine K_loop (fun (i : Nat) => ⟨asl [(0, .sv (.c (cS s))), (6, .sv (.c (cS s))), (7, .sv (.v (int s.es.length))), (8, .sv (.v (int i)))], asl [], []⟩) (fun i => some (resB (sysGo s.es.length ((pS s).drop i) && inR s.es.length 1 3))) (fun i => s.es.length - i) (fun i => i ≤ s.es.length) ?_ 0 (by simp) (by omega)
  intro i hi K hK
  by_cases hlt : i < s.es.length
  · have hd : (pS s).drop i = s.es[i].es :: (pS s).drop (i + 1) := by
      rw [drop_cons (by rw [hlen]; exact hlt)]
      simp [pS]
    rw [hd]
    cases h1 : polyOk s.es[i].es
    · simp -implicitDefEqProofs [l2_spec_poSystem, hlt, L_poGood, h1, sysGo]
    · simp -implicitDefEqProofs [l2_spec_poSystem, hlt, L_poGood, h1, sysGo]
      refine K_loop (fun (k : Nat) => ⟨asl [(0, .sv (.c (cS s))), (4, .sv (.c (cP s.es[i]))), (5, .sv (.v (int k))), (6, .sv (.c (cS s))), (7, .sv (.v (int s.es.length))), (8, .sv (.v (int i)))], asl [], []⟩) (fun k => some (resB (allUp (fun k => !decide (0 < degGo k (-1) s.es[i].es)) k (3 - k) && (sysGo s.es.length ((pS s).drop (i + 1)) && inR s.es.length 1 3)))) (fun k => 3 - k) (fun _ => True) ?_ s.es.length trivial (by omega) |> Eq.trans <| ?_
      · intro k _ K2 hK2
        by_cases hk : k < 3
        · have hk' : (k : Int) < 3 := by omega
          rw [allUp_step hk]
          by_cases h2 : 0 < degGo k (-1) s.es[i].es
          · simp -implicitDefEqProofs [l1_spec_poSystem, hk, hk', L_poDegreeIn, h2]
          · simp -implicitDefEqProofs [l1_spec_poSystem, hk, hk', L_poDegreeIn, h2, wrap_suc (show k < 9223372036854775807 by omega)]
            exact (hK2 (k + 1) trivial (by omega)).trans (by simp)
        · have hk' : ¬ ((k : Int) < 3) := by omega
          rw [allUp_end hk]
          simp -implicitDefEqProofs [l1_spec_poSystem, hk, hk', wrap_suc (show i < 9223372036854775807 by omega)]
          exact (hK (i + 1) (by omega) (by omega)).trans (by simp)
      · simp [degOk, Bool.and_assoc]
  · have hd : (pS s).drop i = [] := drop_end (by rw [hlen]; exact hlt)
    rw [hd]
    simp -implicitDefEqProofs [l2_spec_poSystem, hlt, sysGo, L_l1In]
theorem L_dyPower (k : Nat) (h : k ≤ 8) : L (prog hand) n_spec_dyPower [argI k] = some (resI (2 ^ k)) := by
  refine L_body (b := b_spec_dyPower) rfl rfl 0 ?_
  intro fuel _
  have h8 : k = 0 ∨ k = 1 ∨ k = 2 ∨ k = 3 ∨ k = 4 ∨ k = 5 ∨ k = 6 ∨ k = 7 ∨ k = 8 := by omega
  have hw : IntKind.u64.wrap (k : Int) = (k : Int) := by rcases h8 with rfl | rfl | rfl | rfl | rfl | rfl | rfl | rfl | rfl <;> decide
  have hp : IntKind.i64.wrap (2 ^ min k IntKind.i64.bits) = 2 ^ k := by rcases h8 with rfl | rfl | rfl | rfl | rfl | rfl | rfl | rfl | rfl <;> decide
  have hn : ¬ ((k : Int) < 0) := by omega
  simp -implicitDefEqProofs [b_spec_dyPower, hw, hn, hp]
theorem pow_le {k : Nat} (h : k ≤ 8) : 1 ≤ (2 : Int) ^ k ∧ (2 : Int) ^ k ≤ 256 := by
  have h8 : k = 0 ∨ k = 1 ∨ k = 2 ∨ k = 3 ∨ k = 4 ∨ k = 5 ∨ k = 6 ∨ k = 7 ∨ k = 8 := by omega
  rcases h8 with rfl | rfl | rfl | rfl | rfl | rfl | rfl | rfl | rfl <;> decide
def par (n : Int) : Bool := n.tmod 2 != 0
def sidesGo (most : Int) : Bool → List Int → List Int → Bool
  | odd, [], _ => odd
  | odd, _ :: _, [] => odd
  | odd, x :: xs, y :: ys => inR x (-most) most && (inR y (-most) most && (decide (x < y) && sidesGo most (odd || (par x || par y)) xs ys))
def boxOk (b : PBox) : Bool := inR b.k 0 8 && (inR b.low.length 1 3 && (decide (b.high.length = b.low.length) && sidesGo (8 * 2 ^ b.k.toNat) (decide (b.k = 0)) b.low b.high))
theorem L_bxGood (b : BoxV) : L (prog hand) n_spec_bxGood [argB b] = some (resB (boxOk (pB b))) := by
  have hok := b.low.ok
  refine L_body (b := b_spec_bxGood) rfl rfl b.low.es.length ?_
  intro fuel hfuel
  cases h1 : inR b.k 0 8
  · simp -implicitDefEqProofs [b_spec_bxGood, boxOk, pB, L_l1In, h1]
  cases h2 : inR b.low.es.length 1 3
  · simp -implicitDefEqProofs [b_spec_bxGood, boxOk, pB, L_l1In, h1, h2]
  by_cases h3 : ¬ (b.high.es.length = b.low.es.length)
  · simp -implicitDefEqProofs [b_spec_bxGood, boxOk, pB, L_l1In, h1, h2, h3]
  have h3 : b.high.es.length = b.low.es.length := Decidable.not_not.1 h3
  have hk := inR_true h1
  obtain ⟨n, hn⟩ : ∃ n : Nat, b.k = n := ⟨b.k.toNat, by omega⟩
  have hn8 : n ≤ 8 := by omega
  obtain ⟨p1, p2⟩ := pow_le hn8
  have hw := wrap64 (n := 8 * 2 ^ n) (by omega) (by omega)
  have hbo : boxOk (pB b) = sidesGo (8 * 2 ^ n) (decide (n = 0)) b.low.es b.high.es := by
    have h0 : ((n : Int) = 0) = (n = 0) := by rw [eq_iff_iff]; omega
    simp [boxOk, pB, h1, h2, h3, hn]
    rw [hn] at h1
    simp [h1]
  rw [hbo]
  rw [hn] at h1
  simp -implicitDefEqProofs [b_spec_bxGood, L_l1In, h1, h2, h3, hn, L_dyPower _ hn8, hw]
  obtain ⟨M, hM⟩ : ∃ M : Int, M = 8 * 2 ^ n := ⟨_, rfl⟩
  rw [← hM]
  rw [← hM] at hw
  have hz : ((n : Int) == 0) = decide (n = 0) := by rw [Bool.eq_iff_iff]; simp
  rw [hz]
  have m1 : 8 ≤ M := by omega
  have m2 : M ≤ 2048 := by omega
  clear hbo hM hw hz
  generalize decide (n = 0) = odd0
  rw [K_start (fr' := ⟨asl [(1, .sv (.pb 1000000 0)), (3, .sv (.v (int M))), (4, .sv (.v (.bool odd0))), (36, .sv (.c (cI b.low))), (37, .sv (.v (int b.low.es.length))), (38, .sv (.v (int (0 : Nat))))], asl [(1000000, .box [.c (.val (int n)), .c (cI b.low), .c (cI b.high)])], []⟩) (by simp)]
  refine K_loop (fun (s : Nat × Bool) => ⟨asl [(1, .sv (.pb 1000000 0)), (3, .sv (.v (int M))), (4, .sv (.v (.bool s.2))), (36, .sv (.c (cI b.low))), (37, .sv (.v (int b.low.es.length))), (38, .sv (.v (int s.1)))], asl [(1000000, .box [.c (.val (int n)), .c (cI b.low), .c (cI b.high)])], []⟩) (fun s => some (resB (sidesGo M s.2 (b.low.es.drop s.1) (b.high.es.drop s.1)))) (fun s => b.low.es.length - s.1) (fun s => s.1 ≤ b.low.es.length) ?_ (0, odd0) (by simp) (by simpa using hfuel)
  rintro ⟨i, odd⟩ hi K hK
  simp only at hi
  have hneg : IntKind.i64.wrap (-M) = -M := wrap64 (by omega) (by omega)
  by_cases hlt : i < b.low.es.length
  · have hlt2 : i < b.high.es.length := by omega
    have hws := wrap_suc (show i < 9223372036854775807 by omega)
    rw [drop_cons hlt, drop_cons hlt2]
    cases c1 : inR b.low.es[i] (-M) M
    · simp -implicitDefEqProofs [l1_spec_bxGood, hlt, hlt2, L_l1In, hneg, c1, sidesGo]
    cases c2 : inR b.high.es[i] (-M) M
    · simp -implicitDefEqProofs [l1_spec_bxGood, hlt, hlt2, L_l1In, hneg, c1, c2, sidesGo]
    by_cases c3 : ¬ (b.low.es[i] < b.high.es[i])
    · have c3' : b.high.es[i] ≤ b.low.es[i] := by omega
      simp -implicitDefEqProofs [l1_spec_bxGood, hlt, hlt2, L_l1In, hneg, c1, c2, c3, c3', sidesGo]
    have c3 : b.low.es[i] < b.high.es[i] := Decidable.not_not.1 c3
    have c3' : ¬ (b.high.es[i] ≤ b.low.es[i]) := by omega
    have hgo := hK (i + 1, odd || (par b.low.es[i] || par b.high.es[i])) (by simp; omega) (by simp; omega)
    rw [sidesGo, c1, c2]
    simp only [decide_eq_true c3, Bool.true_and]
    rw [← hgo]
    cases odd
    · cases q1 : par b.low.es[i]
      · cases q2 : par b.high.es[i]
        · simp only [par] at q1 q2
          simp -implicitDefEqProofs [l1_spec_bxGood, hlt, hlt2, L_l1In, hneg, c1, c2, c3, c3', hws, q1, q2]
        · simp only [par] at q1 q2
          simp -implicitDefEqProofs [l1_spec_bxGood, hlt, hlt2, L_l1In, hneg, c1, c2, c3, c3', hws, q1, q2]
      · simp only [par] at q1
        simp -implicitDefEqProofs [l1_spec_bxGood, hlt, hlt2, L_l1In, hneg, c1, c2, c3, c3', hws, q1]
    · simp -implicitDefEqProofs [l1_spec_bxGood, hlt, hlt2, L_l1In, hneg, c1, c2, c3, c3', hws]
  · have hlt2 : ¬ i < b.high.es.length := by omega
    rw [drop_end hlt, drop_end hlt2]
    simp -implicitDefEqProofs [l1_spec_bxGood, hlt, sidesGo]
end Go.Proofs.YtecmolmlojehgaaGreat.T
namespace Go.Proofs.YtecmolmlojehgaaGreat.T
open Go
variable {hand : Call}
set_option maxHeartbeats 2000000
attribute [-simp] List.getElem_cons_drop List.map_drop
structure QEntry where
  name : ByteArray
  system : List (List TermV)
  box : PBox
  least : Int
  most : Int
  version : Int
def qE (e : EntryV) : QEntry := ⟨e.name, pS e.system, pB e.box, e.least, e.most, e.version⟩
def bothOk (s : List (List TermV)) (b : PBox) : Bool := sysOk s && (boxOk b && decide (s.length = b.low.length))
def entryOk (e : QEntry) : Bool := nameOk e.name && (bothOk e.system e.box && (inR e.most 0 64 && (inR e.least 0 e.most && inR e.version 1 999)))
def lessN (a b : ByteArray) : Bool := Op.bytesLess a.toList b.toList
def catGo : Option ByteArray → List QEntry → Bool
  | _, [] => true
  | none, e :: r => entryOk e && catGo (some e.name) r
  | some n, e :: r => entryOk e && (lessN n e.name && catGo (some e.name) r)
def catOk (l : List QEntry) : Bool := catGo none l && decide (l.length ≤ 10)
def qL (l : Entries) : List QEntry := l.es.map qE
theorem L_vaBoth (s : Sys) (b : BoxV) : L (prog hand) n_spec_vaBoth [arg (cS s), argB b] = some (resB (bothOk (pS s) (pB b))) := by
  refine L_body (b := b_spec_vaBoth) rfl rfl 0 ?_
  intro fuel _
  have e1 : (pS s).length = s.es.length := by simp [pS]
  have e2 : (pB b).low.length = b.low.es.length := rfl
  rw [bothOk, e1, e2]
  cases h1 : sysOk (pS s)
  · simp -implicitDefEqProofs [b_spec_vaBoth, L_poSystem, h1]
  cases h2 : boxOk (pB b)
  · simp -implicitDefEqProofs [b_spec_vaBoth, L_poSystem, L_bxGood, h1, h2]
  simp -implicitDefEqProofs [b_spec_vaBoth, L_poSystem, L_bxGood, h1, h2]
  by_cases h3 : s.es.length = b.low.es.length <;> simp [h3]
theorem L_caEntry (e : EntryV) : L (prog hand) n_spec_caEntry [argE e] = some (resB (entryOk (qE e))) := by
  refine L_body (b := b_spec_caEntry) rfl rfl 0 ?_
  intro fuel _
  have e0 : entryOk (qE e) = (nameOk e.name && (bothOk (pS e.system) (pB e.box) && (inR e.most 0 64 && (inR e.least 0 e.most && inR e.version 1 999)))) := rfl
  rw [e0]
  cases h1 : nameOk e.name
  · simp -implicitDefEqProofs [b_spec_caEntry, L_caName _ e.nok, h1]
  cases h2 : bothOk (pS e.system) (pB e.box)
  · simp -implicitDefEqProofs [b_spec_caEntry, L_caName _ e.nok, L_vaBoth, h1, h2]
  cases h3 : inR e.most 0 64
  · simp -implicitDefEqProofs [b_spec_caEntry, L_caName _ e.nok, L_vaBoth, L_l1In, h1, h2, h3]
  cases h4 : inR e.least 0 e.most
  · simp -implicitDefEqProofs [b_spec_caEntry, L_caName _ e.nok, L_vaBoth, L_l1In, h1, h2, h3, h4]
  simp -implicitDefEqProofs [b_spec_caEntry, L_caName _ e.nok, L_vaBoth, L_l1In, h1, h2, h3, h4]
def nameAt (l : Entries) : Nat → Option ByteArray
  | 0 => none
  | i + 1 => (l.es[i]?).map (·.name)
theorem L_caGood (l : Entries) : L (prog hand) n_spec_caGood [arg (cE l)] = some (resB (catOk (qL l))) := by
  have hok := l.ok
  have hlen : (qL l).length = l.es.length := by simp [qL]
  refine L_body (b := b_spec_caGood) rfl rfl l.es.length ?_
  intro fuel hfuel
  rw [catOk, hlen]
  simp -implicitDefEqProofs [b_spec_caGood]
  refine K_loop (fun (i : Nat) => ⟨asl [(0, .sv (.c (cE l))), (5, .sv (.c (cE l))), (6, .sv (.v (int l.es.length))), (7, .sv (.v (int i)))], asl [], []⟩) (fun i => some (resB (catGo (nameAt l i) ((qL l).drop i) && decide (l.es.length ≤ 10)))) (fun i => l.es.length - i) (fun i => i ≤ l.es.length) ?_ 0 (by simp) (by omega)
  intro i hi k hk
  by_cases hlt : i < l.es.length
  · have hk' := hk (i + 1) (by omega) (by omega)
    have hnext : nameAt l (i + 1) = some l.es[i].name := by simp [nameAt, hlt]
    have hd : (qL l).drop i = qE l.es[i] :: (qL l).drop (i + 1) := by
      rw [drop_cons (by rw [hlen]; exact hlt)]
      simp [qL]
    rw [hnext] at hk'
    rw [hd]
    have hqn : (qE l.es[i]).name = l.es[i].name := rfl
    have hws := wrap_suc (show i < 9223372036854775807 by omega)
    by_cases hi0 : i = 0
    · have hz : ¬ (0 < i) := by omega
      have hp0 : nameAt l i = none := by rw [hi0]; rfl
      rw [hp0]
      cases h1 : entryOk (qE l.es[i])
      · simp -implicitDefEqProofs [l1_spec_caGood, hlt, L_caEntry, h1, catGo]
      · simp -implicitDefEqProofs [l1_spec_caGood, hlt, L_caEntry, h1, catGo, hz, hws]
        exact hk'
    · have hz : 0 < i := by omega
      have hj : i - 1 < l.es.length := by omega
      have hp0 : nameAt l i = some l.es[i - 1].name := by
        obtain ⟨j, rfl⟩ : ∃ j, i = j + 1 := ⟨i - 1, by omega⟩
        simp [nameAt, show j < l.es.length by omega]
      rw [hp0]
      have hw := wrap64 (n := (i : Int) - 1) (by omega) (by omega)
      have ht : ((i : Int) - 1).toNat = i - 1 := by omega
      have hb0 : (0 : Int) ≤ (i : Int) - 1 := by omega
      have hb1 : (i : Int) - 1 < (l.es.length : Int) := by omega
      have hb2 : (1 : Int) ≤ (i : Int) := by omega
      have hb3 : 1 ≤ i := by omega
      cases h1 : entryOk (qE l.es[i])
      · simp -implicitDefEqProofs [l1_spec_caGood, hlt, L_caEntry, h1, catGo]
      · cases h3 : lessN l.es[i - 1].name l.es[i].name
        · have h3' : Op.bytesLess l.es[i - 1].name.toList l.es[i].name.toList = false := h3
          simp -implicitDefEqProofs [l1_spec_caGood, hlt, L_caEntry, h1, catGo, hw, hz, hj, ht, hb0, hb1, hb2, hb3, hqn, h3, h3', hws]
        · have h3' : Op.bytesLess l.es[i - 1].name.toList l.es[i].name.toList = true := h3
          simp -implicitDefEqProofs [l1_spec_caGood, hlt, L_caEntry, h1, catGo, hw, hz, hj, ht, hb0, hb1, hb2, hb3, hqn, h3, h3', hws]
          exact hk'
  · have hd : (qL l).drop i = [] := drop_end (by rw [hlen]; exact hlt)
    rw [hd]
    have hg : catGo (nameAt l i) [] = true := by cases nameAt l i <;> rfl
    have hc : ((l.es.length : Int) ≤ 10) = (l.es.length ≤ 10) := by rw [eq_iff_iff]; omega
    simp -implicitDefEqProofs [l1_spec_caGood, hlt, hg, hc]
end Go.Proofs.YtecmolmlojehgaaGreat.T
namespace Go.Proofs.YtecmolmlojehgaaGreat.T
open Go
variable {hand : Call}
set_option maxHeartbeats 2000000
attribute [-simp] List.getElem_cons_drop List.map_drop
theorem L_isNaN (n : Int) : L (prog hand) n_cmp_isNaN_int [argI n] = some (resB false) := by
  refine L_body (b := b_cmp_isNaN_int) rfl rfl 0 ?_
  intro fuel _
  simp -implicitDefEqProofs [b_cmp_isNaN_int]
theorem L_cmpCompare (a b : Int) : L (prog hand) n_cmp_Compare_int [argI a, argI b] = some (resI (sgn (a - b))) := by
  refine L_body (b := b_cmp_Compare_int) rfl rfl 0 ?_
  intro fuel _
  by_cases h1 : a < b
  · have e : sgn (a - b) = -1 := by unfold sgn; rw [if_neg (by omega), if_pos (by omega)]
    simp -implicitDefEqProofs [b_cmp_Compare_int, L_isNaN, h1, e]
  · by_cases h2 : b < a
    · have e : sgn (a - b) = 1 := by unfold sgn; rw [if_pos (by omega)]
      simp -implicitDefEqProofs [b_cmp_Compare_int, L_isNaN, h1, h2, e]
    · have e : sgn (a - b) = 0 := by unfold sgn; rw [if_neg (by omega), if_neg (by omega)]
      simp -implicitDefEqProofs [b_cmp_Compare_int, L_isNaN, h1, h2, e]
def orL : List Int → Int
  | [] => 0
  | x :: r => if x ≠ 0 then x else orL r
theorem L_cmpOr (l : List Int) (hl : l.length ≤ 1000000) : L (prog hand) n_cmp_Or_int [arg (.fl 1 (l.map eI) [])] = some (resI (orL l)) := by
  refine L_body (b := b_cmp_Or_int) rfl rfl l.length ?_
  intro fuel hfuel
  simp -implicitDefEqProofs [b_cmp_Or_int]
  refine K_loop (fun (i : Nat) => ⟨asl [(3, .sv (.v (int 0))), (6, .sv (.c (.fl 1 (l.map eI) []))), (7, .sv (.v (int l.length))), (8, .sv (.v (int i)))], asl [], []⟩) (fun i => some (resI (orL (l.drop i)))) (fun i => l.length - i) (fun i => i ≤ l.length) ?_ 0 (by simp) (by omega)
  intro i hi k hk
  by_cases hlt : i < l.length
  · rw [drop_cons hlt]
    by_cases h : l[i] = 0
    · simp -implicitDefEqProofs [l1_cmp_Or_int, hlt, h, orL, wrap_suc (show i < 9223372036854775807 by omega)]
      exact hk (i + 1) (by omega) (by omega)
    · simp -implicitDefEqProofs [l1_cmp_Or_int, hlt, h, orL]
  · rw [drop_end hlt]
    simp -implicitDefEqProofs [l1_cmp_Or_int, hlt, orL]
theorem sgn_zero {n : Int} : sgn n = 0 ↔ n = 0 := by unfold sgn; split <;> (try split) <;> omega
theorem L_compareTerms (a b : TermV) : L (prog hand) n_impl_compareTerms [argT a, argT b] = some (resI (cmp3 a b)) := by
  refine L_body (b := b_impl_compareTerms) rfl rfl 0 ?_
  intro fuel _
  have e : orL [sgn (a.x - b.x), sgn (a.y - b.y), sgn (a.z - b.z)] = cmp3 a b := by
    unfold cmp3
    simp only [orL, ne_eq, sgn_zero, Int.sub_eq_zero]
    repeat' split
    all_goals first | rfl | (symm; rw [sgn_zero]; omega)
  have hO := L_cmpOr (hand := hand) [sgn (a.x - b.x), sgn (a.y - b.y), sgn (a.z - b.z)] (by simp)
  rw [e] at hO
  simp only [List.map_cons, List.map_nil] at hO
  simp -implicitDefEqProofs [b_impl_compareTerms, L_cmpCompare, hO]
theorem L_degree (t : TermV) (hx : inR t.x 0 4 = true) (hy : inR t.y 0 4 = true) (hz : inR t.z 0 4 = true) : L (prog hand) n_impl_Term_degree [argT t] = some (resI (t.x + t.y + t.z)) := by
  refine L_body (b := b_impl_Term_degree) rfl rfl 0 ?_
  intro fuel _
  have a2 := inR_true hx
  have a3 := inR_true hy
  have a4 := inR_true hz
  have w1 := wrap64 (n := t.x + t.y) (by omega) (by omega)
  have w2 := wrap64 (n := t.x + t.y + t.z) (by omega) (by omega)
  simp -implicitDefEqProofs [b_impl_Term_degree, w1, w2]
def degB (t : TermV) : Bool := inR t.x 0 4 && (inR t.y 0 4 && (inR t.z 0 4 && decide (t.x + t.y + t.z ≤ 4)))
theorem L_hasDegree (t : TermV) : L (prog hand) n_impl_hasDegree [argT t] = some (resB (degB t)) := by
  refine L_body (b := b_impl_hasDegree) rfl rfl 0 ?_
  intro fuel _
  cases h2 : inR t.x 0 4
  · simp -implicitDefEqProofs [b_impl_hasDegree, degB, L_inside, h2]
  cases h3 : inR t.y 0 4
  · simp -implicitDefEqProofs [b_impl_hasDegree, degB, L_inside, h2, h3]
  cases h4 : inR t.z 0 4
  · simp -implicitDefEqProofs [b_impl_hasDegree, degB, L_inside, h2, h3, h4]
  have hd := L_degree (hand := hand) t h2 h3 h4
  simp -implicitDefEqProofs [b_impl_hasDegree, degB, L_inside, h2, h3, h4, hd]
theorem termOk_eq (t : TermV) : termOk t = (inR t.c (-1000) 1000 && degB t) := rfl
theorem L_isPoly (p : Poly) : L (prog hand) n_impl_isPoly [arg (cP p)] = some (resB (polyOk p.es)) := by
  have hok := p.ok
  refine L_body (b := b_impl_isPoly) rfl rfl p.es.length ?_
  intro fuel hfuel
  simp -implicitDefEqProofs [b_impl_isPoly]
  refine K_loop (fun (i : Nat) => ⟨asl [(0, .sv (.c (cP p))), (5, .sv (.c (cP p))), (6, .sv (.v (int p.es.length))), (7, .sv (.v (int i)))], asl [], []⟩) (fun i => some (resB (polyGo (prevAt p.es i) (p.es.drop i) && decide (p.es.length ≤ 20)))) (fun i => p.es.length - i) (fun i => i ≤ p.es.length) ?_ 0 (by simp) (by omega)
  intro i hi k hk
  by_cases hlt : i < p.es.length
  · have hk' := hk (i + 1) (by omega) (by omega)
    have hnext : prevAt p.es (i + 1) = some p.es[i] := by simp [prevAt, hlt]
    rw [hnext] at hk'
    rw [drop_cons hlt]
    have hws := wrap_suc (show i < 9223372036854775807 by omega)
    by_cases h2 : p.es[i].c = 0
    · have hg : polyGo (prevAt p.es i) (p.es[i] :: p.es.drop (i + 1)) = false := by cases prevAt p.es i <;> simp [polyGo, h2]
      simp -implicitDefEqProofs [l1_impl_isPoly, hlt, h2, hg]
    cases h1 : inR p.es[i].c (-1000) 1000
    · have hg : polyGo (prevAt p.es i) (p.es[i] :: p.es.drop (i + 1)) = false := by cases prevAt p.es i <;> simp [polyGo, termOk_eq, h1]
      simp -implicitDefEqProofs [l1_impl_isPoly, hlt, h2, L_inside, h1, hg]
    cases h3 : degB p.es[i]
    · have hg : polyGo (prevAt p.es i) (p.es[i] :: p.es.drop (i + 1)) = false := by cases prevAt p.es i <;> simp [polyGo, termOk_eq, h1, h3]
      simp -implicitDefEqProofs [l1_impl_isPoly, hlt, h2, L_inside, L_hasDegree, h1, h3, hg]
    by_cases hi0 : i = 0
    · have hz : ¬ (0 < i) := by omega
      have hp0 : prevAt p.es i = none := by rw [hi0]; rfl
      rw [hp0]
      have hg : polyGo none (p.es[i] :: p.es.drop (i + 1)) = polyGo (some p.es[i]) (p.es.drop (i + 1)) := by simp [polyGo, termOk_eq, h1, h2, h3]
      simp -implicitDefEqProofs [l1_impl_isPoly, hlt, h2, L_inside, L_hasDegree, h1, h3, hg, hz, hws]
      exact hk'
    · have hz : 0 < i := by omega
      have hj : i - 1 < p.es.length := by omega
      have hp0 : prevAt p.es i = some p.es[i - 1] := by
        obtain ⟨j, rfl⟩ : ∃ j, i = j + 1 := ⟨i - 1, by omega⟩
        simp [prevAt, show j < p.es.length by omega]
      rw [hp0]
      have hw := wrap64 (n := (i : Int) - 1) (by omega) (by omega)
      have ht : ((i : Int) - 1).toNat = i - 1 := by omega
      have hb0 : (0 : Int) ≤ (i : Int) - 1 := by omega
      have hb1 : (i : Int) - 1 < (p.es.length : Int) := by omega
      have hb2 : (1 : Int) ≤ (i : Int) := by omega
      have hb3 : 1 ≤ i := by omega
      by_cases h4 : cmp3 p.es[i - 1] p.es[i] < 0
      · have h4' : ¬ (0 ≤ cmp3 p.es[i - 1] p.es[i]) := by omega
        have hg : polyGo (some p.es[i - 1]) (p.es[i] :: p.es.drop (i + 1)) = polyGo (some p.es[i]) (p.es.drop (i + 1)) := by simp [polyGo, termOk_eq, h1, h2, h3, h4]
        simp -implicitDefEqProofs [l1_impl_isPoly, hlt, h2, L_inside, L_hasDegree, L_compareTerms, h1, h3, hg, hz, hj, hw, ht, hb0, hb1, hb2, hb3, h4, h4', hws]
        exact hk'
      · have h4' : 0 ≤ cmp3 p.es[i - 1] p.es[i] := by omega
        have hg : polyGo (some p.es[i - 1]) (p.es[i] :: p.es.drop (i + 1)) = false := by simp [polyGo, h4]
        simp -implicitDefEqProofs [l1_impl_isPoly, hlt, h2, L_inside, L_hasDegree, L_compareTerms, h1, h3, hg, hz, hj, hw, ht, hb0, hb1, hb2, hb3, h4, h4']
  · rw [drop_end hlt]
    have hg : polyGo (prevAt p.es i) [] = true := by cases prevAt p.es i <;> rfl
    have hc : ((p.es.length : Int) ≤ 20) = (p.es.length ≤ 20) := by rw [eq_iff_iff]; omega
    simp -implicitDefEqProofs [l1_impl_isPoly, hlt, hg, hc]
end Go.Proofs.YtecmolmlojehgaaGreat.T
namespace Go.Proofs.YtecmolmlojehgaaGreat.T
open Go
variable {hand : Call}
set_option maxHeartbeats 2000000
attribute [-simp] List.getElem_cons_drop List.map_drop
theorem L_exponents (t : TermV) : L (prog hand) n_impl_Term_exponents [argT t] = some ⟨[.agg [.mk .imm (.val (int t.x)), .mk .imm (.val (int t.y)), .mk .imm (.val (int t.z))]], []⟩ := by
  refine L_body (b := b_impl_Term_exponents) rfl rfl 0 ?_
  intro fuel _
  simp -implicitDefEqProofs [b_impl_Term_exponents]
def expOk (t : TermV) (n k : Nat) : Bool := !(decide (n ≤ k) && decide (0 < pow t k))
def needs (n : Nat) : List TermV → Bool
  | [] => true
  | t :: r => expOk t n 0 && (expOk t n 1 && (expOk t n 2 && needs n r))
theorem L_needsAtMost (p : Poly) (n : Nat) : L (prog hand) n_impl_needsAtMost [arg (cP p), argI n] = some (resB (needs n p.es)) := by
  have hok := p.ok
  refine L_body (b := b_impl_needsAtMost) rfl rfl (p.es.length + 4) ?_
  intro fuel hfuel
  simp -implicitDefEqProofs [b_impl_needsAtMost]
  refine K_loop (fun (i : Nat) => ⟨asl [(1, .sv (.v (int n))), (9, .sv (.c (cP p))), (10, .sv (.v (int p.es.length))), (11, .sv (.v (int i)))], asl [], []⟩) (fun i => some (resB (needs n (p.es.drop i)))) (fun i => p.es.length - i) (fun i => i ≤ p.es.length) ?_ 0 (by simp) (by omega)
  intro i hi k hk
  by_cases hlt : i < p.es.length
  · rw [drop_cons hlt]
    have hws := wrap_suc (show i < 9223372036854775807 by omega)
    have hgo := hk (i + 1) (by omega) (by omega)
    have w1 : IntKind.i64.wrap 1 = 1 := by decide
    have w2 : IntKind.i64.wrap 2 = 2 := by decide
    have w3 : IntKind.i64.wrap 3 = 3 := by decide
    simp -implicitDefEqProofs [l2_impl_needsAtMost, hlt, L_exponents]
    obtain ⟨G, hG⟩ : ∃ G : Nat → Option Res, G = fun j => some (resB (if j = 0 then expOk p.es[i] n 0 && (expOk p.es[i] n 1 && (expOk p.es[i] n 2 && needs n (p.es.drop (i + 1)))) else if j = 1 then expOk p.es[i] n 1 && (expOk p.es[i] n 2 && needs n (p.es.drop (i + 1))) else if j = 2 then expOk p.es[i] n 2 && needs n (p.es.drop (i + 1)) else needs n (p.es.drop (i + 1)))) := ⟨_, rfl⟩
    have hG3 : G 3 = some (resB (needs n (p.es.drop (i + 1)))) := by rw [hG]; rfl
    have hG0 : G 0 = some (resB (needs n (p.es[i] :: p.es.drop (i + 1)))) := by rw [hG]; rfl
    refine (K_loop (fun (j : Nat) => ⟨asl [(1, .sv (.v (int n))), (9, .sv (.c (cP p))), (10, .sv (.v (int p.es.length))), (11, .sv (.v (int i))), (16, .v (.agg [.c (.val (int p.es[i].x)), .c (.val (int p.es[i].y)), .c (.val (int p.es[i].z))])), (17, .sv (.v (int j)))], asl [], []⟩) G (fun j => 3 - j) (fun j => j ≤ 3) ?_ 0 (by omega) (by omega)).trans ?_
    · intro j hj K2 hK2
      have h4 : j = 0 ∨ j = 1 ∨ j = 2 ∨ j = 3 := by omega
      rcases h4 with rfl | rfl | rfl | rfl
      · have hK := hK2 1 (by omega) (by omega)
        by_cases a1 : n ≤ 0
        · have a1z : (n : Int) ≤ 0 := by omega
          have a1y : n = 0 := by omega
          by_cases a2 : 0 < p.es[i].x
          · have g : G 0 = some (resB false) := by rw [hG]; simp [expOk, pow, a1, a2, a1y]
            rw [g]
            simp -implicitDefEqProofs [l1_impl_needsAtMost, a1, a1z, a2, a1y]
          · have g : G 0 = G 1 := by rw [hG]; simp [expOk, pow, a1, a2]
            rw [g, ← hK]
            simp -implicitDefEqProofs [l1_impl_needsAtMost, a1, a1z, a2, w1, a1y]
        · have a1z : ¬ ((n : Int) ≤ 0) := by omega
          have a1y : ¬ (n = 0) := by omega
          have g : G 0 = G 1 := by rw [hG]; simp [expOk, pow, a1, a1y]
          rw [g, ← hK]
          simp -implicitDefEqProofs [l1_impl_needsAtMost, a1, a1z, w1, a1y]
      · have hK := hK2 2 (by omega) (by omega)
        by_cases a1 : n ≤ 1
        · have a1z : (n : Int) ≤ 1 := by omega
          skip
          by_cases a2 : 0 < p.es[i].y
          · have g : G 1 = some (resB false) := by rw [hG]; simp [expOk, pow, a1, a2]
            rw [g]
            simp -implicitDefEqProofs [l1_impl_needsAtMost, a1, a1z, a2]
          · have g : G 1 = G 2 := by rw [hG]; simp [expOk, pow, a1, a2]
            rw [g, ← hK]
            simp -implicitDefEqProofs [l1_impl_needsAtMost, a1, a1z, a2, w2]
        · have a1z : ¬ ((n : Int) ≤ 1) := by omega
          skip
          have g : G 1 = G 2 := by rw [hG]; simp [expOk, pow, a1]
          rw [g, ← hK]
          simp -implicitDefEqProofs [l1_impl_needsAtMost, a1, a1z, w2]
      · have hK := hK2 3 (by omega) (by omega)
        by_cases a1 : n ≤ 2
        · have a1z : (n : Int) ≤ 2 := by omega
          skip
          by_cases a2 : 0 < p.es[i].z
          · have g : G 2 = some (resB false) := by rw [hG]; simp [expOk, pow, a1, a2]
            rw [g]
            simp -implicitDefEqProofs [l1_impl_needsAtMost, a1, a1z, a2]
          · have g : G 2 = G 3 := by rw [hG]; simp [expOk, pow, a1, a2]
            rw [g, ← hK]
            simp -implicitDefEqProofs [l1_impl_needsAtMost, a1, a1z, a2, w3]
        · have a1z : ¬ ((n : Int) ≤ 2) := by omega
          skip
          have g : G 2 = G 3 := by rw [hG]; simp [expOk, pow, a1]
          rw [g, ← hK]
          simp -implicitDefEqProofs [l1_impl_needsAtMost, a1, a1z, w3]
      · rw [hG3, ← hgo]
        simp -implicitDefEqProofs [l1_impl_needsAtMost, hws]
    · exact hG0
  · rw [drop_end hlt]
    simp -implicitDefEqProofs [l2_impl_needsAtMost, hlt, needs]
end Go.Proofs.YtecmolmlojehgaaGreat.T
namespace Go.Proofs.YtecmolmlojehgaaGreat.T
open Go
variable {hand : Call}
set_option maxHeartbeats 2000000
attribute [-simp] List.getElem_cons_drop List.map_drop
theorem allUp_iff {f : Nat → Bool} : ∀ {m i : Nat}, allUp f i m = true ↔ ∀ k, i ≤ k → k < i + m → f k = true
  | 0, i => by simp only [allUp, true_iff]; intro k h1 h2; omega
  | m + 1, i => by
    simp only [allUp, Bool.and_eq_true, allUp_iff (m := m)]
    constructor
    · rintro ⟨h1, h2⟩ k hk hk2
      by_cases e : k = i
      · subst e; exact h1
      · exact h2 k (by omega) (by omega)
    · intro h
      exact ⟨h i (by omega) (by omega), fun k h1 h2 => h k (by omega) (by omega)⟩
theorem degGo_pos {k : Nat} : ∀ {p : List TermV} {m : Int}, 0 < degGo k m p ↔ 0 < m ∨ ∃ t ∈ p, 0 < pow t k
  | [], m => by simp [degGo]
  | t :: r, m => by
    rw [degGo, degGo_pos (p := r)]
    constructor
    · rintro (h | ⟨t', h1, h2⟩)
      · by_cases hm : 0 < m
        · exact Or.inl hm
        · exact Or.inr ⟨t, by simp, by omega⟩
      · exact Or.inr ⟨t', by simp [h1], h2⟩
    · rintro (h | ⟨t', h1, h2⟩)
      · exact Or.inl (by omega)
      · simp only [List.mem_cons] at h1
        rcases h1 with rfl | h1
        · exact Or.inl (by omega)
        · exact Or.inr ⟨t', h1, h2⟩
theorem needs_iff {n : Nat} : ∀ {p : List TermV}, needs n p = true ↔ ∀ t ∈ p, ∀ k, k < 3 → n ≤ k → ¬ 0 < pow t k
  | [] => by simp [needs]
  | t :: r => by
    simp only [needs, Bool.and_eq_true, needs_iff (p := r), List.mem_cons]
    have ex : ∀ k, expOk t n k = true ↔ (n ≤ k → ¬ 0 < pow t k) := by
      intro k
      simp only [expOk, Bool.not_eq_true', Bool.and_eq_false_iff, decide_eq_false_iff_not]
      constructor
      · rintro (h | h) h2
        · exact absurd h2 h
        · exact h
      · intro h
        by_cases h2 : n ≤ k
        · exact Or.inr (h h2)
        · exact Or.inl h2
    simp only [ex]
    constructor
    · rintro ⟨h0, h1, h2, h3⟩ t' (rfl | ht) k hk hn
      · have : k = 0 ∨ k = 1 ∨ k = 2 := by omega
        rcases this with rfl | rfl | rfl
        · exact h0 hn
        · exact h1 hn
        · exact h2 hn
      · exact h3 t' ht k hk hn
    · intro h
      exact ⟨h t (Or.inl rfl) 0 (by omega), h t (Or.inl rfl) 1 (by omega), h t (Or.inl rfl) 2 (by omega), fun t' ht => h t' (Or.inr ht)⟩
theorem needs_deg (n : Nat) (p : List TermV) : needs n p = degOk p n := by
  rw [Bool.eq_iff_iff, needs_iff, degOk, allUp_iff]
  constructor
  · intro h k h1 h2
    simp only [Bool.not_eq_true', decide_eq_false_iff_not, degGo_pos, not_or, not_exists, not_and]
    exact ⟨by omega, fun t ht => h t ht k (by omega) h1⟩
  · intro h t ht k h1 h2
    have := h k h2 (by omega)
    simp only [Bool.not_eq_true', decide_eq_false_iff_not, degGo_pos, not_or, not_exists, not_and] at this
    exact this.2 t ht
theorem L_isSystem (s : Sys) : L (prog hand) n_impl_isSystem [arg (cS s)] = some (resB (sysOk (pS s))) := by
  have hok := s.ok
  have hlen : (pS s).length = s.es.length := by simp [pS]
  refine L_body (b := b_impl_isSystem) rfl rfl s.es.length ?_
  intro fuel hfuel
  rw [sysOk, hlen]
  simp -implicitDefEqProofs [b_impl_isSystem]
  refine K_loop (fun (i : Nat) => ⟨asl [(0, .sv (.c (cS s))), (5, .sv (.c (cS s))), (6, .sv (.v (int s.es.length))), (7, .sv (.v (int i)))], asl [], []⟩) (fun i => some (resB (sysGo s.es.length ((pS s).drop i) && inR s.es.length 1 3))) (fun i => s.es.length - i) (fun i => i ≤ s.es.length) ?_ 0 (by simp) (by omega)
  intro i hi K hK
  by_cases hlt : i < s.es.length
  · have hd : (pS s).drop i = s.es[i].es :: (pS s).drop (i + 1) := by
      rw [drop_cons (by rw [hlen]; exact hlt)]
      simp [pS]
    rw [hd]
    cases h1 : polyOk s.es[i].es
    · simp -implicitDefEqProofs [l1_impl_isSystem, hlt, L_isPoly, h1, sysGo]
    · cases h2 : degOk s.es[i].es s.es.length
      · simp -implicitDefEqProofs [l1_impl_isSystem, hlt, L_isPoly, L_needsAtMost, needs_deg, h1, h2, sysGo]
      · simp -implicitDefEqProofs [l1_impl_isSystem, hlt, L_isPoly, L_needsAtMost, needs_deg, h1, h2, sysGo, wrap_suc (show i < 9223372036854775807 by omega)]
        exact hK (i + 1) (by omega) (by omega)
  · have hd : (pS s).drop i = [] := drop_end (by rw [hlen]; exact hlt)
    rw [hd]
    simp -implicitDefEqProofs [l1_impl_isSystem, hlt, sysGo, L_inside]
theorem inR_next {x y M : Int} (h : inR x (-M) M = true) : (inR y (-M) M && decide (x < y)) = inR y (x + 1) M := by
  have hx := inR_true h
  rw [Bool.eq_iff_iff]
  simp only [inR, Bool.and_eq_true, decide_eq_true_eq]
  constructor
  · rintro ⟨⟨h1, h2⟩, h3⟩; exact ⟨by omega, h2⟩
  · rintro ⟨h1, h2⟩; exact ⟨⟨by omega, h2⟩, by omega⟩
abbrev argPE (e : EntryV) (off : Nat) : Arg := .imm (.s (.pm (eE e) off))
theorem L_isBox (e : EntryV) : L (prog hand) n_impl_isBox [argPE e 2] = some (resB (boxOk (pB e.box))) := by
  have hok := e.box.low.ok
  refine L_body (b := b_impl_isBox) rfl rfl e.box.low.es.length ?_
  intro fuel hfuel
  cases h1 : inR e.box.k 0 8
  · simp -implicitDefEqProofs [b_impl_isBox, boxOk, pB, L_inside, h1]
  cases h2 : inR e.box.low.es.length 1 3
  · simp -implicitDefEqProofs [b_impl_isBox, boxOk, pB, L_inside, h1, h2]
  by_cases h3 : ¬ (e.box.high.es.length = e.box.low.es.length)
  · simp -implicitDefEqProofs [b_impl_isBox, boxOk, pB, L_inside, h1, h2, h3]
  have h3 : e.box.high.es.length = e.box.low.es.length := Decidable.not_not.1 h3
  have hk := inR_true h1
  obtain ⟨n, hn⟩ : ∃ n : Nat, e.box.k = n := ⟨e.box.k.toNat, by omega⟩
  have hn8 : n ≤ 8 := by omega
  obtain ⟨p1, p2⟩ := pow_le hn8
  have h8 : n = 0 ∨ n = 1 ∨ n = 2 ∨ n = 3 ∨ n = 4 ∨ n = 5 ∨ n = 6 ∨ n = 7 ∨ n = 8 := by omega
  have hw : IntKind.i64.wrap (8 * 2 ^ min n IntKind.i64.bits) = 8 * 2 ^ n := by rcases h8 with rfl | rfl | rfl | rfl | rfl | rfl | rfl | rfl | rfl <;> decide
  have hnn : ¬ ((n : Int) < 0) := by omega
  have hbo : boxOk (pB e.box) = sidesGo (8 * 2 ^ n) (decide (n = 0)) e.box.low.es e.box.high.es := by
    have h0 : ((n : Int) = 0) = (n = 0) := by rw [eq_iff_iff]; omega
    simp [boxOk, pB, h1, h2, h3, hn]
    rw [hn] at h1
    simp [h1]
  rw [hbo]
  rw [hn] at h1
  simp -implicitDefEqProofs [b_impl_isBox, L_inside, h1, h2, h3, hn, hw, hnn]
  have hz : ((n : Int) == 0) = decide (n = 0) := by rw [Bool.eq_iff_iff]; simp
  rw [hz]
  have hM : ∃ M : Int, M = 8 * 2 ^ n := ⟨_, rfl⟩
  obtain ⟨M, hM⟩ := hM
  rw [← hM]
  have m1 : 8 ≤ M := by omega
  have m2 : M ≤ 2048 := by omega
  clear hbo hM hw hz
  generalize decide (n = 0) = odd0
  refine K_loop (fun (s : Nat × Bool) => ⟨asl [(0, .sv (.pm (eE e) 2)), (3, .sv (.v (int M))), (4, .sv (.v (.bool s.2))), (48, .sv (.c (cI e.box.low))), (49, .sv (.v (int e.box.low.es.length))), (50, .sv (.v (int s.1)))], asl [], []⟩) (fun s => some (resB (sidesGo M s.2 (e.box.low.es.drop s.1) (e.box.high.es.drop s.1)))) (fun s => e.box.low.es.length - s.1) (fun s => s.1 ≤ e.box.low.es.length) ?_ (0, odd0) (by simp) (by simpa using hfuel)
  rintro ⟨i, odd⟩ hi K hK
  simp only at hi
  have hneg : IntKind.i64.wrap (-M) = -M := wrap64 (by omega) (by omega)
  by_cases hlt : i < e.box.low.es.length
  · have hlt2 : i < e.box.high.es.length := by omega
    have hws := wrap_suc (show i < 9223372036854775807 by omega)
    rw [drop_cons hlt, drop_cons hlt2]
    cases c1 : inR e.box.low.es[i] (-M) M
    · simp -implicitDefEqProofs [l1_impl_isBox, hlt, hlt2, L_inside, hneg, c1, sidesGo]
    have hx := inR_true c1
    have hw1 : IntKind.i64.wrap (e.box.low.es[i] + 1) = e.box.low.es[i] + 1 := wrap64 (by omega) (by omega)
    have hgo := hK (i + 1, odd || (par e.box.low.es[i] || par e.box.high.es[i])) (by simp; omega) (by simp; omega)
    have hs : sidesGo M odd (e.box.low.es[i] :: e.box.low.es.drop (i + 1)) (e.box.high.es[i] :: e.box.high.es.drop (i + 1)) = (inR e.box.high.es[i] (e.box.low.es[i] + 1) M && sidesGo M (odd || (par e.box.low.es[i] || par e.box.high.es[i])) (e.box.low.es.drop (i + 1)) (e.box.high.es.drop (i + 1))) := by
      rw [sidesGo, c1, Bool.true_and, ← inR_next c1, Bool.and_assoc]
    rw [hs]
    cases c2 : inR e.box.high.es[i] (e.box.low.es[i] + 1) M
    · simp -implicitDefEqProofs [l1_impl_isBox, hlt, hlt2, L_inside, hneg, c1, c2, hw1]
    rw [Bool.true_and, ← hgo]
    cases odd
    · cases q1 : par e.box.low.es[i]
      · cases q2 : par e.box.high.es[i]
        · simp only [par] at q1 q2
          simp -implicitDefEqProofs [l1_impl_isBox, hlt, hlt2, L_inside, hneg, c1, c2, hw1, hws, q1, q2]
        · simp only [par] at q1 q2
          simp -implicitDefEqProofs [l1_impl_isBox, hlt, hlt2, L_inside, hneg, c1, c2, hw1, hws, q1, q2]
      · simp only [par] at q1
        simp -implicitDefEqProofs [l1_impl_isBox, hlt, hlt2, L_inside, hneg, c1, c2, hw1, hws, q1]
    · simp -implicitDefEqProofs [l1_impl_isBox, hlt, hlt2, L_inside, hneg, c1, c2, hw1, hws]
  · have hlt2 : ¬ i < e.box.high.es.length := by omega
    rw [drop_end hlt, drop_end hlt2]
    simp -implicitDefEqProofs [l1_impl_isBox, hlt, sidesGo]
end Go.Proofs.YtecmolmlojehgaaGreat.T
