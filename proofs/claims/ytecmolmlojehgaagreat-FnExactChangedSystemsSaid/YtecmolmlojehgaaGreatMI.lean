/- A function gives what its code gives. The whole: what den gives, the Go functions give. -/
import Derived.Test.YtecmolmlojehgaaGreatMH
namespace Go.Proofs.YtecmolmlojehgaaGreat.T
open Go
variable (ids : Nat → FuncId)

theorem takes_app : ∀ (as : List SV) {bs : List SV} {rt0 rt1 rt2 : Rts} {la lb : List (Ow × C)}, takes rt0 as = some (la, rt1) → takes rt1 bs = some (lb, rt2) → takes rt0 (as ++ bs) = some (la ++ lb, rt2) ∧ la.length = as.length
  | [], bs, rt0, rt1, rt2, la, lb, h1, h2 => by
    simp only [takes, Option.some.injEq, Prod.mk.injEq] at h1
    obtain ⟨rfl, rfl⟩ := h1
    exact ⟨h2, rfl⟩
  | a :: as, bs, rt0, rt1, rt2, la, lb, h1, h2 => by
    simp only [takes] at h1
    split at h1
    · rename_i o c rtm hm
      split at h1
      · rename_i l' rtn hn
        simp only [Option.some.injEq, Prod.mk.injEq] at h1
        obtain ⟨rfl, rfl⟩ := h1
        obtain ⟨e1, e2⟩ := takes_app as hn h2
        exact ⟨by simp only [List.cons_append, takes, hm, e1], by simp [e2]⟩
      · cases h1
    · cases h1
section
variable {ids} {P : Program} {w : World} {home : Home} {hd : Lb → Value} {N : Nat} {fr : Fr} {a : Act} {rt rt1 : Rts}
theorem takesR_flat : ∀ {as : List A1} {rt rt1 : Rts} {rs : List RV} {us : List Value}, takesR rt as = some (rs, rt1) → F2 (A1R ids w home hd fr.rt) as us → ∃ xs l fl, takes rt xs = some (l, rt1) ∧ cellsOf rs = l.map (fun q => .mk q.1 q.2) ∧ F2 (SVR w home hd fr.rt) xs fl ∧ Asm rs fl us ∧
    ∀ x ∈ xs, ∀ i ∈ x.ids, ∃ a ∈ as, i ∈ a.ids
  | [], rt, rt1, rs, us, h, hf => by
    simp only [takesR, Option.some.injEq, Prod.mk.injEq] at h
    obtain ⟨rfl, rfl⟩ := h
    have : us = [] := List.eq_nil_of_length_eq_zero (by rw [← hf.1]; rfl)
    subst this
    exact ⟨[], [], [], rfl, rfl, ⟨rfl, fun i x y hx => by simp at hx⟩, ⟨rfl, rfl⟩, fun x hx => by cases hx⟩
  | a :: as, rt, rt1, rs, us, h, hf => by
    cases us with
    | nil => exact absurd hf.1 (by simp)
    | cons u us =>
      simp only [takesR] at h
      split at h
      · rename_i r rtm hm
        split at h
        · rename_i rs' rtn hn
          simp only [Option.some.injEq, Prod.mk.injEq] at h
          obtain ⟨rfl, rfl⟩ := h
          obtain ⟨xs, l, fl, g1, g2, g3, g4, g5⟩ := takesR_flat (us := us) hn ⟨by have := hf.1; simpa using this, fun i x y hx hy => hf.2 (i + 1) x y hx hy⟩
          have h0 := hf.2 0 a u rfl rfl
          have g5' : ∀ x ∈ xs, ∀ i ∈ x.ids, ∃ b ∈ a :: as, i ∈ b.ids := fun x hx i hi => by
            obtain ⟨b, k1, k2⟩ := g5 x hx i hi
            exact ⟨b, List.mem_cons_of_mem _ k1, k2⟩
          cases a with
          | fn f ys => cases hm
          | s s =>
            simp only [take1] at hm
            split at hm
            · rename_i o c rt' ht
              simp only [Option.some.injEq, Prod.mk.injEq] at hm
              obtain ⟨rfl, rfl⟩ := hm
              refine ⟨s :: xs, (o, c) :: l, u :: fl, by simp only [takes, ht, g1], by simp [cellsOf, g2], ⟨by simp [g3.1], fun i x y hx hy => ?_⟩, ⟨u, fl, us, rfl, rfl, g4⟩, fun x hx i hi => ?_⟩
              · cases i with
                | zero => simp at hx hy; subst hx hy; exact h0
                | succ i => exact g3.2 i x y (by simpa using hx) (by simpa using hy)
              · rcases List.mem_cons.1 hx with rfl | hx
                · exact ⟨_, List.mem_cons_self .., hi⟩
                · exact g5' x hx i hi
            · cases hm
          | agg ys =>
            simp only [take1] at hm
            split at hm
            · rename_i l0 rt' ht
              simp only [Option.some.injEq, Prod.mk.injEq] at hm
              obtain ⟨rfl, rfl⟩ := hm
              obtain ⟨vs, e1, e2⟩ := h0
              obtain ⟨k1, k2⟩ := takes_app ys ht g1
              refine ⟨ys ++ xs, l0 ++ l, vs ++ fl, k1, by simp [cellsOf, g2], e2.append g3, ⟨vs, fl, us, rfl, ?_, by rw [e1], g4⟩, fun x hx i hi => ?_⟩
              · rw [List.length_map, k2]; exact e2.1.symm
              · rcases List.mem_append.1 hx with hx | hx
                · exact ⟨_, List.mem_cons_self .., by simp only [A1.ids, List.mem_flatMap]; exact ⟨x, hx, hi⟩⟩
                · exact g5' x hx i hi
            · cases hm
        · cases h
      · cases h
/-- Roots that are no argument's are let go. -/
theorem drop_rel {F : Nat → Option Root} (old : RtR w home hd rt F) {rt' : Rts} (hF : ∀ k r, F k = some r → ∃ d t c, r = .arr d t c) (h : ∀ i r, rt' i = some r → rt i = some r ∧ r ≠ .gone ∧ r.ids = []) : RtR w (keepHome home rt') hd rt' F := by
  have hn : ∀ b, b < w.heap.size → home b = none → w.heap[b]? = w.heap[b]? ∧ keepHome home rt' b = none := fun b _ hb => ⟨rfl, keepHome_none hb⟩
  refine ⟨fun l r hr => ?_, fun b l p hb => ?_, fun l r hr => ?_⟩
  · have hmv : ∀ (l : Lb) (d : Bool) (c : C) (u : Value), CR w home (arrTg d l) c u → (∀ b q, home b = some (l, q) → keepHome home rt' b = some (l, q)) → CR w (keepHome home rt') (arrTg d l) c u := by
      intro l d c u hc hk
      refine hc.move (fun q b _ hl => ⟨rfl, ?_⟩) (Ok.refl _)
      rcases arrTg_exts d l q with h1 | h1
      · rw [h1] at hl ⊢; exact keepHome_none hl
      · rw [h1] at hl ⊢; exact hk b q hl
    cases l with
    | x => simp only [ext, Option.some.injEq] at hr; subst hr; exact Or.inl rfl
    | t k =>
      have hold := old.root (.t k) r hr
      have hkt : ∀ b q, home b = some (.t k, q) → keepHome home rt' b = some (.t k, q) := fun b q hb => by simp [keepHome, hb]
      cases r with
      | gone => trivial
      | arr d t c => exact hmv _ d c _ hold hkt
      | box xs => obtain ⟨d, t, c, e⟩ := hF k _ hr; cases e
    | r i =>
      obtain ⟨h1, h2, h3⟩ := h i r hr
      have hold := old.root (.r i) r h1
      have hkt : ∀ b q, home b = some (.r i, q) → keepHome home rt' b = some (.r i, q) := fun b q hb => keepHome_r hb (by rw [show rt' i = some r from hr]; rfl)
      cases r with
      | gone => trivial
      | arr d t c => exact hmv _ d c _ hold hkt
      | box xs =>
        obtain ⟨b, cur, e1, k1, k2, k3, k4⟩ := RR.box hold
        refine Or.inr ⟨b, cur, e1, k1, hkt b [] k2, k3, k4.1, fun j x v hx hv => ?_⟩
        simp only [Root.ids, List.flatMap_eq_nil_iff] at h3
        exact (k4.2 j x v hx hv).imm old (h3 x (List.mem_of_getElem? hx)) hn
  · have hcase : home b = some (l, p) ∧ ∀ i, l = .r i → (rt' i).isSome = true := by
      unfold keepHome at hb
      split at hb
      · rename_i i q hh
        split at hb
        · rename_i hs
          injection hb with hb; injection hb with e1 e2; subst e1 e2
          exact ⟨hh, fun j e => by injection e with e; subst e; exact hs⟩
        · cases hb
      · rename_i hne
        exact ⟨hb, fun i e => by subst e; exact absurd hb (hne i p)⟩
    obtain ⟨h1, h2⟩ := hcase
    obtain ⟨h3, r, h4, h5⟩ := old.lab b l p h1
    refine ⟨h3, ?_⟩
    cases l with
    | x => exact ⟨.box [], rfl, by simp⟩
    | t k => exact ⟨r, h4, h5⟩
    | r i =>
      obtain ⟨r', hr'⟩ := Option.isSome_iff_exists.1 (h2 i rfl)
      exact ⟨r', hr', (h i r' hr').2.1⟩
  · cases l with
    | x => simp only [ext, Option.some.injEq] at hr; subst hr; intro i hi; simp [Root.ids] at hi
    | t k => obtain ⟨d, t, c, e⟩ := hF k r hr; subst e; intro i hi; cases hi
    | r i => rw [(h i r hr).2.2]; intro j hj; cases hj
theorem rtM_map {ps : List Nat} {g : Nat → Option Root} {i : Nat} : rtM ps (ps.map g) i = if i ∈ ps then g i else none := by
  induction ps with
  | nil => simp [rtM]
  | cons j ps ih =>
    rw [List.map_cons, rtM_cons, ih]
    by_cases h : i = j
    · subst h; simp
    · simp [h]
/-- A frame's end. -/
theorem finish_ok {w0 : World} {home0 : Home} {hd0 : Lb → Value} {rt0 : Rts} (g : Grow w0 home0 hd0 rt0 w home hd fr.rt) (h : FrR ids w home hd N fr a) {pf : PFunc} {fn : Func} (hm : all2 (mRes P) fn.results.toList pf.results = true) {res : Res} (hf : finish pf fr = some res) :
    ∃ us, (results fn a.tmps).run P w = .ok (retV us) w ∧ ∃ home' hd' F', Ret w0 home0 hd0 fr.ps w home' hd' F' res us := by
  unfold finish at hf
  split at hf
  · rename_i as has
    split at hf
    · rename_i rs rt1 hrs
      split at hf
      · rename_i hps
        injection hf with hf
        subst hf
        obtain ⟨us, hrun, hF2, hids⟩ := results_ok (P := P) h hm has
        refine ⟨us, hrun, ?_⟩
        obtain ⟨xs, l, fl, g1, g2, g3, g4, g5⟩ := takesR_flat hrs hF2
        obtain ⟨home', hd', F', s, _, n1, q1, _, len, held⟩ := takes_step xs (k := 0) h.rel g3 (fun x hx i hi => by
          obtain ⟨b, k1, k2⟩ := g5 x hx i hi
          exact hids b k1 i k2) (fun _ _ => rfl) g1
        have hcl : (cellsOf rs).length = xs.length := by rw [g2, List.length_map, len]
        have hF' : ∀ j r, F' j = some r → ∃ o c, (cellsOf rs)[j]? = some (.mk o c) ∧ o ≠ .imm ∧ r = .arr (decide (o = .deep)) false c := by
          intro j r hj
          by_cases hlt : j < xs.length
          · have hl : j < l.length := by rw [len]; exact hlt
            have hfl : j < fl.length := by rw [← g3.1]; exact hlt
            obtain ⟨k1, k2, k3⟩ := held j _ _ (List.getElem?_eq_getElem hl) (List.getElem?_eq_getElem hfl)
            rw [Nat.zero_add] at k1 k3
            refine ⟨l[j].1, l[j].2, by rw [g2, List.getElem?_map, List.getElem?_eq_getElem hl]; rfl, ?_, ?_⟩
            · intro e; rw [k3 e] at hj; cases hj
            · rcases k1 with ⟨e, _⟩ | ⟨_, k4, _, _⟩
              · rw [k3 e] at hj; cases hj
              · rw [hj] at k4; injection k4
          · rw [n1 j (by omega)] at hj; cases hj
        have hrtM : ∀ i r, rtM fr.ps (fr.ps.map (fun i => Root.fin (rt1 i))) i = some r → rt1 i = some r ∧ r ≠ .gone ∧ r.ids = [] := by
          intro i r hr
          rw [rtM_map] at hr
          split at hr
          · rename_i hi
            have hall := List.all_eq_true.1 hps i hi
            cases h1 : rt1 i with
            | none => rw [h1] at hr; cases hr
            | some r1 =>
              rw [h1] at hr hall
              cases r1 with
              | gone => cases hr
              | arr d t c => simp only [Root.fin, Option.some.injEq] at hr; subst hr; exact ⟨rfl, by simp, rfl⟩
              | box xs => simp only [Root.fin, Option.some.injEq] at hr; subst hr; exact ⟨rfl, by simp, by simpa using hall⟩
          · cases hr
        have hg := g.trans s.grow
        refine ⟨keepHome home' (rtM fr.ps (fr.ps.map (fun i => Root.fin (rt1 i)))), hd', F', ?_, ⟨fl, by rw [hcl]; exact g3.1.symm, fun j o c v hc hv => ?_, g4⟩, hF', hg.os, hg.tape, hg.output, hg.size, fun b hb hn => ?_, fun b q hb hx => ?_, fun i hi r hr hne => ?_⟩
        · exact drop_rel s.rel (fun k r hk => by
            obtain ⟨o, c, _, _, e⟩ := hF' k r hk
            exact ⟨_, _, _, e⟩) hrtM
        · rw [g2, List.getElem?_map, Option.map_eq_some_iff] at hc
          obtain ⟨q, hq, e⟩ := hc
          injection e with e1 e2
          subst e1 e2
          obtain ⟨k1, k2, _⟩ := held j q v hq hv
          rw [Nat.zero_add] at k1
          refine ⟨?_, k2⟩
          rcases k1 with ⟨e, k1⟩ | k1
          · exact Or.inl ⟨e, k1.move (fun q b _ hl => by rw [Tg.exts_imm] at hl ⊢; exact ⟨rfl, keepHome_none hl⟩) (Ok.imm _)⟩
          · exact Or.inr k1
        · obtain ⟨e1, e2⟩ := hg.blk b hb hn
          exact ⟨e1, keepHome_none e2⟩
        · obtain ⟨e1, e2⟩ := hg.oth b q hb hx
          exact ⟨e1, by simp [keepHome, e2]⟩
        · exact (hg.pin i hi r (hrtM i r hr).1 hne).1
      · cases hf
    · cases hf
  · cases hf
end
end Go.Proofs.YtecmolmlojehgaaGreat.T
namespace Go.Proofs.YtecmolmlojehgaaGreat.T
open Go
variable (ids : Nat → FuncId)

/-- This function's code is that one. -/
def fnOk (P : Program) (fn : Func) (pf : PFunc) : Bool :=
  match fn.body with
  | some code => mC ids P fn.ntmps code pf.body && all2 (mRes P) fn.results.toList pf.results && decide (pf.np ≤ fn.ntmps) && !(fn.name == "runtime.NumGoroutine")
  | none => false
section
variable {ids} {P : Program}
theorem runF_ok {f : FuncId} {fn : Func} (hf : P.funcs[f]? = some fn) {pf : PFunc} (hm : fnOk ids P fn pf = true) {call : Nat → List Arg → Option Res} (hcall : ∀ f args r, call f args = some r → SatG ids P (ids f) (shapeOf f) args r) {n : Nat} {args : List Arg} {res : Res} (h : runF call n pf args = some res) : Sat ids P f args res := by
  unfold fnOk at hm
  split at hm
  · rename_i code hb
    simp only [Bool.and_eq_true, decide_eq_true_eq, Bool.not_eq_true'] at hm
    obtain ⟨⟨⟨m1, m2⟩, m3⟩, m4⟩ := hm
    unfold runF at h
    split at h
    · rename_i hnp
      intro w home hd vs hlen hrel hargs himm
      refine Or.inl ⟨?_, ?_⟩
      · unfold callFunc
        simp only [Sem.run_bind, run_program, Result.andThen_ok, hf, m4, hb, Option.isNone_some, Bool.false_eq_true, if_false, Sem.run_pure]
      · have hsz : vs.toArray.size = args.length := by simp [hlen]
        have hfr : FrR ids w home hd fn.ntmps (initFr args) { tmps := vs.toArray ++ Array.replicate (fn.ntmps - vs.toArray.size) undef, defers := [] } := by
          refine ⟨hrel, fun t av ht => ?_, ?_, rfl⟩
          · obtain ⟨i, g, g1, g2, g3⟩ := initSl_at (args := args) (k := 0) ht
            rw [Nat.zero_add] at g2 g3
            subst g2
            have hlt : t < vs.length := by rw [hlen]; exact (List.getElem?_eq_some_iff.1 g1).1
            refine ⟨vs[t], ?_, ?_, ?_⟩
            · simp only
              rw [Array.getElem?_append_left (by simpa using hlt)]
              simp [hlt]
            · rw [g3]; exact hargs t g _ g1 (List.getElem?_eq_getElem hlt)
            · rw [g3]
              intro i hi
              cases g with
              | imm x =>
                have := himm t x g1
                simp only [initArg, AV.ids] at hi
                rw [this] at hi; cases hi
              | arr d c len =>
                simp only [initArg, AV.ids, A1.ids, SV.ids, List.mem_singleton] at hi
                subst hi
                have := initRt_at (k := 0) g1 (r := .arr d false c) (by simp [initArg])
                rw [Nat.zero_add] at this
                show (asl (initRt 0 args) (t * 64)).isSome = true
                rw [this]; rfl
              | box xs =>
                simp only [initArg, AV.ids, A1.ids, SV.ids, List.mem_singleton] at hi
                subst hi
                have := initRt_at (k := 0) g1 (r := .box xs) (by simp [initArg])
                rw [Nat.zero_add] at this
                show (asl (initRt 0 args) (t * 64)).isSome = true
                rw [this]; rfl
          · simp only [Array.size_append, Array.size_replicate]; omega
        refine calls_of_wp hf hb ?_
        have fin : ∀ (e : Ex) (fr : Fr), runC call n pf.body (initFr args) = some (e, fr) → (e = .normal ∨ e = .ret) → finish pf fr = some res → code.wp P (bodyPost P fn (fun e w' => ∃ v, e = .returned v ∧ ∃ home' hd' F' us, v = retV us ∧ Ret w home hd (initFr args).ps w' home' hd' F' res us)) { tmps := vs.toArray ++ Array.replicate (fn.ntmps - vs.toArray.size) undef, defers := [] } w := by
          intro e fr hr he hfin
          refine runC_ok hcall pf.body m1 hr hfr (fun a' w' home' hd' g hf' => ?_)
          obtain ⟨us, hrun, home2, hd2, F', hret⟩ := finish_ok (P := P) g hf' m2 hfin
          rw [runC_ps _ hr] at hret
          rcases he with rfl | rfl
          · exact ⟨hf'.nd, _, hrun, _, rfl, home2, hd2, F', us, rfl, hret⟩
          · exact ⟨hf'.nd, _, hrun, _, rfl, home2, hd2, F', us, rfl, hret⟩
        split at h
        · rename_i fr hr; exact fin .normal fr hr (Or.inl rfl) h
        · rename_i fr hr; exact fin .ret fr hr (Or.inr rfl) h
        · cases h
    · cases h
  · cases hm
theorem numA_at : ∀ {as : List A1} {k j : Nat} {av : AV}, asl (numA k as) j = some av → ∃ i a, as[i]? = some a ∧ j = k + i ∧ av = .v a
  | [], _, _, _, h => by cases h
  | a :: as, k, j, r, h => by
    simp only [numA, asl, lookup_cons] at h
    split at h
    · rename_i hj
      injection h with h
      subst h hj
      exact ⟨0, a, rfl, rfl, rfl⟩
    · obtain ⟨i, a', h1, h2, h3⟩ := numA_at (as := as) h
      exact ⟨i + 1, a', by simpa using h1, by omega, h3⟩
theorem initA_at : ∀ {args : List Arg} {k i : Nat} {x : A1}, (initA k args)[i]? = some x → ∃ a, args[i]? = some a ∧ x = (initArg (k + i) a).1
  | [], _, _, _, h => by cases h
  | a :: as, k, 0, x, h => by
    simp only [initA, List.getElem?_cons_zero, Option.some.injEq] at h
    exact ⟨a, rfl, h.symm⟩
  | a :: as, k, i + 1, x, h => by
    simp only [initA, List.getElem?_cons_succ] at h
    obtain ⟨a', h1, h2⟩ := initA_at h
    exact ⟨a', by simpa using h1, by rw [h2, show k + (i + 1) = k + 1 + i by omega]⟩
theorem initA_length : ∀ (args : List Arg) (k : Nat), (initA k args).length = args.length
  | [], _ => rfl
  | _ :: as, k => by simp [initA, initA_length as]
/-- What is told cell by cell, put together. -/
theorem grp_ok {w : World} {home : Home} {hd : Lb → Value} {rt : Rts} : ∀ (g : List Nat) (flat : List A1) (vs : List Value) (as : List A1), grpA g flat = some as → vs.length = flat.length →
    (∀ (i : Nat) x v, flat[i]? = some x → vs[i]? = some v → A1R ids w home hd rt x v ∧ ∀ j ∈ x.ids, (rt j).isSome = true) →
    (grpV g vs).length = as.length ∧ ∀ (i : Nat) x v, as[i]? = some x → (grpV g vs)[i]? = some v → A1R ids w home hd rt x v ∧ ∀ j ∈ x.ids, (rt j).isSome = true
  | [], flat, vs, as, h, hl, hr => by
    simp only [grpA, Option.some.injEq] at h
    subst h
    exact ⟨hl, hr⟩
  | n :: g, flat, vs, as, h, hl, hr => by
    simp only [grpA] at h
    simp only [grpV]
    split at h
    · rename_i hn
      subst hn
      simp only [if_true]
      split at h
      · rename_i a rest
        rw [Option.map_eq_some_iff] at h
        obtain ⟨l, h1, rfl⟩ := h
        match vs, hl with
        | v :: vs, hl =>
          obtain ⟨k1, k2⟩ := grp_ok g rest vs l h1 (by simpa using hl) (fun i x v' hx hv => hr (i + 1) x v' (by simpa using hx) (by simpa using hv))
          refine ⟨by simp [k1], fun i x v' hx hv => ?_⟩
          cases i with
          | zero => exact hr 0 x v' (by simpa using hx) (by simpa using hv)
          | succ i => exact k2 i x v' (by simpa using hx) (by simpa using hv)
      · cases h
    · rename_i hn
      rw [if_neg hn]
      split at h
      · rename_i hle
        split at h
        · rename_i xs hxs
          rw [Option.map_eq_some_iff] at h
          obtain ⟨l, h1, rfl⟩ := h
          obtain ⟨m1, m2⟩ := mapO_spec hxs
          have hxl : xs.length = n := by rw [← m1, List.length_take]; omega
          obtain ⟨k1, k2⟩ := grp_ok g (flat.drop n) (vs.drop n) l h1 (by simp [hl]) (fun i x v' hx hv => hr (n + i) x v' (by rw [List.getElem?_drop] at hx; exact hx) (by rw [List.getElem?_drop] at hv; exact hv))
          have hs : ∀ (i : Nat) x, xs[i]? = some x → flat[i]? = some (.s x) := by
            intro i x hx
            have hi : i < n := by rw [← hxl]; exact (List.getElem?_eq_some_iff.1 hx).1
            have hf : i < flat.length := by omega
            have := m2 i _ x (by rw [List.getElem?_take_of_lt hi, List.getElem?_eq_getElem hf]) hx
            rw [List.getElem?_eq_getElem hf]
            cases hfi : flat[i] with
            | s y => rw [hfi] at this; simp only [svOf, Option.some.injEq] at this; rw [this]
            | agg _ => rw [hfi] at this; cases this
            | fn _ _ => rw [hfi] at this; cases this
          refine ⟨by simp [k1], fun i x v' hx hv => ?_⟩
          cases i with
          | zero =>
            simp only [List.getElem?_cons_zero, Option.some.injEq] at hx hv
            subst hx hv
            refine ⟨⟨vs.take n, rfl, by rw [hxl, List.length_take]; omega, fun j x v hx hv => ?_⟩, fun j hj => ?_⟩
            · have hj : j < n := by rw [← hxl]; exact (List.getElem?_eq_some_iff.1 hx).1
              rw [List.getElem?_take_of_lt hj] at hv
              exact (hr j _ v (hs j x hx) hv).1
            · simp only [A1.ids, List.mem_flatMap] at hj
              obtain ⟨x, hx, hj⟩ := hj
              obtain ⟨k, hk⟩ := List.getElem?_of_mem hx
              have hkn : k < n := by rw [← hxl]; exact (List.getElem?_eq_some_iff.1 hk).1
              have hkv : k < vs.length := by omega
              exact (hr k _ _ (hs k x hk) (List.getElem?_eq_getElem hkv)).2 j hj
          | succ i => exact k2 i x v' (by simpa using hx) (by simpa using hv)
        · cases h
      · cases h
theorem runG_ok {f : FuncId} {fn : Func} (hf : P.funcs[f]? = some fn) {pf : PFunc} (hm : fnOk ids P fn pf = true) {call : Nat → List Arg → Option Res} (hcall : ∀ f args r, call f args = some r → SatG ids P (ids f) (shapeOf f) args r) {n : Nat} {g : List Nat} {args : List Arg} {res : Res} (h : runG call n g pf args = some res) : SatG ids P f g args res := by
  unfold fnOk at hm
  split at hm
  · rename_i code hb
    simp only [Bool.and_eq_true, decide_eq_true_eq, Bool.not_eq_true'] at hm
    obtain ⟨⟨⟨m1, m2⟩, m3⟩, m4⟩ := hm
    unfold runG at h
    split at h
    · rename_i as has
      split at h
      · rename_i hnp
        intro w home hd vs hlen hrel hargs himm
        obtain ⟨q1, q2⟩ := grp_ok (ids := ids) (w := w) (home := home) (hd := hd) (rt := (initFr args).rt) g (initA 0 args) vs as has (by rw [initA_length]; exact hlen) (fun i x v hx hv => by
          obtain ⟨a, h1, h2⟩ := initA_at hx
          rw [Nat.zero_add] at h2
          subst h2
          refine ⟨hargs i a v h1 hv, fun j hj => ?_⟩
          cases a with
          | imm x =>
            have := himm i x h1
            simp only [initArg] at hj
            rw [this] at hj; cases hj
          | arr d c len =>
            simp only [initArg, A1.ids, SV.ids, List.mem_singleton] at hj
            subst hj
            have := initRt_at (k := 0) h1 (r := .arr d false c) (by simp [initArg])
            rw [Nat.zero_add] at this
            show (asl (initRt 0 args) (i * 64)).isSome = true
            rw [this]; rfl
          | box xs =>
            simp only [initArg, A1.ids, SV.ids, List.mem_singleton] at hj
            subst hj
            have := initRt_at (k := 0) h1 (r := .box xs) (by simp [initArg])
            rw [Nat.zero_add] at this
            show (asl (initRt 0 args) (i * 64)).isSome = true
            rw [this]; rfl)
        generalize grpV g vs = ws at q1 q2 ⊢
        refine Or.inl ⟨?_, ?_⟩
        · unfold callFunc
          simp only [Sem.run_bind, run_program, Result.andThen_ok, hf, m4, hb, Option.isNone_some, Bool.false_eq_true, if_false, Sem.run_pure]
        · have hsz : ws.toArray.size = as.length := by simp [q1]
          have hfr : FrR ids w home hd fn.ntmps (initFrG args as) { tmps := ws.toArray ++ Array.replicate (fn.ntmps - ws.toArray.size) undef, defers := [] } := by
            refine ⟨hrel, fun t av ht => ?_, ?_, rfl⟩
            · obtain ⟨i, x, g1, g2, g3⟩ := numA_at (as := as) (k := 0) ht
              rw [Nat.zero_add] at g2
              subst g2 g3
              have hlt : t < ws.length := by rw [q1]; exact (List.getElem?_eq_some_iff.1 g1).1
              obtain ⟨r1, r2⟩ := q2 t x _ g1 (List.getElem?_eq_getElem hlt)
              refine ⟨ws[t], ?_, r1, r2⟩
              simp only
              rw [Array.getElem?_append_left (by simpa using hlt)]
              simp [hlt]
            · simp only [Array.size_append, Array.size_replicate]; omega
          refine calls_of_wp hf hb ?_
          have fin : ∀ (e : Ex) (fr : Fr), runC call n pf.body (initFrG args as) = some (e, fr) → (e = .normal ∨ e = .ret) → finish pf fr = some res → code.wp P (bodyPost P fn (fun e w' => ∃ v, e = .returned v ∧ ∃ home' hd' F' us, v = retV us ∧ Ret w home hd (initFr args).ps w' home' hd' F' res us)) { tmps := ws.toArray ++ Array.replicate (fn.ntmps - ws.toArray.size) undef, defers := [] } w := by
            intro e fr hr he hfin
            refine runC_ok hcall pf.body m1 hr hfr (fun a' w' home' hd' g hf' => ?_)
            obtain ⟨us, hrun, home2, hd2, F', hret⟩ := finish_ok (P := P) g hf' m2 hfin
            rw [runC_ps _ hr] at hret
            rcases he with rfl | rfl
            · exact ⟨hf'.nd, _, hrun, _, rfl, home2, hd2, F', us, rfl, hret⟩
            · exact ⟨hf'.nd, _, hrun, _, rfl, home2, hd2, F', us, rfl, hret⟩
          split at h
          · rename_i fr hr; exact fin .normal fr hr (Or.inl rfl) h
          · rename_i fr hr; exact fin .ret fr hr (Or.inr rfl) h
          · cases h
      · cases h
    · cases h
  · cases hm
theorem den_ok {pp : PP} (hcode : ∀ f pf, pp.code f = some pf → ∃ fn, P.funcs[ids f]? = some fn ∧ fnOk ids P fn pf = true) (hhand : ∀ f args r, pp.code f = none → pp.hand f args = some r → Sat ids P (ids f) args r) (hsh : ∀ f args r, pp.hand f args = some r → shapeOf f = []) :
    ∀ (n f : Nat) (args : List Arg) (r : Res), den pp n f args = some r → SatG ids P (ids f) (shapeOf f) args r
  | 0, f, args, r, h => by cases h
  | n + 1, f, args, r, h => by
    simp only [den] at h
    split at h
    · rename_i pf hpf
      obtain ⟨fn, h1, h2⟩ := hcode f pf hpf
      split at h
      · rename_i hs
        rw [List.isEmpty_iff] at hs
        rw [hs]
        exact runF_ok h1 h2 (den_ok hcode hhand hsh n) h
      · exact runG_ok h1 h2 (den_ok hcode hhand hsh n) h
    · rename_i hpf
      rw [hsh f args r h]
      exact hhand f args r hpf h
end
end Go.Proofs.YtecmolmlojehgaaGreat.T
