/- Calls: leaving, the step. Calls: the operation. Frames: operations one behind the other, what is kept, loops' heads. Frames: regions in order, and what is kept. A loop's head: what is owned is numbered anew. Drawn regions: operations that change no root, and what the others leave as it was. Drawn regions: what an operation leaves as it was. -/
import Derived.Test.YtecmolmlojehgaaGreatMF
namespace Go.Proofs.YtecmolmlojehgaaGreat.T
open Go
variable (ids : Nat → FuncId)

section
variable {ids} {w w' : World} {home h1 : Home} {hd hd1 : Lb → Value} {rt rt1 : Rts} {F F1 : Nat → Option Root} {ls : List Loc} {others : Bool}
theorem backHome_kept {home0 : Home} {b : Nat} (hb : b < w.heap.size) (h : ∀ j q, home0 b ≠ some (.r j, q)) : backHome w home home0 h1 ls b = home b := by
  have : notR (home0 b) = true := by
    cases hh : home0 b with
    | none => rfl
    | some y =>
      obtain ⟨l, q⟩ := y
      cases l with
      | r j => exact absurd hh (h j q)
      | t k => rfl
      | x => rfl
  simp [backHome, hb, this]
theorem backHome_not {home0 : Home} {b : Nat} (h : ¬ b < w.heap.size ∨ ∃ j q, home0 b = some (.r j, q)) : backHome w home home0 h1 ls b = putBack ls (h1 b) := by
  unfold backHome
  rcases h with h | ⟨j, q, h⟩
  · simp [h]
  · simp [h, notR]
theorem leave (old : RtR w home hd rt F0) (hdist : Dist ls) {args : List Arg} (hgiven : ∀ (i id : Nat) (p : Path), ls[i]? = some (some (id, p)) → Given w hd (callHd w hd rt ls) rt args i id p)
    (hps : (initFr args).ps = locIds 0 ls) (hlen : ls.length ≤ 999) {res : Res} {us : List Value} (hret : Ret w (callHome home ls others) (callHd w hd rt ls) (initFr args).ps w' h1 hd1 F1 res us) (hback : back rt ls res.ms = some rt1)
    (hfree : others = false → (res.rs.all (·.free) && res.ms.all mfree) = true) :
    Step w home hd rt F0 w' (backHome w home (callHome home ls others) h1 ls) (backHd hd hd1) rt1 F1 ∧
    ∃ fl : List Value, fl.length = (cellsOf res.rs).length ∧ (∀ (j : Nat) o c v, (cellsOf res.rs)[j]? = some (.mk o c) → fl[j]? = some v → Held w' (backHome w home (callHome home ls others) h1 ls) (backHd hd hd1) F1 j o c v ∧ (o ≠ .imm → c.shape ≠ none)) ∧ Asm res.rs fl us := by
  rw [hps] at hret
  obtain ⟨b1, b2⟩ := back_spec (k := 0) hback hdist
  simp only [Nat.zero_add] at b2
  -- blocks
  have kept : ∀ b, b < w.heap.size → (∀ j q, callHome home ls others b ≠ some (.r j, q)) → w'.heap[b]? = w.heap[b]? ∧ h1 b = callHome home ls others b ∧ backHome w home (callHome home ls others) h1 ls b = home b := by
    intro b hb hn
    refine ⟨?_, ?_, backHome_kept hb hn⟩
    all_goals
      cases hc : callHome home ls others b with
      | none => first | exact (hret.blk b hb hc).1 | exact (hret.blk b hb hc).2
      | some y =>
        obtain ⟨l, q⟩ := y
        cases l with
        | r j => exact absurd hc (hn j q)
        | t k => exact absurd hc callHome_t
        | x => first | exact (hret.oth b q hb hc).1 | exact (hret.oth b q hb hc).2
  -- blocks that the callee holds behind the call
  have held : ∀ b l q, h1 b = some (l, q) → l ≠ .x → ¬ b < w.heap.size ∨ ∃ j q, callHome home ls others b = some (.r j, q) := by
    intro b l q hb hl
    by_cases hs : b < w.heap.size
    · refine Or.inr ?_
      apply Classical.byContradiction
      intro hno
      have hn : ∀ j q, callHome home ls others b ≠ some (.r j, q) := fun j q e => hno ⟨j, q, e⟩
      obtain ⟨_, e2, _⟩ := kept b hs hn
      rw [hb] at e2
      cases l with
      | x => exact hl rfl
      | r j => exact hn j q e2.symm
      | t k => exact callHome_t e2.symm
    · exact Or.inl hs
  have homeR : ∀ (b i id : Nat) (p q : Path), ls[i]? = some (some (id, p)) → h1 b = some (.r (i * 64), q) → backHome w home (callHome home ls others) h1 ls b = some (.r id, p ++ q) := by
    intro b i id p q hl hb
    rw [backHome_not (held b _ _ hb (by simp)), hb]
    simp only [putBack, Nat.mul_div_cancel i (by decide : 0 < 64), hl, Option.join_some]
  have homeT : ∀ b k q, h1 b = some (.t k, q) → backHome w home (callHome home ls others) h1 ls b = some (.t k, q) := by
    intro b k q hb
    rw [backHome_not (held b _ _ hb (by simp)), hb]; rfl
  have homeN : others = true → ∀ b, h1 b = none → backHome w home (callHome home ls others) h1 ls b = none := by
    intro ho b hb
    by_cases hs : b < w.heap.size
    · by_cases hn : ∀ j q, callHome home ls others b ≠ some (.r j, q)
      · obtain ⟨_, e2, e3⟩ := kept b hs hn
        rw [e3]
        rw [hb] at e2
        cases hh : home b with
        | none => rfl
        | some y =>
          obtain ⟨l, q⟩ := y
          cases l with
          | x => rw [callHome_x hh] at e2; cases e2
          | t k => obtain ⟨_, r, e4, _⟩ := old.lab b _ q hh; cases e4
          | r id =>
            exfalso
            unfold callHome at e2
            rw [hh] at e2
            simp only at e2
            split at e2
            · cases e2
            · rw [ho] at e2; cases e2
      · have : ∃ j q, callHome home ls others b = some (.r j, q) := by
          apply Classical.byContradiction
          intro hno
          exact hn (fun j q e => hno ⟨j, q, e⟩)
        rw [backHome_not (Or.inr this), hb]; rfl
    · rw [backHome_not (Or.inl hs), hb]; rfl
  have hdR : ∀ (i id : Nat) (p : Path), ls[i]? = some (some (id, p)) → ∀ r, rtM (locIds 0 ls) res.ms (i * 64) = some r → r ≠ .gone → hd1 (.r (i * 64)) = callHd w hd rt ls (.r (i * 64)) := by
    intro i id p hl r hr hne
    have := (List.getElem?_eq_some_iff.1 hl).1
    exact hret.pin _ (by omega) r hr hne
  have hmf : others = false → ∀ m ∈ res.ms, mfree m = true := fun ho m hm => by
    have := hfree ho
    simp only [Bool.and_eq_true, List.all_eq_true] at this
    exact this.2 m hm
  have hrf : others = false → ∀ c ∈ cellsOf res.rs, c.free = true := fun ho => by
    have := hfree ho
    simp only [Bool.and_eq_true, List.all_eq_true] at this
    have key : ∀ (rs : List RV), (∀ x ∈ rs, x.free = true) → ∀ c ∈ cellsOf rs, c.free = true := by
      intro rs
      induction rs with
      | nil => intro _ c hc; cases hc
      | cons r rs ih =>
        intro hr c hc
        have h0 := hr r (List.mem_cons_self ..)
        cases r with
        | s x =>
          simp only [cellsOf, List.mem_cons] at hc
          rcases hc with rfl | hc
          · exact h0
          · exact ih (fun x hx => hr x (List.mem_cons_of_mem _ hx)) c hc
        | agg xs =>
          simp only [cellsOf, List.mem_append] at hc
          rcases hc with hc | hc
          · simp only [RV.free, List.all_eq_true] at h0; exact h0 c hc
          · exact ih (fun x hx => hr x (List.mem_cons_of_mem _ hx)) c hc
    exact key res.rs this.1
  have hrtM : ∀ i m, rtM (locIds 0 ls) res.ms i = some m → some m ∈ res.ms := by
    intro i m h
    simp only [rtM] at h
    cases hz : ((locIds 0 ls).zip res.ms).lookup i with
    | none => rw [hz] at h; cases h
    | some y =>
      rw [hz] at h
      simp only [Option.join_some] at h
      subst h
      have key : ∀ (l : List (Nat × Option Root)), l.lookup i = some (some m) → ∃ k, (k, some m) ∈ l := by
        intro l
        induction l with
        | nil => intro h; cases h
        | cons y l ih =>
          obtain ⟨k, z⟩ := y
          intro h
          rw [lookup_cons] at h
          split at h
          · injection h with h; subst h; exact ⟨k, List.mem_cons_self ..⟩
          · obtain ⟨k', h'⟩ := ih h; exact ⟨k', List.mem_cons_of_mem _ h'⟩
      obtain ⟨k, hk⟩ := key _ hz
      exact (List.of_mem_zip hk).2
  have ptrImm : ∀ {x : SV} {v : Value}, x.ids = [] → (others = true ∨ x.isVal = true) → SVR w' h1 hd1 (rtM (locIds 0 ls) res.ms) x v → SVR w' (backHome w home (callHome home ls others) h1 ls) (backHd hd hd1) rt1 x v := by
    intro x v hx hc h
    rcases hc with ho | hv
    · exact h.imm hret.rel hx (fun b _ hn => ⟨rfl, homeN ho b hn⟩)
    · cases x with
      | c c =>
        cases c with
        | val u =>
          have h' : CR w' h1 .imm (.val u) v := h
          cases h' with
          | val h => exact CR.val h
        | _ => cases hv
      | _ => cases hv
  -- every handed root
  have hroot : ∀ (i id : Nat) p, ls[i]? = some (some (id, p)) → ∀ r, rt1 id = some r → RR w' (backHome w home (callHome home ls others) h1 ls) (backHd hd hd1) rt1 (.r id) r := by
    intro i id p hl r hr
    rcases b2 i id p hl with ⟨d, t, c, t2, c2, c', sz, n, k, tot, g1, g2, g3, g4, g5, ⟨n2, g6⟩, g7, g8⟩ | ⟨d, t, c, g1, g2, g3⟩ | ⟨ys, xs, g1, g2, g3, g4⟩
    · rw [g8] at hr; injection hr with hr; subst hr
      rcases hgiven i id p hl with ⟨d', t', c0, c0', sz', n', tot', len, u, k1, k2, k3, k4, k5, k6, k7, k8, ⟨ad, cap, k9⟩, k10⟩ | ⟨xs, k1, _⟩
      · rw [g1] at k1; injection k1 with k1; injection k1 with e1 e2 e3; subst e1 e2 e3
        rw [g4] at k4; injection k4 with k4; subst k4
        rw [g5] at k5; injection k5 with k5; injection k5 with e1 k5; injection k5 with e2 e3; subst e1 e2 e3
        show CR w' _ (arrTg d (.r id)) (c.set p (c2.sub 0 n)) (hd (.r id))
        refine CR.set p (old.root (.r id) _ g1) g4 k7 (fun q b hb hlq hq => ?_) ?_
        · have hkeep : ∀ j q', callHome home ls others b ≠ some (.r j, q') := by
            intro j q' hc
            obtain ⟨i2, id2, p2, _, e2, e3⟩ := callHome_inv hc
            rcases arrTg_exts d (.r id) q with h3 | h3
            · rw [h3] at hlq; rw [hlq] at e3; cases e3
            · rw [h3, e3] at hlq
              injection hlq with hlq; injection hlq with e4 e5; injection e4 with e4
              subst e4
              obtain ⟨_, e6⟩ := hdist i i2 id2 p p2 hl e2
              subst e6
              exact hq ⟨q', e5⟩
          obtain ⟨e1, _, e3⟩ := kept b hb hkeep
          exact ⟨e1, e3.trans hlq⟩
        · have hcal : CR w' h1 (arrTg d (.r (i * 64))) c2 (hd1 (.r (i * 64))) := hret.rel.root (.r (i * 64)) _ g2
          rw [hdR i id p hl _ g2 (by simp), k8] at hcal
          have hsub := hcal.sub0 g6 g7
          rw [k9] at hsub
          have hu : relen (relen (Value.slice ad n cap) k) n = u := by rw [k9]; rfl
          rw [hu] at hsub
          have hcase : d = true ∨ (d = false ∧ p = [] ∧ (others = true ∨ c2.flat = true)) := by
            cases d with
            | true => exact Or.inl rfl
            | false =>
              refine Or.inr ⟨rfl, k3.resolve_right (by simp), ?_⟩
              cases hoo : others with
              | true => exact Or.inl rfl
              | false =>
                have := hmf hoo _ (hrtM _ _ g2)
                simp only [mfree, Bool.false_or] at this
                exact Or.inr this
          rcases hcase with rfl | ⟨rfl, rfl, hcase⟩
          · refine hsub.move (fun q b hb hlq => ⟨rfl, ?_⟩) (Ok.own _ _ _)
            have e : ((arrTg true (Lb.r (i * 64))).exts q).lab = some (.r (i * 64), q) := by simp [arrTg, Tg.exts_own, Tg.lab]
            have e2 : (((arrTg true (Lb.r id)).exts p).exts q).lab = some (.r id, p ++ q) := by simp [arrTg, Tg.exts_own, Tg.lab]
            rw [e] at hlq
            rw [e2]
            exact homeR b i id p q hl hlq
          · have htop : ∀ b, h1 b = (arrTg false (Lb.r (i * 64))).lab → backHome w home (callHome home ls others) h1 ls b = (arrTg false (Lb.r id)).lab := fun b hb => homeR b i id [] [] hl hb
            rcases hcase with ho | hfl
            · refine hsub.move (fun q b hb hlq => ⟨rfl, ?_⟩) (Ok.top _ _)
              cases q with
              | nil => exact htop b hlq
              | cons y q =>
                have e : (arrTg false (Lb.r (i * 64))).exts (y :: q) = .imm := Tg.exts_top _ _ _
                have e2 : ((arrTg false (Lb.r id)).exts []).exts (y :: q) = .imm := Tg.exts_top _ _ _
                rw [e] at hlq
                rw [e2]
                exact homeN ho b hlq
            · cases c2 with
              | fl a b c => exact hsub.move_flat (fun b hb hlb => ⟨rfl, htop b hlb⟩) (fun h => by cases h)
              | _ => cases hfl
      · rw [g1] at k1; cases k1
    · rcases g3 with ⟨_, g3⟩ | ⟨g3, g4, g5, g6⟩
      · rw [g3] at hr; injection hr with hr; subst hr; trivial
      · rw [g6] at hr; injection hr with hr; subst hr
        rcases hgiven i id p hl with ⟨d', t', c0, c0', sz', n', tot', len, u, k1, k2, k3, k4, k5, k6, k7, k8, ⟨ad, cap, k9⟩, k10⟩ | ⟨xs, k1, _⟩
        · rw [g1] at k1; injection k1 with k1; injection k1 with e1 e2 e3; subst e1 e2 e3
          show CR w' _ (arrTg d (.r id)) (c.set p .hole) (hd (.r id))
          refine CR.set p (old.root (.r id) _ g1) k4 k7 (fun q b hb hlq hq => ?_) (.hole (by rw [k9]; rfl))
          have hkeep : ∀ j q', callHome home ls others b ≠ some (.r j, q') := by
            intro j q' hc
            obtain ⟨i2, id2, p2, _, e2, e3⟩ := callHome_inv hc
            rcases arrTg_exts d (.r id) q with h3 | h3
            · rw [h3] at hlq; rw [hlq] at e3; cases e3
            · rw [h3, e3] at hlq
              injection hlq with hlq; injection hlq with e4 e5; injection e4 with e4
              subst e4
              obtain ⟨_, e6⟩ := hdist i i2 id2 p p2 hl e2
              subst e6
              exact hq ⟨q', e5⟩
          obtain ⟨e1, _, e3⟩ := kept b hb hkeep
          exact ⟨e1, e3.trans hlq⟩
        · rw [g1] at k1; cases k1
    · rw [g4] at hr; injection hr with hr; subst hr
      rcases hgiven i id p hl with ⟨d', t', c0, c0', sz', n', tot', len, u, k1, _⟩ | ⟨xs', k1, rfl, k3, k4, k5⟩
      · rw [g1] at k1; cases k1
      · obtain ⟨b, cur, e, m1, m2, m3, m4⟩ := RR.box (hret.rel.root (.r (i * 64)) _ g2)
        rw [hdR i id [] hl _ g2 (by simp), k3] at m1
        refine Or.inr ⟨b, cur, e, m1, homeR b i id [] [] hl m2, m3, m4.1, fun j x v hx hv => ?_⟩
        refine ptrImm (g3 x (List.mem_of_getElem? hx)) ?_ (m4.2 j x v hx hv)
        cases hoo : others with
        | true => exact Or.inl rfl
        | false =>
          have := hmf hoo _ (hrtM _ _ g2)
          simp only [mfree, List.all_eq_true] at this
          exact Or.inr (this x (List.mem_of_getElem? hx))
  have hfloat : ∀ k r, F1 k = some r → RR w' (backHome w home (callHome home ls others) h1 ls) (backHd hd hd1) rt1 (.t k) r := by
    intro k r hk
    obtain ⟨o, c, g1, g2, rfl⟩ := hret.only k r hk
    have hc : CR w' h1 (arrTg (decide (o = .deep)) (.t k)) c (hd1 (.t k)) := hret.rel.root (.t k) _ hk
    show CR w' _ (arrTg (decide (o = .deep)) (.t k)) c (hd1 (.t k))
    by_cases hv : c.isVal = true
    · cases c with
      | val v =>
        generalize hd1 (.t k) = x at hc
        cases hc with
        | val h => exact .val h
      | _ => cases hv
    · have hcase : o = .deep ∨ others = true := by
        cases hoo : others with
        | true => exact Or.inr rfl
        | false =>
          have := hrf hoo _ (List.mem_of_getElem? g1)
          simp only [RC.free, Bool.or_eq_true, decide_eq_true_eq] at this
          exact Or.inl (this.resolve_left hv)
      refine hc.move (fun q b hb hlq => ⟨rfl, ?_⟩) (Ok.refl _)
      rcases hcase with rfl | ho
      · have e : ((arrTg (decide (Ow.deep = Ow.deep)) (Lb.t k)).exts q).lab = some (.t k, q) := by simp [arrTg, Tg.exts_own, Tg.lab]
        rw [e] at hlq ⊢
        exact homeT b k q hlq
      · rcases arrTg_exts (decide (o = .deep)) (.t k) q with h3 | h3
        · rw [h3] at hlq ⊢; exact homeN ho b hlq
        · rw [h3] at hlq ⊢; exact homeT b k q hlq
  have hXr : ∀ id, (∃ (i : Nat) (p : Path), ls[i]? = some (some (id, p))) ∨ (∀ (i : Nat) p, ls[i]? ≠ some (some (id, p))) := by
    intro id
    by_cases h : ∃ (i : Nat) (p : Path), ls[i]? = some (some (id, p))
    · exact Or.inl h
    · exact Or.inr (fun i p e => h ⟨i, p, e⟩)
  -- a block that is kept, of a root that is not handed over
  have keepOwn : ∀ b l q, b < w.heap.size → home b = some (l, q) → (∀ (i : Nat) id p, l = .r id → ls[i]? = some (some (id, p)) → ¬ p <+: q) → w'.heap[b]? = w.heap[b]? ∧ backHome w home (callHome home ls others) h1 ls b = some (l, q) := by
    intro b l q hb hh hn
    have hkeep : ∀ j q', callHome home ls others b ≠ some (.r j, q') := by
      intro j q' hc
      obtain ⟨i2, id2, p2, _, e2, e3⟩ := callHome_inv hc
      rw [hh] at e3; injection e3 with e3; injection e3 with e4 e5
      exact hn i2 id2 p2 e4 e2 ⟨q', e5.symm⟩
    obtain ⟨e1, _, e3⟩ := kept b hb hkeep
    exact ⟨e1, e3.trans hh⟩
  -- what a handed root is behind the call
  have hlive : ∀ (i id : Nat) p, ls[i]? = some (some (id, p)) → (∃ r, rt1 id = some r) ∧ (∃ r0, rt id = some r0 ∧ r0 ≠ .gone) ∧ (∀ r, rt1 id = some r → r.ids = []) ∧ ((p ≠ [] ∨ ∃ m, rtM (locIds 0 ls) res.ms (i * 64) = some m) → ∃ r, rt1 id = some r ∧ r ≠ .gone) := by
    intro i id p hl
    rcases b2 i id p hl with ⟨d, t, c, t2, c2, c', sz, n, k, tot, g1, g2, g3, g4, g5, g6, g7, g8⟩ | ⟨d, t, c, g1, g2, g3⟩ | ⟨ys, xs, g1, g2, g3, g4⟩
    · exact ⟨⟨_, g8⟩, ⟨_, g1, by simp⟩, fun r hr => by rw [g8] at hr; injection hr with hr; subst hr; rfl, fun _ => ⟨_, g8, by simp⟩⟩
    · rcases g3 with ⟨g3, g4⟩ | ⟨g3, g4, g5, g6⟩
      · refine ⟨⟨_, g4⟩, ⟨_, g1, by simp⟩, fun r hr => by rw [g4] at hr; injection hr with hr; subst hr; rfl, fun h => ?_⟩
        rcases h with h | ⟨m, h⟩
        · exact absurd g3 h
        · rw [g2] at h; cases h
      · exact ⟨⟨_, g6⟩, ⟨_, g1, by simp⟩, fun r hr => by rw [g6] at hr; injection hr with hr; subst hr; rfl, fun _ => ⟨_, g6, by simp⟩⟩
    · refine ⟨⟨_, g4⟩, ⟨_, g1, by simp⟩, fun r hr => ?_, fun _ => ⟨_, g4, by simp⟩⟩
      rw [g4] at hr; injection hr with hr; subst hr
      simp only [Root.ids, List.flatMap_eq_nil_iff]
      exact g3
  refine ⟨Step.mk2 (fun l => (∃ k, l = .t k) ∨ ∃ (i id : Nat) (p : Path), ls[i]? = some (some (id, p)) ∧ l = .r id) old (fun b hb hh => ?_) (fun l hl b q hb hh => ?_) (fun l hl => ?_) (fun l hl => ?_) (fun id hX x v hx hs hv => ?_) (fun _ l r hX hr => ?_) (fun b l p hX hh => ?_) (fun b l q hX hh => ?_) (fun l r hX hr => ?_) (fun id hs => ?_)
    hret.os hret.tape hret.output hret.size (fun id hid hX r hr hne => ?_) (by rintro (⟨k, h⟩ | ⟨i, id, p, _, h⟩) <;> cases h), ?_⟩
  · have hkeep : ∀ j q', callHome home ls others b ≠ some (.r j, q') := fun j q' hc => by rw [callHome_none hh] at hc; cases hc
    obtain ⟨e1, _, e3⟩ := kept b hb hkeep
    exact ⟨e1, e3.trans hh⟩
  · exact keepOwn b l q hb hh (fun i id p e1 e2 => absurd (Or.inr ⟨i, id, p, e2, e1⟩) hl)
  · cases l with
    | t k => exact absurd (Or.inl ⟨k, rfl⟩) hl
    | r id => rfl
    | x => rfl
  · cases l with
    | t k => exact absurd (Or.inl ⟨k, rfl⟩) hl
    | r id => exact b1 id (fun i p e => hl (Or.inr ⟨i, id, p, e, rfl⟩))
    | x => rfl
  · -- slots that lead to what was handed over
    obtain ⟨i, p, hl⟩ : ∃ (i : Nat) (p : Path), ls[i]? = some (some (id, p)) := by
      rcases hX with ⟨k, e⟩ | ⟨i, id', p, hl, e⟩
      · cases e
      · injection e with e; subst e; exact ⟨i, p, hl⟩
    have hat : ∀ w (c : C) (u : Value), hdAt w c u [] = some u := fun w c u => by cases c <;> rfl
    have hg0 : ∀ (c : C), c.get [] = some c := fun c => by cases c <;> rfl
    -- the new root's shape at the top
    have hnew : ∀ d1 t1 c1, rt1 id = some (.arr d1 t1 c1) → t1 = true ∧ ∃ t c, rt id = some (.arr d1 t c) ∧ ∀ sz m tot, c1.shape = some (sz, m, tot) → ∃ tot', c.shape = some (sz, m, tot') := by
      intro d1 t1 c1 hr1
      have hset : ∀ (c X : C) (p : Path), p ≠ [] → ∀ sz m tot, (c.set p X).shape = some (sz, m, tot) → ∃ tot', c.shape = some (sz, m, tot') := by
        intro c X p hp sz m tot hs
        cases p with
        | nil => exact absurd rfl hp
        | cons y p =>
          obtain ⟨a, b⟩ := y
          refine ⟨tot, ?_⟩
          rw [← hs]
          cases c with
          | sl sz es sp =>
            simp only [C.set]
            split
            · split <;> simp [C.shape]
            · rfl
          | _ => rfl
      rcases b2 i id p hl with ⟨d, t, c, t2, c2, c', sz, n, k, tot, g1, g2, g3, g4, g5, ⟨n2, g6⟩, g7, g8⟩ | ⟨d, t, c, g1, g2, g3⟩ | ⟨ys, xs, g1, g2, g3, g4⟩
      · rw [g8] at hr1; injection hr1 with hr1; injection hr1 with e1 e2 e3; subst e1 e2 e3
        refine ⟨rfl, t, c, g1, fun sz' m' tot' hs' => ?_⟩
        cases p with
        | nil =>
          rw [hg0] at g4; injection g4 with g4; subst g4
          have e : c.set [] (c2.sub 0 n) = c2.sub 0 n := by cases c <;> rfl
          rw [e, C.sub_shape g6 (by omega)] at hs'
          injection hs' with hs'; injection hs' with e1 hs'; injection hs' with e2 e3; subst e1 e2
          exact ⟨k, g5⟩
        | cons y p => exact hset c _ _ (by simp) _ _ _ hs'
      · rcases g3 with ⟨_, g3⟩ | ⟨g3, g4, g5, g6⟩
        · rw [g3] at hr1; cases hr1
        · rw [g6] at hr1; injection hr1 with hr1; injection hr1 with e1 e2 e3; subst e1 e2 e3
          exact ⟨rfl, t, c, g1, fun sz' m' tot' hs' => hset c _ _ g3 _ _ _ hs'⟩
      · rw [g4] at hr1; cases hr1
    cases x with
    | c c => cases hx
    | nil k => cases hx
    | pm cs off => cases hx
    | ref j p2 off len =>
      simp only [SV.ids, List.cons.injEq, and_true] at hx; subst hx
      refine ⟨hv.1, fun d1 t1 c1 hr1 ht1 c3 u hg hu sz m tot hs' => ?_⟩
      obtain ⟨rfl, t, c, e1, e2⟩ := hnew d1 t1 c1 hr1
      have hp2 : p2 = [] := ht1.resolve_right (by simp)
      subst hp2
      rw [hg0] at hg; injection hg with hg; subst hg
      rw [hat] at hu; injection hu with hu; subst hu
      obtain ⟨tot', e3⟩ := e2 sz m tot hs'
      exact hv.2 d1 t c e1 (Or.inl rfl) c (hd (.r j)) (hg0 c) (hat _ _ _) sz m tot' e3
    | pb j off =>
      simp only [SV.ids, List.cons.injEq, and_true] at hx; subst hx
      refine ⟨hv.1, fun xs hr1 => ?_⟩
      rcases b2 i j p hl with ⟨d, t, c, t2, c2, c', sz, n, k, tot, g1, g2, g3, g4, g5, ⟨n2, g6⟩, g7, g8⟩ | ⟨d, t, c, g1, g2, g3⟩ | ⟨ys, xs', g1, g2, g3, g4⟩
      · rw [g8] at hr1; cases hr1
      · rcases g3 with ⟨_, g3⟩ | ⟨g3, g4, g5, g6⟩
        · rw [g3] at hr1; cases hr1
        · rw [g6] at hr1; cases hr1
      · exact hv.2 ys g1
    | pe j p2 i' off =>
      simp only [SV.ids, List.cons.injEq, and_true] at hx; subst hx
      refine ⟨hv.1, fun d1 t1 c1 hr1 ht1 c3 u hg hu sz m tot hs' hi => ?_⟩
      obtain ⟨rfl, t, c, e1, e2⟩ := hnew d1 t1 c1 hr1
      have hp2 : p2 = [] := ht1.resolve_right (by simp)
      subst hp2
      rw [hg0] at hg; injection hg with hg; subst hg
      rw [hat] at hu; injection hu with hu; subst hu
      obtain ⟨tot', e3⟩ := e2 sz m tot hs'
      exact hv.2 d1 t c e1 (Or.inl rfl) c (hd (.r j)) (hg0 c) (hat _ _ _) sz m tot' e3 hi
  · rcases hX with ⟨k, rfl⟩ | ⟨i, id, p, hl, rfl⟩
    · exact hfloat k r hr
    · exact hroot i id p hl r hr
  · -- what is labelled outside of what was handed over
    by_cases hk : b < w.heap.size ∧ ∀ j q, callHome home ls others b ≠ some (.r j, q)
    · obtain ⟨_, _, e3⟩ := kept b hk.1 hk.2
      exact ⟨hk.1, by rw [← e3]; exact hh⟩
    · have hk' : ¬ b < w.heap.size ∨ ∃ j q, callHome home ls others b = some (.r j, q) := by
        by_cases hs : b < w.heap.size
        · refine Or.inr (Classical.byContradiction fun hno => hk ⟨hs, fun j q e => hno ⟨j, q, e⟩⟩)
        · exact Or.inl hs
      rw [backHome_not hk'] at hh
      exfalso
      cases hhb : h1 b with
      | none => rw [hhb] at hh; cases hh
      | some y =>
        obtain ⟨l', q'⟩ := y
        rw [hhb] at hh
        cases l' with
        | x => cases hh
        | t k => injection hh with hh; injection hh with hh _; exact hX (Or.inl ⟨k, hh.symm⟩)
        | r j =>
          simp only [putBack] at hh
          split at hh
          · rename_i id p' he
            injection hh with hh; injection hh with hh _
            cases hj : ls[j / 64]? with
            | none => rw [hj] at he; cases he
            | some z =>
              rw [hj] at he
              simp only [Option.join_some] at he
              subst he
              exact hX (Or.inr ⟨j / 64, id, p', hj, hh.symm⟩)
          · cases hh
  · -- what is labelled within
    by_cases hk : b < w.heap.size ∧ ∀ j q, callHome home ls others b ≠ some (.r j, q)
    · obtain ⟨_, _, e3⟩ := kept b hk.1 hk.2
      rw [e3] at hh
      refine ⟨Nat.lt_of_lt_of_le hk.1 hret.size, ?_⟩
      rcases hX with ⟨k, rfl⟩ | ⟨i, id, p, hl, rfl⟩
      · obtain ⟨_, r, h3, _⟩ := old.lab b _ q hh
        cases h3
      · obtain ⟨_, _, _, h4⟩ := hlive i id p hl
        obtain ⟨r, h5, h6⟩ := h4 (Or.inl (fun e => by
          subst e
          exact hk.2 (i * 64) q (callHome_hit hdist hl hh)))
        exact ⟨r, h5, h6⟩
    · have hk' : ¬ b < w.heap.size ∨ ∃ j q, callHome home ls others b = some (.r j, q) := by
        by_cases hs : b < w.heap.size
        · refine Or.inr (Classical.byContradiction fun hno => hk ⟨hs, fun j q e => hno ⟨j, q, e⟩⟩)
        · exact Or.inl hs
      rw [backHome_not hk'] at hh
      cases hhb : h1 b with
      | none => rw [hhb] at hh; cases hh
      | some y =>
        obtain ⟨l', q'⟩ := y
        obtain ⟨hsz, r, hr1, hr2⟩ := hret.rel.lab b l' q' hhb
        rw [hhb] at hh
        refine ⟨hsz, ?_⟩
        cases l' with
        | x => cases hh
        | t k =>
          injection hh with hh; injection hh with hh _; subst hh
          exact ⟨r, hr1, hr2⟩
        | r j =>
          simp only [putBack] at hh
          split at hh
          · rename_i id p' he
            injection hh with hh; injection hh with hh _
            subst hh
            cases hj : ls[j / 64]? with
            | none => rw [hj] at he; cases he
            | some z =>
              rw [hj] at he
              simp only [Option.join_some] at he
              subst he
              obtain ⟨_, _, _, h4⟩ := hlive (j / 64) id p' hj
              have hr1' : rtM (locIds 0 ls) res.ms j = some r := hr1
              -- j is a multiple of 64
              have hmul : j = j / 64 * 64 := by
                have : j ∈ locIds 0 ls := by
                  have key : ∀ (ps : List Nat) (ms : List (Option Root)), rtM ps ms j = some r → j ∈ ps := by
                    intro ps
                    induction ps with
                    | nil => intro ms h; simp [rtM] at h
                    | cons x ps ih =>
                      intro ms h
                      cases ms with
                      | nil => simp [rtM] at h
                      | cons m ms =>
                        rw [rtM_cons] at h
                        split at h
                        · rename_i e; subst e; exact List.mem_cons_self ..
                        · exact List.mem_cons_of_mem _ (ih ms h)
                  exact key _ _ hr1'
                have key2 : ∀ (ls : List Loc) (k : Nat), j ∈ locIds k ls → j % 64 = 0 := by
                  intro ls
                  induction ls with
                  | nil => intro k h; cases h
                  | cons y ls ih =>
                    intro k h
                    cases y with
                    | none => exact ih (k + 1) h
                    | some z =>
                      simp only [locIds, List.mem_cons] at h
                      rcases h with rfl | h
                      · omega
                      · exact ih (k + 1) h
                have := key2 _ _ this
                omega
              obtain ⟨r', h5, h6⟩ := h4 (Or.inr ⟨r, by rw [← hmul]; exact hr1'⟩)
              exact ⟨r', h5, h6⟩
          · cases hh
  · rcases hX with ⟨k, rfl⟩ | ⟨i, id, p, hl, rfl⟩
    · obtain ⟨o, c, _, _, rfl⟩ := hret.only k r hr
      intro i hi; cases hi
    · rw [(hlive i id p hl).2.2.1 r hr]; intro j hj; cases hj
  · rcases hXr id with ⟨i, p, hl⟩ | hn
    · obtain ⟨⟨r, h⟩, _⟩ := hlive i id p hl
      rw [h]; rfl
    · rw [b1 id hn]; exact hs
  · obtain ⟨i, p, hl⟩ : ∃ (i : Nat) (p : Path), ls[i]? = some (some (id, p)) := by
      rcases hX with ⟨k, e⟩ | ⟨i, id', p, hl, e⟩
      · cases e
      · injection e with e; subst e; exact ⟨i, p, hl⟩
    exact ⟨rfl, (hlive i id p hl).2.1⟩
  · obtain ⟨fl, f1, f2, f3⟩ := hret.vals
    refine ⟨fl, f1, fun j o c v hc hv => ?_, f3⟩
    obtain ⟨g1, g2⟩ := f2 j o c v hc hv
    refine ⟨?_, g2⟩
    rcases g1 with ⟨rfl, g1⟩ | ⟨g3, g4, g5, g6⟩
    · refine Or.inl ⟨rfl, ?_⟩
      have hcase : others = true ∨ c.isVal = true := by
        cases hoo : others with
        | true => exact Or.inl rfl
        | false =>
          have := hrf hoo _ (List.mem_of_getElem? hc)
          simp only [RC.free, Bool.or_eq_true, decide_eq_true_eq, reduceCtorEq, or_false] at this
          exact Or.inr this
      exact ptrImm (x := .c c) rfl hcase g1
    · exact Or.inr ⟨g3, g4, g5, g6⟩
end
end Go.Proofs.YtecmolmlojehgaaGreat.T
namespace Go.Proofs.YtecmolmlojehgaaGreat.T
open Go
variable (ids : Nat → FuncId)

def mCall (o : Op) (f : Nat) (qs : List (Bool × Opd)) : Bool :=
  match o with
  | .call c =>
    (match c.callee with
    | .value (.func g) => g == ids f && (shapeOf f).isEmpty
    | _ => false) && all2 (fun x q => mOpd ids x q.2) c.args.toList qs
  | _ => false
def mCallv (o : Op) (f : Opd) (qs : List (Bool × Opd)) : Bool :=
  match o with
  | .call c =>
    (match c.callee with
    | .value x => mOpd ids x f
    | _ => false) && all2 (fun x q => mOpd ids x q.2) c.args.toList qs
  | _ => false
section
variable {ids} {P : Program} {o : Oper} {a : Act} {w : World} {home : Home} {hd : Lb → Value} {rt rt' : Rts} {av : AV} {ev : Ev} {call : Nat → List Arg → Option Res} {dst : Nat}
theorem retAV_R {as : List A1} {us : List Value} (h : F2 (A1R ids w home hd rt) as us) : AVR ids w home hd rt (retAV as) (retV us) := by
  match as, us, h with
  | [], [], h => exact ⟨[], rfl, h⟩
  | [], u :: us, h => exact absurd h.1 (by simp)
  | [x], [u], h => exact h.2 0 x u rfl rfl
  | [x], [], h => exact absurd h.1 (by simp)
  | [x], u :: v :: us, h => exact absurd h.1 (by simp)
  | x :: y :: as, [], h => exact absurd h.1 (by simp)
  | x :: y :: as, [u], h => exact absurd h.1 (by simp)
  | x :: y :: as, u :: v :: us, h => exact ⟨u :: v :: us, rfl, h⟩
theorem snap_ids {x y : SV} (h : snap rt x = some y) : y.ids = [] := by
  cases x with
  | c c => simp only [snap, Option.some.injEq] at h; subst h; rfl
  | nil k => simp only [snap, Option.some.injEq] at h; subst h; rfl
  | ref id p off len => simp only [snap, Option.map_eq_some_iff] at h; obtain ⟨c, _, rfl⟩ := h; rfl
  | pm cs off => simp only [snap, Option.some.injEq] at h; subst h; rfl
  | pb id off =>
    simp only [snap] at h
    split at h
    · rw [Option.map_eq_some_iff] at h; obtain ⟨c, _, rfl⟩ := h; rfl
    · cases h
  | pe id p i off =>
    simp only [snap] at h
    split at h
    · rw [Option.map_eq_some_iff] at h; obtain ⟨c, _, rfl⟩ := h; rfl
    · cases h
theorem snap1_ids {x y : A1} (h : snap1 rt x = some y) : y.ids = [] := by
  have key : ∀ {xs ys : List SV}, mapO (snap rt) xs = some ys → ys.flatMap (·.ids) = [] := by
    intro xs ys h
    obtain ⟨m1, m2⟩ := mapO_spec h
    rw [List.flatMap_eq_nil_iff]
    intro y hy
    obtain ⟨i, hi⟩ := List.getElem?_of_mem hy
    have hlt : i < xs.length := by rw [m1]; exact (List.getElem?_eq_some_iff.1 hi).1
    exact snap_ids (m2 i _ y (List.getElem?_eq_getElem hlt) hi)
  cases x with
  | s x => simp only [snap1, Option.map_eq_some_iff] at h; obtain ⟨c, h1, rfl⟩ := h; exact snap_ids h1
  | agg xs => simp only [snap1, Option.map_eq_some_iff] at h; obtain ⟨c, h1, rfl⟩ := h; exact key h1
  | fn f xs => simp only [snap1, Option.map_eq_some_iff] at h; obtain ⟨c, h1, rfl⟩ := h; exact key h1
theorem callR_ok (old : RtR w home hd rt F0) (hcall : ∀ f args r, call f args = some r → SatG ids P (ids f) (shapeOf f) args r) {f : Nat} {qs : List (Bool × Opd)} {vs : List Value} (hlen : vs.length = qs.length)
    (hvs : ∀ (i : Nat) q v, qs[i]? = some q → vs[i]? = some v → ∀ a, ev q.2 = some a → A1R ids w home hd rt a v ∧ ∀ j ∈ a.ids, (rt j).isSome = true) (h : callR call ev rt dst f qs = some (av, rt')) :
    Runs P (ids f) (grpV (shapeOf f) vs).toArray w (fun v w' => ∃ home' hd', Step w home hd rt F0 w' home' hd' rt' F0 ∧ AVR ids w' home' hd' rt' av v) := by
  unfold callR at h
  split at h
  · rename_i l hl
    split at h
    · rename_i r hr
      split at h
      · rename_i hc
        simp only [Bool.and_eq_true, decide_eq_true_eq, Bool.or_eq_true] at hc
        obtain ⟨⟨⟨hn, _⟩, hap⟩, hfr⟩ := hc
        split at h
        · rename_i rt1 hb
          rw [Option.map_eq_some_iff] at h
          obtain ⟨⟨as, rt2⟩, h1, h2⟩ := h
          simp only [Prod.mk.injEq] at h2
          obtain ⟨rfl, rfl⟩ := h2
          obtain ⟨m1, m2⟩ := mapO_spec hl
          have hoth : (!(r.rs.all (·.free) && r.ms.all mfree)) = true → ∀ q ∈ qs, q.1 = false → ∀ a, ev q.2 = some a → a.ids = [] := by
            intro ho q hq hqf a ha
            rcases hfr with ⟨h3, h4⟩ | h3
            · rw [h3, h4] at ho; cases ho
            · have := List.all_eq_true.1 h3 q hq
              rw [hqf, ha] at this
              simpa using this
          obtain ⟨hdist, hgiven, hrel, hargs⟩ := enter (others := !(r.rs.all (·.free) && r.ms.all mfree)) old hl hap hoth hvs
          have hsat := hcall f _ r hr w _ _ vs (by rw [List.length_map, ← m1]; exact hlen) hrel hargs (fun i x hx => by
            rw [List.getElem?_map, Option.map_eq_some_iff] at hx
            obtain ⟨y, hy, hy2⟩ := hx
            have hlt : i < qs.length := by rw [m1]; exact (List.getElem?_eq_some_iff.1 hy).1
            obtain ⟨a, _, hcase⟩ := argOf_spec (m2 i _ y (List.getElem?_eq_getElem hlt) hy)
            rcases hcase with ⟨_, a', hsn, e⟩ | ⟨_, id', p2, len, d, c', sz, n, tot, _, _, _, _, _, e⟩ | ⟨_, id', xs, _, _, _, e⟩
            · rw [e] at hy2; injection hy2 with hy2; subst hy2; exact snap1_ids hsn
            · rw [e] at hy2; cases hy2
            · rw [e] at hy2; cases hy2)
          refine hsat.mono (fun v w' hv => ?_)
          obtain ⟨h1', hd1, F1, us, rfl, hret⟩ := hv
          have hps : (initFr (l.map (·.1))).ps = locIds 0 (l.map (·.2)) := by
            refine ps_eq (k := 0) (fun x hx => ?_)
            obtain ⟨i, hi⟩ := List.getElem?_of_mem hx
            have hlt : i < qs.length := by rw [m1]; exact (List.getElem?_eq_some_iff.1 hi).1
            obtain ⟨a, _, hcase⟩ := argOf_spec (m2 i _ x (List.getElem?_eq_getElem hlt) hi)
            rcases hcase with ⟨_, a', _, e⟩ | ⟨_, id', p2, len, d, c', sz, n, tot, _, _, _, _, _, e⟩ | ⟨_, id', xs, _, _, _, e⟩
            · exact Or.inl ⟨_, e⟩
            · exact Or.inr (Or.inl ⟨_, _, _, _, e⟩)
            · exact Or.inr (Or.inr ⟨_, _, e⟩)
          obtain ⟨s1, fl, f1, f2, f3⟩ := leave old hdist hgiven hps (by rw [List.length_map, ← m1]; exact hn) hret hb (fun ho => by simpa using ho)
          obtain ⟨ys, e1, e2⟩ := valsRes_cells h1
          obtain ⟨home2, hd2, s2, g1, g2⟩ := cells_placed (k := 0) (id := nid dst) s1.rel f1 (by unfold nid; omega) (fun j o c v hc hv => by rw [Nat.zero_add]; exact f2 j o c v hc hv) (fun j r' hj => by
            obtain ⟨o, c, e3, e4, e5⟩ := hret.only j r' hj
            exact ⟨Nat.zero_le _, o, c, e3, e4, e5⟩) e1
          exact ⟨home2, hd2, s1.trans s2, retAV_R (asm_R e2 f3 g1)⟩
        · cases h
      · cases h
    · cases h
  · cases h
theorem Runs.wp {R : Value → World → Prop} {f : FuncId} {vs : Array Value} (h : Runs P f vs w R) (hx : (execOp a.eval o).run P w = (callFunc f vs).run P w) {next : Act → World → Prop} {Q : Exit → Act → World → Prop} (hn : ∀ v w', R v w' → next (a.put o.dst v) w') : o.wp P a w next Q := by
  unfold Oper.wp
  rw [hx]
  rcases h with ⟨h1, h2⟩ | ⟨v, w', h1, h2⟩
  · rw [h1]
    refine h2.mono (fun e w' ⟨v, he, hv⟩ => ?_)
    subst he
    exact hn v w' hv
  · rw [h1]; exact hn v w' h2
theorem ok_call (old : RtR w home hd rt F0) (he : EvR ids w home hd rt ev a.eval) (hcall : ∀ f args r, call f args = some r → SatG ids P (ids f) (shapeOf f) args r) {f : Nat} {qs : List (Bool × Opd)} (hm : mCall ids o.op f qs = true) (h : callR call ev rt dst f qs = some (av, rt')) : OpOk ids P o a w home hd rt av rt' := by
  unfold mCall at hm
  split at hm
  · rename_i c ho
    simp only [Bool.and_eq_true] at hm
    obtain ⟨h1, h2⟩ := hm
    split at h1
    · rename_i g hcl
      simp only [Bool.and_eq_true, beq_iff_eq, List.isEmpty_iff] at h1
      obtain ⟨hg, hsh⟩ := h1
      subst hg
      obtain ⟨g1, g2⟩ := all2_iff h2
      have hruns := callR_ok (P := P) (vs := c.args.toList.map a.eval) old hcall (by rw [List.length_map]; exact g1) (fun i q v hq hv x hx => by
        rw [List.getElem?_map, Option.map_eq_some_iff] at hv
        obtain ⟨y, hy, rfl⟩ := hv
        exact he y q.2 x (g2 i y q hy hq) hx) h
      rw [hsh] at hruns
      have hruns : Runs P (ids f) (c.args.toList.map a.eval).toArray w (fun v w' => ∃ home' hd', Step w home hd rt F0 w' home' hd' rt' F0 ∧ AVR ids w' home' hd' rt' av v) := hruns
      intro next Q hnext
      refine hruns.wp ?_ (fun v w' ⟨home', hd', s, hv⟩ => hnext v w' home' hd' s hv)
      unfold execOp
      rw [ho]
      have e : (c.args.toList.map a.eval).toArray = c.args.map a.eval := by apply Array.ext'; simp
      have hev : a.eval (.func (ids f)) = .func (.func (ids f)) #[] #[] := rfl
      simp only [resolve, hcl, hev, Deferred.ofValue, Sem.run_bind, Sem.run_pure, Result.andThen_ok, invoke, Array.empty_append, Array.append_empty, e]
    · cases h1
  · cases hm
/-- What is told cell by cell. -/
theorem flat_ok (ev' : Ev) (hk : ∀ a, ev' (.k a) = some a) : ∀ (g : List Nat) (qs qs' : List (Bool × Opd)) (vs : List Value), flatQ ev g qs = some qs' → vs.length = qs.length →
    (∀ (i : Nat) q v, qs[i]? = some q → vs[i]? = some v → ∀ a, ev q.2 = some a → A1R ids w home hd rt a v ∧ ∀ j ∈ a.ids, (rt j).isSome = true) →
    (∀ (i : Nat) q v, qs[i]? = some q → vs[i]? = some v → ∀ a, ev' q.2 = some a → A1R ids w home hd rt a v ∧ ∀ j ∈ a.ids, (rt j).isSome = true) →
    ∃ us : List Value, us.length = qs'.length ∧ grpV g us = vs ∧ ∀ (i : Nat) q v, qs'[i]? = some q → us[i]? = some v → ∀ a, ev' q.2 = some a → A1R ids w home hd rt a v ∧ ∀ j ∈ a.ids, (rt j).isSome = true
  | [], qs, qs', vs, h, hl, _, h2 => by
    simp only [flatQ, Option.some.injEq] at h
    subst h
    exact ⟨vs, hl, rfl, h2⟩
  | _ :: _, [], qs', vs, h, hl, _, h2 => by simp [flatQ] at h
  | n :: g, q :: qs, qs', vs, h, hl, h1, h2 => by
    match vs, hl with
    | v :: vs, hl =>
      have t1 : ∀ (i : Nat) q v, qs[i]? = some q → vs[i]? = some v → ∀ a, ev q.2 = some a → A1R ids w home hd rt a v ∧ ∀ j ∈ a.ids, (rt j).isSome = true := fun i q' v' hq hv => h1 (i + 1) q' v' (by simpa using hq) (by simpa using hv)
      have t2 : ∀ (i : Nat) q v, qs[i]? = some q → vs[i]? = some v → ∀ a, ev' q.2 = some a → A1R ids w home hd rt a v ∧ ∀ j ∈ a.ids, (rt j).isSome = true := fun i q' v' hq hv => h2 (i + 1) q' v' (by simpa using hq) (by simpa using hv)
      have hl' : vs.length = qs.length := by simpa using hl
      simp only [flatQ] at h
      split at h
      · rename_i hn
        subst hn
        rw [Option.map_eq_some_iff] at h
        obtain ⟨l, h3, rfl⟩ := h
        obtain ⟨us, k1, k2, k3⟩ := flat_ok ev' hk g qs l vs h3 hl' t1 t2
        refine ⟨v :: us, by simp [k1], by simp [grpV, k2], fun i q' v' hq hv => ?_⟩
        cases i with
        | zero => exact h2 0 q' v' (by simpa using hq) (by simpa using hv)
        | succ i => exact k3 i q' v' (by simpa using hq) (by simpa using hv)
      · rename_i hn
        split at h
        · rename_i xs hev
          split at h
          · rename_i hx
            rw [Option.map_eq_some_iff] at h
            obtain ⟨l, h3, rfl⟩ := h
            obtain ⟨us, k1, k2, k3⟩ := flat_ok ev' hk g qs l vs h3 hl' t1 t2
            obtain ⟨⟨ws, rfl, hF⟩, hids⟩ := h1 0 q v rfl rfl _ hev
            have hwl : ws.length = n := by rw [← hF.1]; exact hx
            refine ⟨ws ++ us, by simp [k1, hwl, hx], ?_, fun i q' v' hq hv => ?_⟩
            · simp only [grpV, if_neg hn]
              rw [List.take_left' hwl, List.drop_left' hwl, k2]
            · by_cases hi : i < xs.length
              · rw [List.getElem?_append_left (by simpa using hi), List.getElem?_map, Option.map_eq_some_iff] at hq
                rw [List.getElem?_append_left (by omega)] at hv
                obtain ⟨x, hxi, rfl⟩ := hq
                intro a ha
                simp only [hk, Option.some.injEq] at ha
                subst ha
                exact ⟨hF.2 i x v' hxi hv, fun j hj => hids j (by simp only [A1.ids, List.mem_flatMap]; exact ⟨x, List.mem_of_getElem? hxi, hj⟩)⟩
              · rw [List.getElem?_append_right (by simpa using hi), List.length_map] at hq
                rw [List.getElem?_append_right (by omega), hwl, ← hx] at hv
                exact k3 _ q' v' hq hv
          · cases h
        · cases h
theorem ok_callv (old : RtR w home hd rt F0) (he : EvR ids w home hd rt ev a.eval) (hcall : ∀ f args r, call f args = some r → SatG ids P (ids f) (shapeOf f) args r) {f : Opd} {qs : List (Bool × Opd)} (hm : mCallv ids o.op f qs = true) {g : Nat} {caps : List SV} (hf : ev f = some (.fn g caps))
    (h : callvR call ev rt dst g caps qs = some (av, rt')) : OpOk ids P o a w home hd rt av rt' := by
  unfold mCallv at hm
  split at hm
  · rename_i c ho
    simp only [Bool.and_eq_true] at hm
    obtain ⟨h1, h2⟩ := hm
    split at h1
    · rename_i x hcl
      obtain ⟨g1, g2⟩ := all2_iff h2
      obtain ⟨⟨cs, hv, hF⟩, hids⟩ := he x f _ h1 hf
      unfold callvR at h
      split at h
      · rename_i l hl
        split at h
        · rename_i hor
          obtain ⟨us, k1, k2, k3⟩ := flat_ok (w := w) (home := home) (hd := hd) (rt := rt) (ids := ids) (ev := ev) (fun o => match o with | .k a => some a | .t n => ev (.t n)) (fun _ => rfl) (shapeOf g) qs l (c.args.toList.map a.eval) hl (by rw [List.length_map]; exact g1) (fun i q v hq hv x hx => by
            rw [List.getElem?_map, Option.map_eq_some_iff] at hv
            obtain ⟨y, hy, rfl⟩ := hv
            exact he y q.2 x (g2 i y q hy hq) hx) (fun i q v hq hv x hx => by
            rw [List.getElem?_map, Option.map_eq_some_iff] at hv
            obtain ⟨y, hy, rfl⟩ := hv
            obtain ⟨qb, z⟩ := q
            have hm := g2 i y _ hy hq
            cases z with
            | t n => exact he y (.t n) x hm hx
            | k c0 =>
              simp only [Option.some.injEq] at hx
              subst hx
              cases y with
              | const v0 =>
                obtain ⟨e1, e2⟩ := constOk_R (ids := ids) hm w home hd rt
                exact ⟨e1, fun j hj => by rw [e2] at hj; cases hj⟩
              | func g0 =>
                cases c0 with
                | fn g' l =>
                  cases l with
                  | nil =>
                    simp only [mOpd, beq_iff_eq] at hm
                    subst hm
                    exact ⟨⟨[], rfl, rfl, fun i x y hx => by simp at hx⟩, fun j hj => by simp [A1.ids] at hj⟩
                  | cons _ _ => cases hm
                | _ => cases hm
              | _ => cases hm)
          have hruns := callR_ok (P := P) (vs := us ++ cs) old hcall (by simp [k1, hF.1]) (fun i q v hq hv x hx => by
            by_cases hi : i < l.length
            · rw [List.getElem?_append_left hi] at hq
              rw [List.getElem?_append_left (by omega)] at hv
              exact k3 i q v hq hv x hx
            · rw [List.getElem?_append_right (by omega), List.getElem?_map, Option.map_eq_some_iff] at hq
              rw [List.getElem?_append_right (by omega), k1] at hv
              obtain ⟨z, hz, rfl⟩ := hq
              simp only [Option.some.injEq] at hx
              subst hx
              exact ⟨hF.2 _ z v hz hv, fun j hj => hids j (by simp only [A1.ids, List.mem_flatMap]; exact ⟨z, List.mem_of_getElem? hz, hj⟩)⟩) h
          have hgv : grpV (shapeOf g) (us ++ cs) = c.args.toList.map a.eval ++ cs := by
            simp only [Bool.or_eq_true, List.isEmpty_iff] at hor
            rcases hor with hc | hs
            · have hcs : cs = [] := List.eq_nil_of_length_eq_zero (by rw [← hF.1, hc]; rfl)
              rw [hcs, List.append_nil, List.append_nil]; exact k2
            · rw [hs] at k2 ⊢
              have k2 : us = _ := k2
              show us ++ cs = _
              rw [k2]
          rw [hgv] at hruns
          intro next Q hnext
          refine hruns.wp ?_ (fun v w' ⟨home', hd', s, hv⟩ => hnext v w' home' hd' s hv)
          unfold execOp
          rw [ho]
          have e : (c.args.toList.map a.eval ++ cs).toArray = c.args.map a.eval ++ cs.toArray := by apply Array.ext'; simp
          simp only [resolve, hcl, hv, Deferred.ofValue, Sem.run_bind, Sem.run_pure, Result.andThen_ok, invoke, Array.empty_append, e]
        · cases h
      · cases h
    · cases h1
  · cases hm
end
end Go.Proofs.YtecmolmlojehgaaGreat.T
namespace Go.Proofs.YtecmolmlojehgaaGreat.T
open Go
variable (ids : Nat → FuncId)

/-- What a run leaves of a frame's surroundings. -/
structure Grow (w : World) (home : Home) (hd : Lb → Value) (rt : Rts) (w' : World) (home' : Home) (hd' : Lb → Value) (rt' : Rts) : Prop where
  os : w'.os = w.os
  tape : w'.tape = w.tape
  output : w'.output = w.output
  size : w.heap.size ≤ w'.heap.size
  blk : ∀ b, b < w.heap.size → home b = none → w'.heap[b]? = w.heap[b]? ∧ home' b = none
  oth : ∀ b q, b < w.heap.size → home b = some (.x, q) → w'.heap[b]? = w.heap[b]? ∧ home' b = some (.x, q)
  pin : ∀ i, i < 64000 → ∀ r, rt' i = some r → r ≠ .gone → hd' (.r i) = hd (.r i) ∧ ∃ r0, rt i = some r0 ∧ r0 ≠ .gone
section
variable {w w' w2 : World} {home home' home2 : Home} {hd hd' hd2 : Lb → Value} {rt rt' rt2 : Rts} {F F' : Nat → Option Root}
theorem Grow.refl : Grow w home hd rt w home hd rt := ⟨rfl, rfl, rfl, Nat.le_refl _, fun _ _ h => ⟨rfl, h⟩, fun _ _ _ h => ⟨rfl, h⟩, fun _ _ r hr hne => ⟨rfl, r, hr, hne⟩⟩
theorem Grow.trans (h : Grow w home hd rt w' home' hd' rt') (k : Grow w' home' hd' rt' w2 home2 hd2 rt2) : Grow w home hd rt w2 home2 hd2 rt2 :=
  ⟨k.os.trans h.os, k.tape.trans h.tape, k.output.trans h.output, Nat.le_trans h.size k.size,
    fun b hb hn => by
      obtain ⟨e1, e2⟩ := h.blk b hb hn
      obtain ⟨e3, e4⟩ := k.blk b (Nat.lt_of_lt_of_le hb h.size) e2
      exact ⟨e3.trans e1, e4⟩,
    fun b q hb hn => by
      obtain ⟨e1, e2⟩ := h.oth b q hb hn
      obtain ⟨e3, e4⟩ := k.oth b q (Nat.lt_of_lt_of_le hb h.size) e2
      exact ⟨e3.trans e1, e4⟩,
    fun i hi r hr hne => by
      obtain ⟨e1, r1, h1, n1⟩ := k.pin i hi r hr hne
      obtain ⟨e2, r2, h2, n2⟩ := h.pin i hi r1 h1 n1
      exact ⟨e1.trans e2, r2, h2, n2⟩⟩
theorem Step.grow (h : Step w home hd rt F w' home' hd' rt' F') : Grow w home hd rt w' home' hd' rt' := ⟨h.os, h.tape, h.output, h.size, h.blk, h.oth, h.pin⟩
end
/-- The abstract frame says what the machine's frame holds. -/
structure FrR (w : World) (home : Home) (hd : Lb → Value) (N : Nat) (fr : Fr) (a : Act) : Prop where
  rel : RtR w home hd fr.rt F0
  sl : ∀ t av, fr.sl t = some av → ∃ v, a.tmps[t]? = some v ∧ AVR ids w home hd fr.rt av v ∧ ∀ i ∈ av.ids, (fr.rt i).isSome = true
  sz : a.tmps.size = N
  nd : a.defers = []
def mAny (P : Program) (o : Op) : PO → Bool
  | .call f qs => mCall ids o f qs
  | .callv f qs => mCallv ids o f qs
  | p => mPO ids P o p
def mDst (N : Nat) : Option Nat → Option Nat → Bool
  | some d, some d' => d == d' && decide (d < N)
  | none, none => true
  | _, _ => false
def mG (ops : Array Oper) : Option (Nat × Bool) → Option (Nat × Bool) → Bool
  | none, none => true
  | some (j, b), some (s, b') => b == b' && ((ops[j]?).bind (·.dst) == some s)
  | _, _ => false
def mOp (P : Program) (N : Nat) (ops : Array Oper) (o : Oper) (p : POp) : Bool := mDst N o.dst p.dst && mG ops o.guard p.g && mAny ids P o.op p.op && (match p.hide with | .no => true | _ => false)
section
variable {ids} {P : Program} {w : World} {home : Home} {hd : Lb → Value} {N : Nat} {fr fr' : Fr} {a : Act} {call : Nat → List Arg → Option Res} {ops : Array Oper}
theorem FrR.tmp (h : FrR ids w home hd N fr a) {t : Nat} {av : AV} (ht : fr.sl t = some av) : AVR ids w home hd fr.rt av (a.eval (.tmp t)) ∧ ∀ i ∈ av.ids, (fr.rt i).isSome = true := by
  obtain ⟨v, h1, h2, h3⟩ := h.sl t av ht
  have : a.eval (.tmp t) = v := by
    show a.tmps.getD t undef = v
    simp [h1]
  rw [this]
  exact ⟨h2, h3⟩
theorem FrR.ev (h : FrR ids w home hd N fr a) : EvR ids w home hd fr.rt fr.ev a.eval := by
  intro x q b hm hq
  cases q with
  | t n =>
    cases x <;> simp only [mOpd, Bool.false_eq_true] at hm
    have : n = n := rfl
    rename_i t
    have ht : t = n := by simpa using hm
    subst ht
    simp only [Fr.ev] at hq
    split at hq
    · rename_i b' hb
      injection hq with hq
      subst hq
      exact h.tmp hb
    · cases hq
  | k c =>
    simp only [Fr.ev, Option.some.injEq] at hq
    subst hq
    cases x with
    | const v =>
      obtain ⟨e1, e2⟩ := constOk_R (ids := ids) hm w home hd fr.rt
      exact ⟨e1, fun j hj => by rw [e2] at hj; cases hj⟩
    | func g =>
      cases c with
      | fn g' l =>
        cases l with
        | nil =>
          simp only [mOpd, beq_iff_eq] at hm
          subst hm
          exact ⟨⟨[], rfl, rfl, fun i x y hx => by simp at hx⟩, fun j hj => by simp [A1.ids] at hj⟩
        | cons _ _ => cases hm
      | _ => cases hm
    | _ => cases hm
theorem FrR.tp (h : FrR ids w home hd N fr a) : TpR ids w home hd fr.rt fr.tup a.eval := by
  intro t as ht
  simp only [Fr.tup] at ht
  split at ht
  · rename_i as' hs
    injection ht with ht
    subst ht
    obtain ⟨⟨vs, e1, e2⟩, e3⟩ := h.tmp hs
    exact ⟨vs, e1, e2, fun x hx i hi => e3 i (by simp only [AV.ids, List.mem_flatMap]; exact ⟨x, hx, hi⟩)⟩
  · cases ht
theorem A1R.step {w' : World} {home' : Home} {hd' : Lb → Value} {rt rt' : Rts} {F F' : Nat → Option Root} (s : Step w home hd rt F w' home' hd' rt' F') {x : A1} {v : Value} (h : A1R ids w home hd rt x v) (hp : ∀ i ∈ x.ids, (rt i).isSome = true) : A1R ids w' home' hd' rt' x v := by
  cases x with
  | s x => exact s.st x v hp h
  | agg xs =>
    obtain ⟨vs, e1, e2⟩ := h
    exact ⟨vs, e1, e2.1, fun i x y hx hy => s.st x y (fun j hj => hp j (by simp only [A1.ids, List.mem_flatMap]; exact ⟨x, List.mem_of_getElem? hx, hj⟩)) (e2.2 i x y hx hy)⟩
  | fn f xs =>
    obtain ⟨vs, e1, e2⟩ := h
    exact ⟨vs, e1, e2.1, fun i x y hx hy => s.st x y (fun j hj => hp j (by simp only [A1.ids, List.mem_flatMap]; exact ⟨x, List.mem_of_getElem? hx, hj⟩)) (e2.2 i x y hx hy)⟩
theorem AVR.step {w' : World} {home' : Home} {hd' : Lb → Value} {rt rt' : Rts} {F F' : Nat → Option Root} (s : Step w home hd rt F w' home' hd' rt' F') {x : AV} {v : Value} (h : AVR ids w home hd rt x v) (hp : ∀ i ∈ x.ids, (rt i).isSome = true) : AVR ids w' home' hd' rt' x v := by
  cases x with
  | v a => exact A1R.step s h hp
  | tup as =>
    obtain ⟨vs, e1, e2⟩ := h
    exact ⟨vs, e1, e2.1, fun i x y hx hy => A1R.step s (e2.2 i x y hx hy) (fun j hj => hp j (by simp only [AV.ids, List.mem_flatMap]; exact ⟨x, List.mem_of_getElem? hx, hj⟩))⟩
  | undef => exact h
theorem mDst_spec {d p : Option Nat} (h : mDst N d p = true) : d = p ∧ ∀ t, d = some t → t < N := by
  cases d <;> cases p <;> simp only [mDst, Bool.false_eq_true, Bool.and_eq_true, beq_iff_eq, decide_eq_true_eq] at h
  · exact ⟨rfl, fun t h => by cases h⟩
  · obtain ⟨rfl, h⟩ := h
    exact ⟨rfl, fun t e => by injection e with e; subst e; exact h⟩
/-- A value is put into its slot. -/
theorem FrR.put {w' : World} {home' : Home} {hd' : Lb → Value} {rt' : Rts} (h : FrR ids w home hd N fr a) (s : Step w home hd fr.rt F0 w' home' hd' rt' F0) {d : Option Nat} (hd0 : ∀ t, d = some t → t < N) {av : AV} {v : Value} (hv : AVR ids w' home' hd' rt' av v) (hp : ∀ i ∈ av.ids, (rt' i).isSome = true) :
    FrR ids w' home' hd' N ({ fr with rt := rt' }.out d av) (a.put d v) := by
  have old : ∀ t x, fr.sl t = some x → ∃ v, a.tmps[t]? = some v ∧ AVR ids w' home' hd' rt' x v ∧ ∀ i ∈ x.ids, (rt' i).isSome = true := by
    intro t x ht
    obtain ⟨v, h1, h2, h3⟩ := h.sl t x ht
    exact ⟨v, h1, AVR.step s h2 h3, fun i hi => s.pres i (h3 i hi)⟩
  cases d with
  | none => exact ⟨s.rel, old, h.sz, h.nd⟩
  | some t =>
    refine ⟨s.rel, fun t' x hx => ?_, by simp [Act.put, h.sz], h.nd⟩
    simp only [Fr.out, Fr.set, upd] at hx
    have ht := hd0 t rfl
    split at hx
    · rename_i e
      injection hx with hx
      subst hx e
      refine ⟨v, ?_, hv, hp⟩
      simp only [Act.put]
      rw [Array.getElem?_setIfInBounds_self_of_lt (by rw [h.sz]; exact ht)]
    · rename_i e
      obtain ⟨u, h1, h2, h3⟩ := old t' x hx
      refine ⟨u, ?_, h2, h3⟩
      simp only [Act.put]
      rw [Array.getElem?_setIfInBounds_ne (Ne.symm e)]
      exact h1
theorem exec_ok (hcall : ∀ f args r, call f args = some r → SatG ids P (ids f) (shapeOf f) args r) (h : FrR ids w home hd N fr a) {o : Oper} {p : POp} (hd0 : mDst N o.dst p.dst = true) (hm : mAny ids P o.op p.op = true) (hh : p.hide = .no) (he : fr.exec call p = some fr') {next : Act → World → Prop} {Q : Exit → Act → World → Prop}
    (hn : ∀ a' w' home' hd', Grow w home hd fr.rt w' home' hd' fr'.rt → FrR ids w' home' hd' N fr' a' → next a' w') : o.wp P a w next Q := by
  obtain ⟨hdst, hlt⟩ := mDst_spec hd0
  unfold Fr.exec at he
  rw [hh] at he
  simp only [mask, merge] at he
  split at he
  · rename_i av rt' hact
    split at he
    · rename_i hids
      injection he with he
      subst he
      have hp : ∀ i ∈ av.ids, (rt' i).isSome = true := fun i hi => by
        have := List.all_eq_true.1 hids i hi
        simp only [Bool.and_eq_true] at this
        exact this.1
      have hok : OpOk ids P o a w home hd fr.rt av rt' := by
        have hev := h.ev
        cases hpo : p.op with
        | call f qs =>
          rw [hpo] at hm hact
          exact ok_call h.rel hev hcall hm hact
        | callv f qs =>
          rw [hpo] at hm hact
          simp only [act] at hact
          split at hact
          · rename_i g caps hf
            exact ok_callv h.rel hev hcall hm hf hact
          · cases hact
        | _ =>
          rw [hpo] at hm hact
          refine act_ok h.rel hev h.tp ?_ hact
          exact hm
      refine hok next Q (fun v w' home' hd' s hv => hn _ w' home' hd' ?_ ?_)
      · cases p.dst <;> exact s.grow
      · rw [← hdst]
        exact h.put s (fun t ht => hlt t ht) hv hp
    · cases he
  · cases he
end
end Go.Proofs.YtecmolmlojehgaaGreat.T
namespace Go.Proofs.YtecmolmlojehgaaGreat.T
open Go
variable (ids : Nat → FuncId)

section
variable {ids} {P : Program} {w : World} {home : Home} {hd : Lb → Value} {N : Nat} {fr fr' : Fr} {a : Act} {call : Nat → List Arg → Option Res} {ops : Array Oper}
theorem step_ok (hcall : ∀ f args r, call f args = some r → SatG ids P (ids f) (shapeOf f) args r) (h : FrR ids w home hd N fr a) {o : Oper} {p : POp} (hm : mOp ids P N ops o p = true) (he : fr.step call p = some fr') {next : Act → World → Prop} {Q : Exit → Act → World → Prop}
    (hn : ∀ a' w' home' hd', Grow w home hd fr.rt w' home' hd' fr'.rt → FrR ids w' home' hd' N fr' a' → next a' w') :
    if Region.wanted o (yielded ops a.tmps) then o.wp P a w next Q ∨ (o.asks P a w ∧ LetsOut Q) else next (a.put o.dst undef) w := by
  simp only [mOp, Bool.and_eq_true] at hm
  obtain ⟨⟨⟨h1, h2⟩, h3⟩, h4⟩ := hm
  have hno : p.hide = .no := by
    cases hp : p.hide with
    | no => rfl
    | all => rw [hp] at h4; cases h4
    | ids a b => rw [hp] at h4; cases h4
  have hput : fr' = fr.out p.dst .undef → next (a.put o.dst undef) w := by
    intro e
    obtain ⟨hdst, hlt⟩ := mDst_spec h1
    refine hn _ w home hd ?_ ?_
    · rw [e]; cases p.dst <;> exact Grow.refl
    · rw [e, hdst]
      have := h.put (Step.refl h.rel) (d := p.dst) (fun t ht => hlt t (by rw [hdst]; exact ht)) (av := .undef) (v := undef) rfl (fun i hi => by cases hi)
      exact this
  unfold Fr.step at he
  cases hg : o.guard with
  | none =>
    rw [hg] at h2
    cases hpg : p.g with
    | some x => rw [hpg] at h2; obtain ⟨j, b⟩ := x; cases h2
    | none =>
      rw [hpg] at he
      have hw : Region.wanted o (yielded ops a.tmps) = true := by unfold Region.wanted; rw [hg]
      rw [hw, if_pos rfl]
      exact Or.inl (exec_ok hcall h h1 h3 hno he hn)
  | some x =>
    obtain ⟨j, want⟩ := x
    rw [hg] at h2
    cases hpg : p.g with
    | none => rw [hpg] at h2; cases h2
    | some y =>
      obtain ⟨s, want'⟩ := y
      rw [hpg] at h2 he
      simp only [mG, Bool.and_eq_true, beq_iff_eq] at h2
      obtain ⟨rfl, hj⟩ := h2
      simp only at he
      split at he
      · rename_i b hs
        obtain ⟨v, e1, e2, _⟩ := h.sl s _ hs
        have hv : v = .bool b := svR_val (hd := hd) (rt := fr.rt) e2
        have hy : yielded ops a.tmps j = some b := by
          unfold yielded
          rw [hj, Option.bind_some, e1, hv]
        have hw : Region.wanted o (yielded ops a.tmps) = (b == want) := by
          unfold Region.wanted
          rw [hg]
          simp only [hy]
          cases b <;> cases want <;> rfl
        rw [hw]
        split at he
        · rename_i hb
          subst hb
          rw [if_pos (by simp)]
          exact Or.inl (exec_ok hcall h h1 h3 hno he hn)
        · rename_i hb
          rw [if_neg (by simpa using hb)]
          injection he with he
          exact hput he.symm
      · rename_i hs
        obtain ⟨v, e1, e2, _⟩ := h.sl s _ hs
        have hv : v = undef := e2
        have hy : yielded ops a.tmps j = none := by
          unfold yielded
          rw [hj, Option.bind_some, e1, hv]
          rfl
        have hw : Region.wanted o (yielded ops a.tmps) = false := by
          unfold Region.wanted
          rw [hg]
          simp only [hy]
          rfl
        rw [hw, if_neg (by simp)]
        injection he with he
        exact hput he.symm
      · cases he
theorem steps_ok (hcall : ∀ f args r, call f args = some r → SatG ids P (ids f) (shapeOf f) args r) {Q : Exit → Act → World → Prop} : ∀ {l : List POp} {i : Nat} {w : World} {home : Home} {hd : Lb → Value} {fr fr' : Fr} {a : Act}, FrR ids w home hd N fr a →
    (∀ (k : Nat) p, l[k]? = some p → ∃ o, ops[i + k]? = some o ∧ mOp ids P N ops o p = true) → fr.steps call l = some fr' →
    (∀ a' w' home' hd', Grow w home hd fr.rt w' home' hd' fr'.rt → FrR ids w' home' hd' N fr' a' → Q .normal a' w') → wpOps P ops Q (List.range' i l.length) a w
  | [], i, w, home, hd, fr, fr', a, h, _, he, hq => by
    simp only [Fr.steps, Option.some.injEq] at he
    subst he
    exact hq a w home hd Grow.refl h
  | p :: l, i, w, home, hd, fr, fr', a, h, hm, he, hq => by
    simp only [Fr.steps] at he
    split at he
    · rename_i fr1 h1
      obtain ⟨o, ho, hmo⟩ := hm 0 p rfl
      rw [Nat.add_zero] at ho
      simp only [List.length_cons, List.range'_succ, wpOps, ho]
      refine step_ok hcall h hmo h1 (fun a' w' home' hd' g hf => ?_)
      refine steps_ok hcall hf (fun k q hk => ?_) he (fun a2 w2 home2 hd2 g2 hf2 => hq a2 w2 home2 hd2 (g.trans g2) hf2)
      obtain ⟨o', ho', hm'⟩ := hm (k + 1) q (by simpa using hk)
      exact ⟨o', by rw [show i + 1 + k = i + (k + 1) by omega]; exact ho', hm'⟩
    · cases he

/-! ### What is kept -/
theorem asl_filterMap {β : Type} (g : Nat → Option β) (m : List Nat) (j : Nat) : asl (m.filterMap (fun i => (g i).map (fun r => (i, r)))) j = if j ∈ m then g j else none := by
  induction m with
  | nil => rfl
  | cons i m ih =>
    rw [List.filterMap_cons]
    cases hg : g i with
    | none =>
      simp only [hg, Option.map_none]
      rw [ih]
      by_cases hj : j = i
      · subst hj
        simp [hg]
      · simp [hj]
    | some r =>
      simp only [hg, Option.map_some, asl, lookup_cons]
      by_cases hj : j = i
      · subst hj; simp [hg]
      · rw [if_neg hj]
        have : asl (m.filterMap (fun i => (g i).map (fun r => (i, r)))) j = _ := ih
        simp only [asl] at this
        rw [this]
        simp [hj]
/-- The roots that are kept. -/
def keepRt (rt : Rts) (m : List Nat) : Rts := fun i => if i ∈ m then (rt i).bind (·.tidy (cut rt m)) else none
theorem keep_rt (fr : Fr) (live : List Nat) : (fr.keep live).rt = keepRt fr.rt (fr.meets live) := by
  funext j
  simp only [Fr.keep, asl_filterMap, keepRt]
  by_cases hj : j ∈ fr.meets live
  · simp only [hj, if_true]
    have : cut fr.rt (fr.meets live) j = fr.rt j := by simp [cut, hj]
    rw [this]
  · simp [hj]
theorem keep_sl (fr : Fr) (live : List Nat) (t : Nat) : (fr.keep live).sl t = if t ∈ live then (fr.sl t).map (·.tidy (cut fr.rt (fr.meets live))) else none := by
  have := asl_filterMap (fun s => (fr.sl s).map (·.tidy (cut fr.rt (fr.meets live)))) live t
  rw [← this]
  simp only [Fr.keep]
  congr 2
  funext s
  cases fr.sl s <;> rfl
def keepHome (home : Home) (rt : Rts) : Home := fun b =>
  match home b with
  | some (.r i, q) => if (rt i).isSome then some (.r i, q) else none
  | y => y
theorem keepHome_none {rt : Rts} {b : Nat} (h : home b = none) : keepHome home rt b = none := by simp [keepHome, h]
theorem keepHome_r {rt : Rts} {b i : Nat} {q : Path} (h : home b = some (.r i, q)) (hr : (rt i).isSome = true) : keepHome home rt b = some (.r i, q) := by simp [keepHome, h, hr]
theorem keepRt_arr {rt : Rts} {m : List Nat} {i : Nat} {d t : Bool} {c : C} (h : keepRt rt m i = some (.arr d t c)) : t = false ∧ ∃ t0, rt i = some (.arr d t0 c) := by
  simp only [keepRt] at h
  split at h
  · cases hr : rt i with
    | none => rw [hr] at h; cases h
    | some r =>
      rw [hr] at h
      cases r with
      | arr d0 t0 c0 =>
        simp only [Option.bind_some, Root.tidy, Option.some.injEq, Root.arr.injEq] at h
        obtain ⟨rfl, h2, rfl⟩ := h
        exact ⟨h2.symm, t0, rfl⟩
      | box xs => cases h
      | gone => cases h
  · cases h
theorem keepRt_box {rt : Rts} {m : List Nat} {i : Nat} {xs : List SV} (h : keepRt rt m i = some (.box xs)) : ∃ ys, rt i = some (.box ys) ∧ xs = ys.map (·.tidy (cut rt m)) := by
  simp only [keepRt] at h
  split at h
  · cases hr : rt i with
    | none => rw [hr] at h; cases h
    | some r =>
      rw [hr] at h
      cases r with
      | arr d0 t0 c0 => cases h
      | box ys =>
        simp only [Option.bind_some, Root.tidy, Option.some.injEq, Root.box.injEq] at h
        exact ⟨ys, rfl, h.symm⟩
      | gone => cases h
  · cases h
theorem keepRt_gone {rt : Rts} {m : List Nat} {i : Nat} : keepRt rt m i ≠ some .gone := by
  intro h
  simp only [keepRt] at h
  split at h
  · cases hr : rt i with
    | none => rw [hr] at h; cases h
    | some r => rw [hr] at h; cases r <;> cases h
  · cases h
theorem cut_some {rt : Rts} {m : List Nat} {i : Nat} {r : Root} (h : cut rt m i = some r) : i ∈ m ∧ rt i = some r := by
  simp only [cut] at h
  split at h
  · rename_i hc; exact ⟨by simpa using hc, h⟩
  · cases h
theorem tidy_ids {rt : Rts} {m : List Nat} {x : SV} : ∀ i ∈ (x.tidy (cut rt m)).ids, (keepRt rt m i).isSome = true := by
  intro i hi
  have key : ∀ {id : Nat} {r : Root}, cut rt m id = some r → r ≠ .gone → (keepRt rt m id).isSome = true := by
    intro id r h hne
    obtain ⟨h1, h2⟩ := cut_some h
    simp only [keepRt, h1, if_true, h2, Option.bind_some]
    cases r with
    | gone => exact absurd rfl hne
    | arr d t c => rfl
    | box xs => rfl
  cases x with
  | c c => cases hi
  | nil k => cases hi
  | pm cs off => cases hi
  | ref id p off len =>
    simp only [SV.tidy] at hi
    split at hi
    · rename_i d t c hr
      split at hi
      · simp only [SV.ids, List.mem_singleton] at hi; subst hi; exact key hr (by simp)
      · cases hi
    · cases hi
  | pe id p k off =>
    simp only [SV.tidy] at hi
    split at hi
    · rename_i d t c hr
      split at hi
      · simp only [SV.ids, List.mem_singleton] at hi; subst hi; exact key hr (by simp)
      · cases hi
    · cases hi
  | pb id off =>
    simp only [SV.tidy] at hi
    split at hi
    · rename_i xs hr
      simp only [SV.ids, List.mem_singleton] at hi; subst hi; exact key hr (by simp)
    · cases hi
theorem SVR.tidy {rt : Rts} {F : Nat → Option Root} (old : RtR w home hd rt F) (m : List Nat) {x : SV} {v : Value} (h : SVR w home hd rt x v) : SVR w (keepHome home (keepRt rt m)) hd (keepRt rt m) (x.tidy (cut rt m)) v := by
  have hn : ∀ b, b < w.heap.size → home b = none → w.heap[b]? = w.heap[b]? ∧ keepHome home (keepRt rt m) b = none := fun b _ hb => ⟨rfl, keepHome_none hb⟩
  have hole : SVR w (keepHome home (keepRt rt m)) hd (keepRt rt m) (.c .hole) v := CR.hole h.one
  cases x with
  | c c => exact h.imm old rfl hn
  | nil k => exact h.imm old rfl hn
  | pm cs off => exact h.imm old rfl hn
  | ref id p off len =>
    simp only [SV.tidy]
    split
    · rename_i d t c hr
      obtain ⟨_, hr⟩ := cut_some hr
      split
      · rename_i hc
        refine ⟨h.1, fun d1 t1 c1 hr1 _ c' u hg hu sz k tot hs => ?_⟩
        obtain ⟨_, t0, e⟩ := keepRt_arr hr1
        rw [hr] at e; injection e with e; injection e with e1 e2 e3; subst e1 e2 e3
        exact h.2 d t c hr (by simpa using hc) c' u hg hu sz k tot hs
      · exact hole
    · exact hole
  | pe id p k off =>
    simp only [SV.tidy]
    split
    · rename_i d t c hr
      obtain ⟨_, hr⟩ := cut_some hr
      split
      · rename_i hc
        refine ⟨h.1, fun d1 t1 c1 hr1 _ c' u hg hu sz n tot hs hi => ?_⟩
        obtain ⟨_, t0, e⟩ := keepRt_arr hr1
        rw [hr] at e; injection e with e; injection e with e1 e2 e3; subst e1 e2 e3
        exact h.2 d t c hr (by simpa using hc) c' u hg hu sz n tot hs hi
      · exact hole
    · exact hole
  | pb id off =>
    simp only [SV.tidy]
    split
    · rename_i xs hr
      obtain ⟨_, hr⟩ := cut_some hr
      exact ⟨h.1, fun ys _ => h.2 xs hr⟩
    · exact hole
theorem F2.map {α β γ : Type} {R : α → β → Prop} {S : γ → β → Prop} {f : α → γ} {xs : List α} {ys : List β} (h : F2 R xs ys) (hf : ∀ x y, x ∈ xs → R x y → S (f x) y) : F2 S (xs.map f) ys := by
  refine ⟨by rw [List.length_map]; exact h.1, fun i z y hz hy => ?_⟩
  rw [List.getElem?_map, Option.map_eq_some_iff] at hz
  obtain ⟨x, hx, rfl⟩ := hz
  exact hf x y (List.mem_of_getElem? hx) (h.2 i x y hx hy)
theorem A1R.tidy {rt : Rts} {F : Nat → Option Root} (old : RtR w home hd rt F) (m : List Nat) {x : A1} {v : Value} (h : A1R ids w home hd rt x v) : A1R ids w (keepHome home (keepRt rt m)) hd (keepRt rt m) (x.tidy (cut rt m)) v := by
  cases x with
  | s x => exact SVR.tidy old m h
  | agg xs =>
    obtain ⟨vs, e1, e2⟩ := h
    exact ⟨vs, e1, e2.map (fun x y _ h => SVR.tidy old m h)⟩
  | fn f xs =>
    obtain ⟨vs, e1, e2⟩ := h
    exact ⟨vs, e1, e2.map (fun x y _ h => SVR.tidy old m h)⟩
theorem AVR.tidy {rt : Rts} {F : Nat → Option Root} (old : RtR w home hd rt F) (m : List Nat) {x : AV} {v : Value} (h : AVR ids w home hd rt x v) : AVR ids w (keepHome home (keepRt rt m)) hd (keepRt rt m) (x.tidy (cut rt m)) v := by
  cases x with
  | v a => exact A1R.tidy old m h
  | tup as =>
    obtain ⟨vs, e1, e2⟩ := h
    exact ⟨vs, e1, e2.map (fun x y _ h => A1R.tidy old m h)⟩
  | undef => exact h
theorem A1.tidy_ids {rt : Rts} {m : List Nat} {x : A1} : ∀ i ∈ (x.tidy (cut rt m)).ids, (keepRt rt m i).isSome = true := by
  intro i hi
  cases x with
  | s x => exact Go.Proofs.YtecmolmlojehgaaGreat.T.tidy_ids i hi
  | agg xs =>
    simp only [A1.tidy, A1.ids, List.mem_flatMap, List.mem_map] at hi
    obtain ⟨y, ⟨x, _, rfl⟩, h2⟩ := hi
    exact Go.Proofs.YtecmolmlojehgaaGreat.T.tidy_ids i h2
  | fn f xs =>
    simp only [A1.tidy, A1.ids, List.mem_flatMap, List.mem_map] at hi
    obtain ⟨y, ⟨x, _, rfl⟩, h2⟩ := hi
    exact Go.Proofs.YtecmolmlojehgaaGreat.T.tidy_ids i h2
theorem AV.tidy_ids {rt : Rts} {m : List Nat} {x : AV} : ∀ i ∈ (x.tidy (cut rt m)).ids, (keepRt rt m i).isSome = true := by
  intro i hi
  cases x with
  | v a => exact A1.tidy_ids i hi
  | tup as =>
    simp only [AV.tidy, AV.ids, List.mem_flatMap, List.mem_map] at hi
    obtain ⟨y, ⟨x, _, rfl⟩, h2⟩ := hi
    exact A1.tidy_ids i h2
  | undef => cases hi
theorem keep_rel {rt : Rts} (old : RtR w home hd rt F0) (m : List Nat) : RtR w (keepHome home (keepRt rt m)) hd (keepRt rt m) F0 := by
  refine ⟨fun l r hr => ?_, fun b l p hb => ?_, fun l r hr => ?_⟩
  · cases l with
    | x => simp only [ext, Option.some.injEq] at hr; subst hr; exact Or.inl rfl
    | t k => cases hr
    | r i =>
      have hr' : keepRt rt m i = some r := hr
      have hsome : (keepRt rt m i).isSome = true := by rw [hr']; rfl
      cases r with
      | gone => trivial
      | arr d t c =>
        obtain ⟨_, t0, e⟩ := keepRt_arr hr'
        have hold : CR w home (arrTg d (.r i)) c (hd (.r i)) := old.root (.r i) _ e
        show CR w _ (arrTg d (.r i)) c (hd (.r i))
        refine hold.move (fun q b _ hl => ⟨rfl, ?_⟩) (Ok.refl _)
        rcases arrTg_exts d (.r i) q with h1 | h1
        · rw [h1] at hl ⊢; exact keepHome_none hl
        · rw [h1] at hl ⊢; exact keepHome_r hl hsome
      | box xs =>
        obtain ⟨ys, e, rfl⟩ := keepRt_box hr'
        obtain ⟨b, cur, e1, k1, k2, k3, k4⟩ := RR.box (old.root (.r i) _ e)
        exact Or.inr ⟨b, cur, e1, k1, keepHome_r k2 hsome, k3, k4.map (fun x y _ h => SVR.tidy old m h)⟩
  · have hcase : home b = some (l, p) ∧ ∀ i, l = .r i → (keepRt rt m i).isSome = true := by
      unfold keepHome at hb
      split at hb
      · rename_i i q hh
        split at hb
        · rename_i hs
          injection hb with hb; injection hb with e1 e2; subst e1 e2
          exact ⟨hh, fun j e => by injection e with e; subst e; exact hs⟩
        · cases hb
      · rename_i hne
        exact ⟨hb, fun i e => by subst e; exact absurd hb (hne i p)⟩
    obtain ⟨h1, h2⟩ := hcase
    obtain ⟨h3, r, h4, h5⟩ := old.lab b l p h1
    refine ⟨h3, ?_⟩
    cases l with
    | x => exact ⟨.box [], rfl, by simp⟩
    | t k => cases h4
    | r i =>
      obtain ⟨r', hr'⟩ := Option.isSome_iff_exists.1 (h2 i rfl)
      exact ⟨r', hr', fun e => keepRt_gone (by rw [← e]; exact hr')⟩
  · cases l with
    | x => simp only [ext, Option.some.injEq] at hr; subst hr; intro i hi; simp [Root.ids] at hi
    | t k => cases hr
    | r i =>
      have hr' : keepRt rt m i = some r := hr
      intro j hj
      cases r with
      | gone => cases hj
      | arr d t c => cases hj
      | box xs =>
        obtain ⟨ys, e, rfl⟩ := keepRt_box hr'
        simp only [Root.ids, List.mem_flatMap, List.mem_map] at hj
        obtain ⟨y, ⟨x, _, rfl⟩, h2⟩ := hj
        exact Go.Proofs.YtecmolmlojehgaaGreat.T.tidy_ids j h2
theorem keep_grow {rt : Rts} (m : List Nat) : Grow w home hd rt w (keepHome home (keepRt rt m)) hd (keepRt rt m) := by
  refine ⟨rfl, rfl, rfl, Nat.le_refl _, fun b _ h => ⟨rfl, keepHome_none h⟩, fun b q _ h => ⟨rfl, by simp [keepHome, h]⟩, fun i _ r hr hne => ⟨rfl, ?_⟩⟩
  cases r with
  | gone => exact absurd rfl hne
  | arr d t c => obtain ⟨_, t0, e⟩ := keepRt_arr hr; exact ⟨_, e, by simp⟩
  | box xs => obtain ⟨ys, e, _⟩ := keepRt_box hr; exact ⟨_, e, by simp⟩
theorem keep_ok (h : FrR ids w home hd N fr a) (live : List Nat) : FrR ids w (keepHome home (keepRt fr.rt (fr.meets live))) hd N (fr.keep live) a := by
  refine ⟨by rw [keep_rt]; exact keep_rel h.rel _, fun t av ht => ?_, h.sz, h.nd⟩
  rw [keep_sl] at ht
  split at ht
  · rw [Option.map_eq_some_iff] at ht
    obtain ⟨av0, h1, rfl⟩ := ht
    obtain ⟨v, h2, h3, _⟩ := h.sl t av0 h1
    rw [keep_rt]
    exact ⟨v, h2, AVR.tidy h.rel _ h3, AV.tidy_ids⟩
  · cases ht
end
end Go.Proofs.YtecmolmlojehgaaGreat.T
namespace Go.Proofs.YtecmolmlojehgaaGreat.T
open Go
variable (ids : Nat → FuncId)

theorem renId_mem {m : List Nat} {i j : Nat} (h : renId m i = some j) : i ∈ m ∧ (i < 64000 → j = i) ∧ (¬ i < 64000 → ∃ k, m[k]? = some i ∧ j = 1000000 + k) := by
  unfold renId at h
  split at h
  · rename_i k hk
    have hk' : List.findIdx? (fun x => x == i) m = some k := hk
    rw [List.findIdx?_eq_some_iff_getElem] at hk'
    obtain ⟨hlt, h1, _⟩ := hk'
    have h1 : m[k] = i := by simpa using h1
    injection h with h
    refine ⟨by rw [← h1]; exact List.getElem_mem hlt, fun hi => by rw [if_pos hi] at h; exact h.symm, fun hi => ⟨k, by rw [List.getElem?_eq_getElem hlt, h1], by rw [if_neg hi] at h; exact h.symm⟩⟩
  · cases h
theorem renId_some {m : List Nat} {i : Nat} (h : i ∈ m) : ∃ j, renId m i = some j := by
  unfold renId
  have := (List.isSome_idxOf? (l := m) (a := i)).2 h
  obtain ⟨k, hk⟩ := Option.isSome_iff_exists.1 this
  rw [hk]
  exact ⟨_, rfl⟩
theorem renId_inj {m : List Nat} {i i' j : Nat} (h : renId m i = some j) (h' : renId m i' = some j) : i = i' := by
  obtain ⟨_, a1, a2⟩ := renId_mem h
  obtain ⟨_, b1, b2⟩ := renId_mem h'
  by_cases hi : i < 64000
  · have e1 := a1 hi
    by_cases hi' : i' < 64000
    · have e2 := b1 hi'; omega
    · obtain ⟨k, _, e2⟩ := b2 hi'; omega
  · obtain ⟨k, e1, e2⟩ := a2 hi
    by_cases hi' : i' < 64000
    · have e3 := b1 hi'; omega
    · obtain ⟨k', e3, e4⟩ := b2 hi'
      have : k = k' := by omega
      subst this
      rw [e1] at e3
      injection e3
def invId (m : List Nat) (j : Nat) : Option Nat := m.find? (fun i => renId m i == some j)
theorem invId_some {m : List Nat} {i j : Nat} (h : invId m j = some i) : i ∈ m ∧ renId m i = some j := by
  unfold invId at h
  have h1 := List.find?_some h
  exact ⟨List.mem_of_find?_eq_some h, by simpa using h1⟩
theorem invId_ren {m : List Nat} {i j : Nat} (h : renId m i = some j) : invId m j = some i := by
  obtain ⟨hm, _⟩ := renId_mem h
  cases hf : invId m j with
  | none =>
    unfold invId at hf
    rw [List.find?_eq_none] at hf
    exact absurd (by simpa using h) (hf i hm)
  | some i' => rw [renId_inj (invId_some hf).2 h]
def renRt (m : List Nat) (rt : Rts) : Rts := fun j =>
  match invId m j with
  | some i => (rt i).map (·.ren m)
  | none => none
def renHome (m : List Nat) (home : Home) : Home := fun b =>
  match home b with
  | some (.r i, q) => (renId m i).map (fun j => (.r j, q))
  | y => y
def renHd (m : List Nat) (hd : Lb → Value) : Lb → Value
  | .r j =>
    match invId m j with
    | some i => hd (.r i)
    | none => undef
  | l => hd l
section
variable {ids} {P : Program} {w : World} {home : Home} {hd : Lb → Value} {N : Nat} {fr fr' : Fr} {a : Act} {m : List Nat} {rt : Rts}
theorem renRt_at {i j : Nat} (h : renId m i = some j) : renRt m rt j = (rt i).map (·.ren m) := by simp only [renRt, invId_ren h]
theorem renHd_at {i j : Nat} (h : renId m i = some j) : renHd m hd (.r j) = hd (.r i) := by simp only [renHd, invId_ren h]
theorem renHome_none {b : Nat} (h : home b = none) : renHome m home b = none := by simp [renHome, h]
theorem renHome_x {b : Nat} {q : Path} (h : home b = some (.x, q)) : renHome m home b = some (.x, q) := by simp [renHome, h]
theorem renHome_r {b i j : Nat} {q : Path} (h : home b = some (.r i, q)) (hr : renId m i = some j) : renHome m home b = some (.r j, q) := by simp [renHome, h, hr]
theorem SVR.ren {F : Nat → Option Root} (old : RtR w home hd rt F) {x : SV} {v : Value} (h : SVR w home hd rt x v) : SVR w (renHome m home) (renHd m hd) (renRt m rt) (x.ren m) v := by
  have hn : ∀ b, b < w.heap.size → home b = none → w.heap[b]? = w.heap[b]? ∧ renHome m home b = none := fun b _ hb => ⟨rfl, renHome_none hb⟩
  have hole : SVR w (renHome m home) (renHd m hd) (renRt m rt) (.c .hole) v := CR.hole h.one
  have harr : ∀ {i j : Nat} {d t : Bool} {c : C}, renId m i = some j → renRt m rt j = some (.arr d t c) → rt i = some (.arr d t c) := by
    intro i j d t c hij hr
    rw [renRt_at hij, Option.map_eq_some_iff] at hr
    obtain ⟨r, h1, h2⟩ := hr
    cases r with
    | arr d' t' c' => rw [h1, ← h2]; rfl
    | box xs => cases h2
    | gone => cases h2
  cases x with
  | c c => exact h.imm old rfl hn
  | nil k => exact h.imm old rfl hn
  | pm cs off => exact h.imm old rfl hn
  | ref id p off len =>
    simp only [SV.ren]
    split
    · rename_i j hj
      refine ⟨h.1, fun d t c hr ht c' u hg hu sz n tot hs => ?_⟩
      rw [renHd_at hj] at hu
      exact h.2 d t c (harr hj hr) ht c' u hg hu sz n tot hs
    · exact hole
  | pe id p k off =>
    simp only [SV.ren]
    split
    · rename_i j hj
      refine ⟨h.1, fun d t c hr ht c' u hg hu sz n tot hs hi => ?_⟩
      rw [renHd_at hj] at hu
      exact h.2 d t c (harr hj hr) ht c' u hg hu sz n tot hs hi
    · exact hole
  | pb id off =>
    simp only [SV.ren]
    split
    · rename_i j hj
      refine ⟨h.1, fun ys hr => ?_⟩
      rw [renRt_at hj, Option.map_eq_some_iff] at hr
      obtain ⟨r, h1, h2⟩ := hr
      cases r with
      | box xs => rw [renHd_at hj]; exact h.2 xs h1
      | arr d' t' c' => cases h2
      | gone => cases h2
    · exact hole
theorem A1R.ren {F : Nat → Option Root} (old : RtR w home hd rt F) {x : A1} {v : Value} (h : A1R ids w home hd rt x v) : A1R ids w (renHome m home) (renHd m hd) (renRt m rt) (x.ren m) v := by
  cases x with
  | s x => exact SVR.ren old h
  | agg xs =>
    obtain ⟨vs, e1, e2⟩ := h
    exact ⟨vs, e1, e2.map (fun x y _ h => SVR.ren old h)⟩
  | fn f xs =>
    obtain ⟨vs, e1, e2⟩ := h
    exact ⟨vs, e1, e2.map (fun x y _ h => SVR.ren old h)⟩
theorem AVR.ren {F : Nat → Option Root} (old : RtR w home hd rt F) {x : AV} {v : Value} (h : AVR ids w home hd rt x v) : AVR ids w (renHome m home) (renHd m hd) (renRt m rt) (x.ren m) v := by
  cases x with
  | v a => exact A1R.ren old h
  | tup as =>
    obtain ⟨vs, e1, e2⟩ := h
    exact ⟨vs, e1, e2.map (fun x y _ h => A1R.ren old h)⟩
  | undef => exact h
theorem SV.ren_ids {x : SV} (h : ∀ i ∈ x.ids, (rt i).isSome = true) : ∀ j ∈ (x.ren m).ids, (renRt m rt j).isSome = true := by
  intro j hj
  have key : ∀ {i : Nat}, renId m i = some j → (rt i).isSome = true → (renRt m rt j).isSome = true := by
    intro i hi hr
    rw [renRt_at hi, Option.isSome_map]; exact hr
  cases x with
  | c c => cases hj
  | nil k => cases hj
  | pm cs off => cases hj
  | ref id p off len =>
    simp only [SV.ren] at hj
    split at hj
    · rename_i k hk
      simp only [SV.ids, List.mem_singleton] at hj; subst hj
      exact key hk (h id (by simp [SV.ids]))
    · cases hj
  | pe id p k off =>
    simp only [SV.ren] at hj
    split at hj
    · rename_i k hk
      simp only [SV.ids, List.mem_singleton] at hj; subst hj
      exact key hk (h id (by simp [SV.ids]))
    · cases hj
  | pb id off =>
    simp only [SV.ren] at hj
    split at hj
    · rename_i k hk
      simp only [SV.ids, List.mem_singleton] at hj; subst hj
      exact key hk (h id (by simp [SV.ids]))
    · cases hj
theorem A1.ren_ids {x : A1} (h : ∀ i ∈ x.ids, (rt i).isSome = true) : ∀ j ∈ (x.ren m).ids, (renRt m rt j).isSome = true := by
  intro j hj
  cases x with
  | s x => exact SV.ren_ids h j hj
  | agg xs =>
    simp only [A1.ren, A1.ids, List.mem_flatMap, List.mem_map] at hj
    obtain ⟨y, ⟨x, hx, rfl⟩, h2⟩ := hj
    exact SV.ren_ids (fun i hi => h i (by simp only [A1.ids, List.mem_flatMap]; exact ⟨x, hx, hi⟩)) j h2
  | fn f xs =>
    simp only [A1.ren, A1.ids, List.mem_flatMap, List.mem_map] at hj
    obtain ⟨y, ⟨x, hx, rfl⟩, h2⟩ := hj
    exact SV.ren_ids (fun i hi => h i (by simp only [A1.ids, List.mem_flatMap]; exact ⟨x, hx, hi⟩)) j h2
theorem AV.ren_ids {x : AV} (h : ∀ i ∈ x.ids, (rt i).isSome = true) : ∀ j ∈ (x.ren m).ids, (renRt m rt j).isSome = true := by
  intro j hj
  cases x with
  | v a => exact A1.ren_ids h j hj
  | tup as =>
    simp only [AV.ren, AV.ids, List.mem_flatMap, List.mem_map] at hj
    obtain ⟨y, ⟨x, hx, rfl⟩, h2⟩ := hj
    exact A1.ren_ids (fun i hi => h i (by simp only [AV.ids, List.mem_flatMap]; exact ⟨x, hx, hi⟩)) j h2
  | undef => cases hj
theorem renRt_inv {j : Nat} {r : Root} (h : renRt m rt j = some r) : ∃ i r0, renId m i = some j ∧ rt i = some r0 ∧ r = r0.ren m := by
  unfold renRt at h
  split at h
  · rename_i i hi
    rw [Option.map_eq_some_iff] at h
    obtain ⟨r0, h1, h2⟩ := h
    exact ⟨i, r0, (invId_some hi).2, h1, h2.symm⟩
  · cases h
theorem ren_rel (old : RtR w home hd rt F0) (hin : ∀ i, (rt i).isSome = true → i ∈ m) : RtR w (renHome m home) (renHd m hd) (renRt m rt) F0 := by
  refine ⟨fun l r hr => ?_, fun b l p hb => ?_, fun l r hr => ?_⟩
  · cases l with
    | x => simp only [ext, Option.some.injEq] at hr; subst hr; exact Or.inl rfl
    | t k => cases hr
    | r j =>
      obtain ⟨i, r0, h1, h2, rfl⟩ := renRt_inv (show renRt m rt j = some r from hr)
      have hold := old.root (.r i) r0 h2
      cases r0 with
      | gone => trivial
      | arr d t c =>
        have hold : CR w home (arrTg d (.r i)) c (hd (.r i)) := hold
        show CR w _ (arrTg d (.r j)) c (renHd m hd (.r j))
        rw [renHd_at h1]
        refine hold.move (fun q b _ hl => ⟨rfl, ?_⟩) ?_
        · rcases arrTg_exts d (.r i) q with h3 | h3
          · have h4 : ((arrTg d (.r j)).exts q).lab = none := by
              cases d with
              | true => simp [arrTg, Tg.exts_own, Tg.lab] at h3
              | false => cases q with
                | nil => simp [arrTg, Tg.exts, Tg.lab] at h3
                | cons x q => simp [arrTg, Tg.exts_top, Tg.lab]
            rw [h3] at hl; rw [h4]; exact renHome_none hl
          · have h4 : ((arrTg d (.r j)).exts q).lab = some (.r j, q) := by
              cases d with
              | true => simp [arrTg, Tg.exts_own, Tg.lab]
              | false => cases q with
                | nil => simp [arrTg, Tg.exts, Tg.lab]
                | cons x q => simp [arrTg, Tg.exts_top, Tg.lab] at h3
            rw [h3] at hl; rw [h4]; exact renHome_r hl h1
        · cases d with
          | true => exact Ok.own _ _ _
          | false => exact Ok.top _ _
      | box xs =>
        obtain ⟨b, cur, e1, k1, k2, k3, k4⟩ := RR.box hold
        exact Or.inr ⟨b, cur, e1, by rw [renHd_at h1]; exact k1, renHome_r k2 h1, k3, k4.map (fun x y _ h => SVR.ren old h)⟩
  · cases hh : home b with
    | none => rw [renHome_none hh] at hb; cases hb
    | some y =>
      obtain ⟨l0, q0⟩ := y
      obtain ⟨h3, r, h4, h5⟩ := old.lab b l0 q0 hh
      refine ⟨h3, ?_⟩
      cases l0 with
      | x =>
        rw [renHome_x hh] at hb; injection hb with hb; injection hb with e1 e2; subst e1
        exact ⟨.box [], rfl, by simp⟩
      | t k => cases h4
      | r i =>
        have h4' : rt i = some r := h4
        obtain ⟨j, hj⟩ := renId_some (hin i (by rw [h4']; rfl))
        rw [renHome_r hh hj] at hb; injection hb with hb; injection hb with e1 e2; subst e1
        refine ⟨r.ren m, by show renRt m rt j = _; rw [renRt_at hj, h4']; rfl, ?_⟩
        cases r with
        | gone => exact absurd rfl h5
        | arr d t c => simp [Root.ren]
        | box xs => simp [Root.ren]
  · cases l with
    | x => simp only [ext, Option.some.injEq] at hr; subst hr; intro i hi; simp [Root.ids] at hi
    | t k => cases hr
    | r j =>
      obtain ⟨i, r0, h1, h2, rfl⟩ := renRt_inv (show renRt m rt j = some r from hr)
      intro k hk
      cases r0 with
      | gone => cases hk
      | arr d t c => cases hk
      | box xs =>
        simp only [Root.ren, Root.ids, List.mem_flatMap, List.mem_map] at hk
        obtain ⟨y, ⟨x, hx, rfl⟩, h3⟩ := hk
        exact SV.ren_ids (fun i' hi' => old.wf (.r i) _ h2 i' (by simp only [Root.ids, List.mem_flatMap]; exact ⟨x, hx, hi'⟩)) k h3
theorem ren_grow : Grow w home hd rt w (renHome m home) (renHd m hd) (renRt m rt) := by
  refine ⟨rfl, rfl, rfl, Nat.le_refl _, fun b _ h => ⟨rfl, renHome_none h⟩, fun b q _ h => ⟨rfl, renHome_x h⟩, fun j hj r hr hne => ?_⟩
  obtain ⟨i, r0, h1, h2, rfl⟩ := renRt_inv hr
  have hij : i = j := by
    obtain ⟨_, a1, a2⟩ := renId_mem h1
    by_cases hi : i < 64000
    · exact (a1 hi).symm
    · obtain ⟨k, _, e⟩ := a2 hi; omega
  subst hij
  refine ⟨renHd_at h1, r0, h2, fun e => ?_⟩
  subst e
  exact hne rfl
theorem asl_ren {β : Type} (g : Nat → Option β) (h : Nat → β → Root) (f : Nat → Nat) (m : List Nat) (j : Nat) (hinj : ∀ i i', i ∈ m → i' ∈ m → f i = f i' → i = i') :
    (∀ i, i ∈ m → f i = j → asl (m.filterMap (fun i => (g i).map (fun r => (f i, h i r)))) j = (g i).map (h i)) ∧ ((∀ i, i ∈ m → f i ≠ j) → asl (m.filterMap (fun i => (g i).map (fun r => (f i, h i r)))) j = none) := by
  induction m with
  | nil => exact ⟨fun i hi => (by cases hi), fun _ => rfl⟩
  | cons x m ih =>
    obtain ⟨ih1, ih2⟩ := ih (fun i i' hi hi' e => hinj i i' (List.mem_cons_of_mem _ hi) (List.mem_cons_of_mem _ hi') e)
    rw [List.filterMap_cons]
    cases hg : g x with
    | none =>
      simp only [Option.map_none]
      refine ⟨fun i hi hf => ?_, fun hn => ih2 (fun i hi => hn i (List.mem_cons_of_mem _ hi))⟩
      by_cases him : i ∈ m
      · exact ih1 i him hf
      · have hix : i = x := by
          rcases List.mem_cons.1 hi with e | e
          · exact e
          · exact absurd e him
        subst hix
        rw [hg, Option.map_none]
        refine ih2 (fun i' hi' e => ?_)
        have := hinj i i' (List.mem_cons_self ..) (List.mem_cons_of_mem _ hi') (by rw [hf, e])
        subst this
        exact him hi'
    | some r =>
      simp only [Option.map_some]
      refine ⟨fun i hi hf => ?_, fun hn => ?_⟩
      · simp only [asl, lookup_cons]
        by_cases hfx : f x = j
        · have : i = x := hinj i x hi (List.mem_cons_self ..) (by rw [hf, hfx])
          subst this
          rw [if_pos hfx.symm, hg]; rfl
        · rw [if_neg (fun e => hfx e.symm)]
          have him : i ∈ m := by
            rcases List.mem_cons.1 hi with e | e
            · subst e; exact absurd hf hfx
            · exact e
          exact ih1 i him hf
      · simp only [asl, lookup_cons]
        rw [if_neg (fun e => hn x (List.mem_cons_self ..) e.symm)]
        exact ih2 (fun i hi => hn i (List.mem_cons_of_mem _ hi))
theorem canon_rt (fr : Fr) (live : List Nat) : (fr.canon live).rt = renRt (fr.meets live) (keepRt fr.rt (fr.meets live)) := by
  funext j
  have hinj : ∀ i i', i ∈ fr.meets live → i' ∈ fr.meets live → (renId (fr.meets live) i).getD 0 = (renId (fr.meets live) i').getD 0 → i = i' := by
    intro i i' hi hi' e
    obtain ⟨k, hk⟩ := renId_some hi
    obtain ⟨k', hk'⟩ := renId_some hi'
    rw [hk, hk', Option.getD_some, Option.getD_some] at e
    subst e
    exact renId_inj hk hk'
  obtain ⟨h1, h2⟩ := asl_ren (fun i => (cut fr.rt (fr.meets live) i).bind (·.tidy (cut fr.rt (fr.meets live)))) (fun _ r => r.ren (fr.meets live)) (fun i => (renId (fr.meets live) i).getD 0) (fr.meets live) j hinj
  show asl _ j = _
  cases hi : invId (fr.meets live) j with
  | none =>
    have e : renRt (fr.meets live) (keepRt fr.rt (fr.meets live)) j = none := by simp only [renRt, hi]
    rw [e]
    refine h2 (fun i him hf => ?_)
    obtain ⟨k, hk⟩ := renId_some him
    rw [hk, Option.getD_some] at hf
    subst hf
    rw [invId_ren hk] at hi; cases hi
  | some i =>
    obtain ⟨g1, g2⟩ := invId_some hi
    rw [renRt_at g2]
    have := h1 i g1 (by rw [g2]; rfl)
    refine this.trans ?_
    have e : cut fr.rt (fr.meets live) i = fr.rt i := by simp [cut, g1]
    simp only [e, keepRt, g1, if_true]
theorem canon_sl (fr : Fr) (live : List Nat) (t : Nat) : (fr.canon live).sl t = ((fr.keep live).sl t).map (·.ren (fr.meets live)) := by
  rw [keep_sl]
  have := asl_filterMap (fun s => (fr.sl s).map (fun a => (a.tidy (cut fr.rt (fr.meets live))).ren (fr.meets live))) live t
  have e : (fr.canon live).sl t = asl (live.filterMap (fun s => ((fr.sl s).map (fun a => (a.tidy (cut fr.rt (fr.meets live))).ren (fr.meets live))).map (fun r => (s, r)))) t := by
    simp only [Fr.canon]
    congr 2
    funext s
    cases fr.sl s <;> rfl
  rw [e, this]
  split
  · cases fr.sl t <;> rfl
  · rfl
theorem canon_ok (h : FrR ids w home hd N fr a) (live : List Nat) : ∃ home' hd', Grow w home hd fr.rt w home' hd' (fr.canon live).rt ∧ FrR ids w home' hd' N (fr.canon live) a := by
  have hk := keep_ok h live
  have hin : ∀ i, ((fr.keep live).rt i).isSome = true → i ∈ fr.meets live := by
    intro i hi
    rw [keep_rt] at hi
    simp only [keepRt] at hi
    split at hi
    · assumption
    · cases hi
  refine ⟨renHome (fr.meets live) (keepHome home (keepRt fr.rt (fr.meets live))), renHd (fr.meets live) hd, ?_, ?_⟩
  · rw [canon_rt]
    exact (keep_grow (fr.meets live)).trans ren_grow
  · have hrt : (fr.canon live).rt = renRt (fr.meets live) (fr.keep live).rt := by rw [canon_rt, keep_rt]
    refine ⟨by rw [hrt]; exact ren_rel hk.rel hin, fun t av ht => ?_, h.sz, h.nd⟩
    rw [canon_sl, Option.map_eq_some_iff] at ht
    obtain ⟨av0, h1, rfl⟩ := ht
    obtain ⟨v, h2, h3, h4⟩ := hk.sl t av0 h1
    rw [hrt]
    exact ⟨v, h2, AVR.ren hk.rel h3, AV.ren_ids h4⟩
end
end Go.Proofs.YtecmolmlojehgaaGreat.T
namespace Go.Proofs.YtecmolmlojehgaaGreat.T
open Go

def Sub (rt rt' : Rts) : Prop := ∀ i r, rt i = some r → rt' i = some r
section
variable {rt rt' rt1 : Rts} {call : Nat → List Arg → Option Res} {ev : Ev} {tp : Nat → Option (List A1)} {dst : Nat} {av : AV}
theorem rowAt_mono (hs : Sub rt rt') {id : Nat} {p : Path} {x : Bool × C} (h : rowAt rt id p = some x) : rowAt rt' id p = some x := by
  unfold rowAt at h ⊢
  split at h
  · rename_i d t c hr
    rw [hs id _ hr]
    exact h
  · cases h
theorem cont_mono (hs : Sub rt rt') {x : SV} {c : C} (h : cont rt x = some c) : cont rt' x = some c := by
  cases x with
  | c c0 => cases c0 <;> exact h
  | nil k => exact h
  | ref id p off len =>
    simp only [cont] at h ⊢
    split at h
    · rename_i d c' hr
      rw [rowAt_mono hs hr]
      exact h
    · cases h
  | pb id off => cases h
  | pe id p i off => cases h
  | pm cs off => cases h
theorem load_mono (hs : Sub rt rt') {n : Nat} {x : SV} {ys : List SV} (h : load rt n x = some ys) : load rt' n x = some ys := by
  cases x with
  | pb id off =>
    simp only [load] at h ⊢
    split at h
    · rename_i xs hr; rw [hs id _ hr]; exact h
    · cases h
  | pe id p i off =>
    simp only [load] at h ⊢
    split at h
    · rename_i d c' hr; rw [rowAt_mono hs hr]; exact h
    · cases h
  | pm cs off => exact h
  | c c => cases h
  | nil k => cases h
  | ref id p off len => cases h
theorem index_mono (hs : Sub rt rt') {sz : Nat} {x y : SV} {i : Int} (h : index rt sz x i = some y) : index rt' sz x i = some y := by
  cases x with
  | c c => exact h
  | ref id p off len =>
    simp only [index] at h ⊢
    split at h
    · rename_i d c' hr; rw [rowAt_mono hs hr]; exact h
    · cases h
  | nil k => cases h
  | pb id off => cases h
  | pe id p i off => cases h
  | pm cs off => cases h
theorem slice_mono (hs : Sub rt rt') {sz : Nat} {x y : SV} {l u : Option Int} (h : slice rt sz x l u = some y) : slice rt' sz x l u = some y := by
  cases x with
  | c c => cases c <;> exact h
  | nil k => exact h
  | ref id p off len =>
    simp only [slice] at h ⊢
    split at h
    · rename_i d c' hr; rw [rowAt_mono hs hr]; exact h
    · cases h
  | pb id off => cases h
  | pe id p i off => cases h
  | pm cs off => cases h
theorem map_rt {α : Type} {o : Option α} {f : α → AV} {rt rt1 rt' : Rts} {av : AV} (h : o.map (fun a => (f a, rt)) = some (av, rt1)) : rt1 = rt ∧ o.map (fun a => (f a, rt')) = some (av, rt') := by
  rw [Option.map_eq_some_iff] at h
  obtain ⟨a, rfl, h2⟩ := h
  injection h2 with h2 h3
  exact ⟨h3.symm, by rw [Option.map_some, h2]⟩
theorem act_mono {p : PO} (hq : p.quiet = true) (hs : Sub rt rt') (h : act call ev tp rt dst p = some (av, rt1)) : rt1 = rt ∧ act call ev tp rt' dst p = some (av, rt') := by
  cases p with
  | ld agg n x =>
    simp only [act] at h ⊢
    split at h
    · split at h
      · rename_i xs hl
        rw [load_mono hs hl]
        exact map_rt h
      · cases h
    · cases h
  | b2s x =>
    simp only [act] at h ⊢
    split at h
    · split at h
      · rename_i es sp hc
        rw [cont_mono hs hc]
        exact map_rt h
      · cases h
    · cases h
  | ia sz x i =>
    simp only [act] at h ⊢
    split at h
    · rw [Option.map_eq_some_iff] at h
      obtain ⟨y, h1, h2⟩ := h
      injection h2 with h2 h3
      rw [index_mono hs h1]
      exact ⟨h3.symm, by rw [Option.map_some, h2]⟩
    · cases h
  | slc sz x lo hi =>
    simp only [act] at h ⊢
    split at h
    · rw [Option.map_eq_some_iff] at h
      obtain ⟨y, h1, h2⟩ := h
      injection h2 with h2 h3
      rw [slice_mono hs h1]
      exact ⟨h3.symm, by rw [Option.map_some, h2]⟩
    · cases h
  | mv x => simp only [act] at h ⊢; exact map_rt h
  | mvt t => simp only [act] at h ⊢; exact map_rt h
  | conv k x => simp only [act] at h ⊢; exact map_rt h
  | mkf f caps => simp only [act] at h ⊢; exact map_rt h
  | _ =>
    first
      | (cases hq; done)
      | (simp only [act] at h ⊢
         repeat' split at h
         all_goals first
           | (cases h; done)
           | exact map_rt h
           | (injection h with h; injection h with h2 h3; subst h2 h3; exact ⟨rfl, by simp_all⟩)
           | (exact ⟨(map_rt (rt' := rt') h).1, by have := (map_rt (rt' := rt') h).2; simp_all⟩))
end
end Go.Proofs.YtecmolmlojehgaaGreat.T
namespace Go.Proofs.YtecmolmlojehgaaGreat.T
open Go

/-- What is present and not named stays. -/
def Keeps (l : List Nat) (rt rt1 : Rts) : Prop := ∀ i r, rt i = some r → i ∉ l → rt1 i = some r
section
variable {rt rt' rt1 rt2 : Rts} {call : Nat → List Arg → Option Res} {ev : Ev} {tp : Nat → Option (List A1)} {dst : Nat} {av : AV}
theorem Keeps.refl (l : List Nat) : Keeps l rt rt := fun _ _ h _ => h
theorem Keeps.trans {l l' : List Nat} (h : Keeps l rt rt1) (k : Keeps l' rt1 rt2) : Keeps (l ++ l') rt rt2 := fun i r hr hn => k i r (h i r hr (fun e => hn (List.mem_append_left _ e))) (fun e => hn (List.mem_append_right _ e))
theorem Keeps.mono {l l' : List Nat} (h : Keeps l rt rt1) (hl : ∀ i ∈ l, i ∈ l') : Keeps l' rt rt1 := fun i r hr hn => h i r hr (fun e => hn (hl i e))
theorem Keeps.upd (i : Nat) (r : Root) : Keeps [i] rt (upd rt i r) := fun j s hs hn => by
  have : j ≠ i := fun e => hn (by simp [e])
  rw [updF_ne _ _ this]; exact hs
theorem newRt_keeps {id : Nat} {r : Root} (h : newRt rt id r = some rt1) : Keeps [] rt rt1 := by
  obtain ⟨h1, _, _, rfl⟩ := newRt_spec h
  intro i s hs _
  have : i ≠ id := fun e => by subst e; rw [h1] at hs; cases hs
  rw [updF_ne _ _ this]; exact hs
theorem take_keeps {x : SV} {o : Ow} {c : C} (h : take rt x = some (o, c, rt1)) : Keeps x.ids rt rt1 := by
  cases x with
  | c c => simp only [take, Option.some.injEq, Prod.mk.injEq] at h; obtain ⟨_, _, rfl⟩ := h; exact Keeps.refl _
  | nil k => simp only [take, Option.some.injEq, Prod.mk.injEq] at h; obtain ⟨_, _, rfl⟩ := h; exact Keeps.refl _
  | pb id off => cases h
  | pe id p i off => cases h
  | pm cs off => cases h
  | ref id p off len =>
    cases p with
    | nil =>
      simp only [take] at h
      split at h
      · split at h
        · split at h
          · simp only [Option.some.injEq, Prod.mk.injEq] at h; obtain ⟨_, _, rfl⟩ := h; exact Keeps.upd _ _
          · cases h
        · cases h
      · cases h
    | cons y p =>
      simp only [take] at h
      split at h
      · split at h
        · split at h
          · split at h
            · simp only [Option.some.injEq, Prod.mk.injEq] at h; obtain ⟨_, _, rfl⟩ := h; exact Keeps.upd _ _
            · cases h
          · cases h
        · cases h
      · cases h
theorem takes_keeps : ∀ {xs : List SV} {rt rt1 : Rts} {l : List (Ow × C)}, takes rt xs = some (l, rt1) → Keeps (xs.flatMap (·.ids)) rt rt1
  | [], rt, rt1, l, h => by simp only [takes, Option.some.injEq, Prod.mk.injEq] at h; obtain ⟨_, rfl⟩ := h; exact Keeps.refl _
  | x :: xs, rt, rt1, l, h => by
    simp only [takes] at h
    split at h
    · rename_i o c rtm hm
      split at h
      · rename_i l' rtn hn
        simp only [Option.some.injEq, Prod.mk.injEq] at h
        obtain ⟨_, rfl⟩ := h
        exact ((take_keeps hm).trans (takes_keeps hn)).mono (fun i hi => by simpa using hi)
      · cases h
    · cases h
theorem idsS_eq {x : Opd} {s : SV} (h : evS ev x = some s) : idsS ev x = s.ids := by simp [idsS, h]
theorem idsC_eq {x : Opd} {xs : List SV} (h : evC ev x = some xs) : idsC ev x = xs.flatMap (·.ids) := by simp [idsC, h]
theorem store_keeps {xs : List SV} {p : SV} (h : store rt xs p = some rt1) : Keeps (p.ids ++ xs.flatMap (·.ids)) rt rt1 := by
  cases p with
  | pb id off =>
    simp only [store] at h
    split at h
    · split at h
      · split at h
        · injection h with h; subst h; exact (Keeps.upd _ _).mono (fun i hi => List.mem_append_left _ hi)
        · cases h
      · cases h
    · cases h
  | pe id p i off =>
    simp only [store] at h
    split at h
    · rename_i l rtm ht
      split at h
      · split at h
        · split at h
          · split at h
            · injection h with h; subst h
              exact ((takes_keeps ht).trans (Keeps.upd _ _)).mono (fun i hi => by
                rcases List.mem_append.1 hi with hi | hi
                · exact List.mem_append_right _ hi
                · exact List.mem_append_left _ hi)
            · cases h
          · cases h
        · cases h
      · cases h
    · cases h
  | c c => cases h
  | nil k => cases h
  | ref id p off len => cases h
  | pm cs off => cases h
theorem takesL_keeps {xs : List (List SV)} {l : List (List (Ow × C))} (h : takesL rt xs = some (l, rt1)) : Keeps (xs.flatten.flatMap (·.ids)) rt rt1 := takes_keeps (takesL_flat h).1
theorem source_keeps {k : K} {y : SV} {d : Bool} {c : C} (h : source rt k y = some (d, c, rt1)) : Keeps (srcIds k y.ids) rt rt1 := by
  cases k with
  | fl sz =>
    simp only [source] at h
    split at h
    · split at h
      · simp only [Option.some.injEq, Prod.mk.injEq] at h; obtain ⟨_, _, rfl⟩ := h; exact Keeps.refl _
      · cases h
    · cases h
  | sl sz =>
    simp only [source] at h
    split at h
    · rename_i ht
      split at h
      · simp only [Option.some.injEq, Prod.mk.injEq] at h; obtain ⟨_, _, rfl⟩ := h; exact take_keeps (takeSl_spec ht).1
      · cases h
    · cases h
theorem append_keeps {id : Nat} {k : K} {bytes : Nat} {x y r : SV} (h : append rt id k bytes x y = some (r, rt1)) : Keeps (x.ids ++ (srcIds k y.ids)) rt rt1 := by
  unfold append at h
  split at h
  · rename_i hs
    split at h
    · rename_i ht
      have h12 := (source_keeps hs).trans (take_keeps (takeSl_spec ht).1)
      have fin : ∀ {rt3 : Rts} {r0 : Root}, newRt _ id r0 = some rt3 → Keeps (x.ids ++ (srcIds k y.ids)) rt rt3 := fun h3 => (h12.trans (newRt_keeps h3)).mono (fun i hi => by
        simp only [List.mem_append, List.not_mem_nil, or_false] at hi ⊢
        exact hi.symm)
      repeat' split at h
      all_goals first
        | (cases h; done)
        | (rw [Option.map_eq_some_iff] at h
           obtain ⟨rt3, h1, h2⟩ := h
           injection h2 with _ h2
           subst h2
           exact fin h1)
    · cases h
  · cases h
theorem cellRes_keeps {id : Nat} {x : RC} {y : SV} (h : cellRes rt id x = some (y, rt1)) : Keeps [] rt rt1 := by
  unfold cellRes at h
  split at h
  · simp only [Option.some.injEq, Prod.mk.injEq] at h; obtain ⟨_, rfl⟩ := h; exact Keeps.refl _
  · simp only [Option.some.injEq, Prod.mk.injEq] at h; obtain ⟨_, rfl⟩ := h; exact Keeps.refl _
  · split at h
    · rw [Option.map_eq_some_iff] at h
      obtain ⟨rt3, h1, h2⟩ := h
      injection h2 with _ h2
      subst h2
      exact newRt_keeps h1
    · cases h
theorem cellsRes_keeps : ∀ {xs : List RC} {rt rt1 : Rts} {id : Nat} {ys : List SV}, cellsRes rt id xs = some (ys, rt1) → Keeps [] rt rt1
  | [], rt, rt1, id, ys, h => by simp only [cellsRes, Option.some.injEq, Prod.mk.injEq] at h; obtain ⟨_, rfl⟩ := h; exact Keeps.refl _
  | x :: xs, rt, rt1, id, ys, h => by
    simp only [cellsRes] at h
    split at h
    · rename_i h1
      split at h
      · rename_i h2
        simp only [Option.some.injEq, Prod.mk.injEq] at h
        obtain ⟨_, rfl⟩ := h
        exact (cellRes_keeps h1).trans (cellsRes_keeps h2)
      · cases h
    · cases h
theorem back_keeps {ls : List Loc} {ms : List (Option Root)} (h : back rt ls ms = some rt1) (hd : Dist ls) : Keeps (ls.flatMap (fun l => match l with | some (id, _) => [id] | none => [])) rt rt1 := by
  intro i r hr hn
  rw [(back_spec (k := 0) h hd).1 i (fun j p e => hn (by
    rw [List.mem_flatMap]
    exact ⟨_, List.mem_of_getElem? e, by simp⟩))]
  exact hr
/-- Where what is handed over lies. -/
theorem argOf_loc {q : Bool × Opd} {g : Arg} {id : Nat} {p : Path} (h : argOf ev rt q = some (g, some (id, p))) : q.1 = true ∧ ∃ a, ev q.2 = some a ∧ id ∈ a.ids := by
  obtain ⟨a, ha, hcase⟩ := argOf_spec h
  rcases hcase with ⟨_, a', _, e⟩ | ⟨hq, id', p2, len, d, c', sz, n, tot, rfl, _, _, _, _, e⟩ | ⟨hq, id', xs, rfl, _, _, e⟩
  · injection e with _ e; cases e
  · injection e with _ e; injection e with e; injection e with e _; subst e
    exact ⟨hq, _, ha, by simp [A1.ids, SV.ids]⟩
  · injection e with _ e; injection e with e; injection e with e _; subst e
    exact ⟨hq, _, ha, by simp [A1.ids, SV.ids]⟩
theorem dist_of {qs : List (Bool × Opd)} {l : List (Arg × Loc)} (hl : mapO (argOf ev rt) qs = some l) (hap : apartB ev rt qs (l.map (·.2)) = true) : Dist (l.map (·.2)) := by
  obtain ⟨m1, m2⟩ := mapO_spec hl
  have hspec := apartB_spec hap (by rw [m1, List.length_map])
  intro i j id p p' h1 h2
  by_cases hij : i = j
  · subst hij
    rw [h1] at h2
    injection h2 with h2; injection h2 with h2; injection h2 with _ h2
    exact ⟨rfl, h2⟩
  · exfalso
    rw [List.getElem?_map, Option.map_eq_some_iff] at h2
    obtain ⟨⟨g, x⟩, k1, k2⟩ := h2
    simp only at k2
    subst k2
    have hlt : j < qs.length := by rw [m1]; exact (List.getElem?_eq_some_iff.1 k1).1
    obtain ⟨_, a, ha, hid⟩ := argOf_loc (m2 j _ _ (List.getElem?_eq_getElem hlt) k1)
    exact (argHas_spec (hspec i j id p _ hij h1 (List.getElem?_eq_getElem hlt)) ha id hid).1 rfl
theorem callR_keeps {f : Nat} {qs : List (Bool × Opd)} (h : callR call ev rt dst f qs = some (av, rt1)) : Keeps (qs.flatMap (fun q => if q.1 then (match ev q.2 with | some a => a.ids | none => []) else [])) rt rt1 := by
  unfold callR at h
  split at h
  · rename_i l hl
    split at h
    · split at h
      · rename_i hc
        simp only [Bool.and_eq_true] at hc
        split at h
        · rename_i rtb hb
          rw [Option.map_eq_some_iff] at h
          obtain ⟨⟨as, rt2⟩, h1, h2⟩ := h
          injection h2 with _ h2
          simp only at h2
          subst h2
          obtain ⟨ys, e1, _⟩ := valsRes_cells h1
          refine ((back_keeps hb (dist_of hl hc.1.2)).trans (cellsRes_keeps e1)).mono (fun i hi => ?_)
          simp only [List.append_nil, List.mem_flatMap, List.mem_map] at hi
          obtain ⟨x, ⟨⟨g, y⟩, hm, rfl⟩, hi⟩ := hi
          cases y with
          | none => cases hi
          | some z =>
            obtain ⟨id, p⟩ := z
            simp only [List.mem_singleton] at hi
            subst hi
            obtain ⟨m1, m2⟩ := mapO_spec hl
            obtain ⟨j, hj⟩ := List.getElem?_of_mem hm
            have hlt : j < qs.length := by rw [m1]; exact (List.getElem?_eq_some_iff.1 hj).1
            obtain ⟨hq, a, ha, hid⟩ := argOf_loc (m2 j _ _ (List.getElem?_eq_getElem hlt) hj)
            rw [List.mem_flatMap]
            exact ⟨qs[j], List.getElem_mem hlt, by rw [hq, ha]; exact hid⟩
        · cases h
      · cases h
    · cases h
  · cases h
theorem map_newRt {id : Nat} {r : Root} {f : Rts → AV} (h : (newRt rt id r).map (fun x => (f x, x)) = some (av, rt1)) : Keeps [] rt rt1 := by
  rw [Option.map_eq_some_iff] at h
  obtain ⟨rt3, h1, h2⟩ := h
  injection h2 with _ h2
  subst h2
  exact newRt_keeps h1
theorem act_local {p : PO} (hv : ∀ f qs, p ≠ .callv f qs) (h : act call ev tp rt dst p = some (av, rt1)) : Keeps (touch ev p) rt rt1 := by
  by_cases hq : p.quiet = true
  · rw [(act_mono hq (fun _ _ h => h) h).1]; exact Keeps.refl _
  · cases p with
    | mkn k => simp only [act] at h; exact map_newRt (f := fun _ => _) h
    | box x =>
      simp only [act] at h
      split at h
      · exact map_newRt (f := fun _ => _) h
      · cases h
    | alloc z => simp only [act] at h; exact map_newRt (f := fun _ => _) h
    | bs k parts =>
      simp only [act] at h
      split at h
      · rename_i l hl
        split at h
        · rename_i es rtm ht
          split at h
          · have h1 := map_newRt (f := fun _ => _) h
            refine ((takesL_keeps ht).trans h1).mono (fun i hi => ?_)
            simp only [List.append_nil, List.mem_flatMap, List.mem_flatten] at hi
            obtain ⟨x, ⟨y, hy, hxy⟩, hi⟩ := hi
            obtain ⟨m1, m2⟩ := mapO_spec hl
            obtain ⟨j, hj⟩ := List.getElem?_of_mem hy
            have hlt : j < parts.length := by rw [m1]; exact (List.getElem?_eq_some_iff.1 hj).1
            simp only [touch, List.mem_flatMap]
            exact ⟨parts[j], List.getElem_mem hlt, by rw [idsC_eq (m2 j _ y (List.getElem?_eq_getElem hlt) hj), List.mem_flatMap]; exact ⟨x, hxy, hi⟩⟩
          · cases h
        · cases h
      · cases h
    | st n x y =>
      simp only [act] at h
      split at h
      · rename_i q xs h1 h2
        split at h
        · rw [Option.map_eq_some_iff] at h
          obtain ⟨rt3, h3, h4⟩ := h
          injection h4 with _ h4
          subst h4
          simp only [touch, idsS_eq h1, idsC_eq h2]
          exact store_keeps h3
        · cases h
      · cases h
    | app k bytes x y =>
      simp only [act] at h
      split at h
      · rename_i q r h1 h2
        rw [Option.map_eq_some_iff] at h
        obtain ⟨⟨z, rt3⟩, h3, h4⟩ := h
        injection h4 with _ h4
        simp only at h4
        subst h4
        simp only [touch, idsS_eq h1, idsS_eq h2]
        exact append_keeps h3
      · cases h
    | call f qs => exact callR_keeps h
    | callv f qs => exact absurd rfl (hv f qs)
    | mks k bytes zero len cap =>
      simp only [act] at h
      repeat' split at h
      all_goals first
        | (cases h; done)
        | exact map_newRt (f := fun _ => _) h
    | _ => exact absurd rfl hq
end
end Go.Proofs.YtecmolmlojehgaaGreat.T
