/- Calls: the frame that the callee begins with. Calls: entering. Calls: what comes back is put into the caller's frame. Calls: leaving. Calls: leaving, the step. Calls: the operation. Frames: operations one behind the other, what is kept, loops' heads. Frames: regions in order, and what is kept. -/
import Derived.Test.YtecmolmlojehgaaGreatMG
namespace Go.Proofs.YtecmolmlojehgaaGreat.T
open Go
variable (ids : Nat → FuncId)

theorem lookup_cons {β : Type} (a k : Nat) (b : β) (l : List (Nat × β)) : ((a, b) :: l).lookup k = if k = a then some b else l.lookup k := by
  simp only [List.lookup]
  by_cases h : k = a
  · subst h; simp
  · have : (k == a) = false := by simp [h]
    simp [this, h]
theorem initRt_some : ∀ {args : List Arg} {k j : Nat} {r : Root}, asl (initRt k args) j = some r → ∃ i a, args[i]? = some a ∧ (initArg (k + i) a).2 = some r ∧ j = (k + i) * 64
  | [], _, _, _, h => by cases h
  | a :: as, k, j, r, h => by
    simp only [initRt] at h
    split at h
    · rename_i r0 hr
      simp only [asl, lookup_cons] at h
      split at h
      · rename_i hj
        injection h with h
        subst h hj
        exact ⟨0, a, rfl, hr, rfl⟩
      · obtain ⟨i, a', h1, h2, h3⟩ := initRt_some (args := as) h
        exact ⟨i + 1, a', by simpa using h1, by rw [show k + (i + 1) = k + 1 + i by omega]; exact h2, by rw [h3]; congr 1; omega⟩
    · obtain ⟨i, a', h1, h2, h3⟩ := initRt_some (args := as) h
      exact ⟨i + 1, a', by simpa using h1, by rw [show k + (i + 1) = k + 1 + i by omega]; exact h2, by rw [h3]; congr 1; omega⟩
theorem initRt_at : ∀ {args : List Arg} {k i : Nat} {a : Arg} {r : Root}, args[i]? = some a → (initArg (k + i) a).2 = some r → asl (initRt k args) ((k + i) * 64) = some r
  | [], _, _, _, _, h, _ => by cases h
  | a0 :: as, k, i, a, r, h, hr => by
    cases i with
    | zero =>
      simp only [List.getElem?_cons_zero, Option.some.injEq] at h
      subst h
      simp only [Nat.add_zero] at hr ⊢
      simp only [initRt, hr, asl, lookup_cons, if_true]
    | succ i =>
      simp only [List.getElem?_cons_succ] at h
      have ih := initRt_at (args := as) (k := k + 1) (i := i) h (by rw [show k + 1 + i = k + (i + 1) by omega]; exact hr)
      rw [show k + 1 + i = k + (i + 1) by omega] at ih
      simp only [initRt]
      split
      · simp only [asl, lookup_cons]
        rw [if_neg (by omega)]
        exact ih
      · exact ih
theorem initSl_at : ∀ {args : List Arg} {k j : Nat} {av : AV}, asl (initSl k args) j = some av → ∃ i a, args[i]? = some a ∧ j = k + i ∧ av = .v (initArg (k + i) a).1
  | [], _, _, _, h => by cases h
  | a :: as, k, j, r, h => by
    simp only [initSl, asl, lookup_cons] at h
    split at h
    · rename_i hj
      injection h with h
      subst h hj
      exact ⟨0, a, rfl, rfl, rfl⟩
    · obtain ⟨i, a', h1, h2, h3⟩ := initSl_at (args := as) h
      exact ⟨i + 1, a', by simpa using h1, by omega, by rw [h3, show k + (i + 1) = k + 1 + i by omega]⟩
theorem initArg_ids (i : Nat) (a : Arg) : (∀ x, a ≠ .imm x) → (initArg i a).1.ids = [i * 64] := by
  intro h
  cases a with
  | imm x => exact absurd rfl (h x)
  | arr d c len => rfl
  | box xs => rfl

/-- What is handed over to be written, and how it lies in the caller's and in the callee's frame. -/
def Given (w : World) (hd hd0 : Lb → Value) (rt : Rts) (args : List Arg) (i id : Nat) (p : Path) : Prop :=
  (∃ d t c c' sz n tot len u, rt id = some (.arr d t c) ∧ (p = [] ∨ t = false) ∧ (p = [] ∨ d = true) ∧ c.get p = some c' ∧ c'.shape = some (sz, n, tot) ∧ n ≤ tot ∧ hdAt w c (hd (.r id)) p = some u ∧ hd0 (.r (i * 64)) = relen u tot ∧ (∃ ad cap, u = .slice ad n cap) ∧ args[i]? = some (.arr d c'.all len)) ∨
  (∃ xs, rt id = some (.box xs) ∧ p = [] ∧ hd0 (.r (i * 64)) = hd (.r id) ∧ args[i]? = some (.box xs) ∧ ∀ x ∈ xs, x.ids = [])
section
variable {ids} {w : World} {home : Home} {hd : Lb → Value} {rt : Rts} {ev : Ev} {F : Nat → Option Root}
theorem argOf_spec {q : Bool × Opd} {r : Arg × Loc} (h : argOf ev rt q = some r) : ∃ a, ev q.2 = some a ∧
    ((q.1 = false ∧ ∃ a', snap1 rt a = some a' ∧ r = (.imm a', none)) ∨
     (q.1 = true ∧ ∃ id p len d c' sz n tot, a = .s (.ref id p 0 len) ∧ rowAt rt id p = some (d, c') ∧ c'.shape = some (sz, n, tot) ∧ len ≤ tot ∧ (p = [] ∨ d = true) ∧ r = (.arr d c'.all len, some (id, p))) ∨
     (q.1 = true ∧ ∃ id xs, a = .s (.pb id 0) ∧ rt id = some (.box xs) ∧ (∀ x ∈ xs, x.ids = []) ∧ r = (.box xs, some (id, [])))) := by
  unfold argOf at h
  split at h
  · rename_i a ha
    refine ⟨a, ha, ?_⟩
    split at h
    · rename_i hq
      split at h
      · rename_i id p off len
        split at h
        · rename_i d c' hra
          split at h
          · rename_i sz n tot hs
            split at h
            · rename_i hc
              obtain ⟨rfl, h1, h2⟩ := hc
              injection h with h
              exact Or.inr (Or.inl ⟨hq, id, p, len, d, c', sz, n, tot, rfl, hra, hs, h1, h2, h.symm⟩)
            · cases h
          · cases h
        · cases h
      · rename_i id off
        split at h
        · rename_i xs hr
          split at h
          · rename_i hc
            obtain ⟨rfl, h1⟩ := hc
            injection h with h
            exact Or.inr (Or.inr ⟨hq, id, xs, rfl, hr, fun x hx => by simpa using List.all_eq_true.1 h1 x hx, h.symm⟩)
          · cases h
        · cases h
      · cases h
    · rename_i hq
      rw [Option.map_eq_some_iff] at h
      obtain ⟨a', h1, h2⟩ := h
      exact Or.inl ⟨by simpa using hq, a', h1, h2.symm⟩
  · cases h
/-- No two arguments meet what one of them is handed over with. -/
theorem apartB_spec : ∀ {qs : List (Bool × Opd)} {ls : List Loc}, apartB ev rt qs ls = true → qs.length = ls.length → ∀ (i j id : Nat) (p : Path) (q : Bool × Opd), i ≠ j → ls[i]? = some (some (id, p)) → qs[j]? = some q → argHas ev rt id q = false
  | [], ls, _, hl, i, j, id, p, q, _, h1, h2 => by simp at h2
  | q0 :: qs, [], _, hl, i, j, id, p, q, _, h1, h2 => by simp at h1
  | q0 :: qs, some (id0, p0) :: ls, h, hl, i, j, id, p, q, hij, h1, h2 => by
    simp only [apartB, Bool.and_eq_true, List.all_eq_true, Bool.not_eq_true'] at h
    obtain ⟨g1, g2⟩ := h
    cases i with
    | zero =>
      simp only [List.getElem?_cons_zero, Option.some.injEq, Prod.mk.injEq] at h1
      obtain ⟨rfl, rfl⟩ := h1
      cases j with
      | zero => exact absurd rfl hij
      | succ j => simp only [List.getElem?_cons_succ] at h2; exact g1.1 q (List.mem_of_getElem? h2)
    | succ i =>
      simp only [List.getElem?_cons_succ] at h1
      cases j with
      | zero =>
        simp only [List.getElem?_cons_zero, Option.some.injEq] at h2
        subst h2
        have := g1.2 _ (List.mem_of_getElem? h1)
        simpa using this
      | succ j => simp only [List.getElem?_cons_succ] at h2; exact apartB_spec g2 (by simpa using hl) i j id p q (by omega) h1 h2
  | q0 :: qs, none :: ls, h, hl, i, j, id, p, q, hij, h1, h2 => by
    simp only [apartB, Bool.and_eq_true, List.all_eq_true] at h
    obtain ⟨g1, g2⟩ := h
    cases i with
    | zero => simp at h1
    | succ i =>
      simp only [List.getElem?_cons_succ] at h1
      cases j with
      | zero =>
        simp only [List.getElem?_cons_zero, Option.some.injEq] at h2
        subst h2
        have := g1 _ (List.mem_of_getElem? h1)
        simpa using this
      | succ j => simp only [List.getElem?_cons_succ] at h2; exact apartB_spec g2 (by simpa using hl) i j id p q (by omega) h1 h2
theorem argHas_spec {id : Nat} {q : Bool × Opd} {a : A1} (h : argHas ev rt id q = false) (ha : ev q.2 = some a) : ∀ i ∈ a.ids, i ≠ id ∧ ∀ r, rt i = some r → id ∉ r.ids := by
  unfold argHas at h
  rw [ha] at h
  simp only [List.any_eq_false, Bool.or_eq_true, beq_iff_eq, not_or] at h
  intro i hi
  obtain ⟨h1, h2⟩ := h i hi
  refine ⟨h1, fun r hr => ?_⟩
  rw [hr] at h2
  simpa using h2
end
end Go.Proofs.YtecmolmlojehgaaGreat.T
namespace Go.Proofs.YtecmolmlojehgaaGreat.T
open Go
variable (ids : Nat → FuncId)

def headOf (w : World) (hd : Lb → Value) (rt : Rts) : Loc → Value
  | some (id, p) =>
    match rt id with
    | some (.arr _ _ c) =>
      match hdAt w c (hd (.r id)) p, c.get p with
      | some u, some c' =>
        match c'.shape with
        | some (_, _, tot) => relen u tot
        | none => undef
      | _, _ => undef
    | _ => hd (.r id)
  | none => undef
def callHd (w : World) (hd : Lb → Value) (rt : Rts) (ls : List Loc) : Lb → Value
  | .r j => headOf w hd rt ((ls[j / 64]?).join)
  | _ => undef
theorem shape_le {c : C} {sz n tot : Nat} (h : c.shape = some (sz, n, tot)) : n ≤ tot := by
  cases c with
  | val v => cases h
  | hole => cases h
  | fl a b c => simp only [C.shape, Option.some.injEq, Prod.mk.injEq] at h; omega
  | sl a b c => simp only [C.shape, Option.some.injEq, Prod.mk.injEq] at h; omega
section
variable {ids} {w : World} {home : Home} {hd : Lb → Value} {rt : Rts} {ev : Ev} {F : Nat → Option Root}
theorem callHd_at {ls : List Loc} {i : Nat} {l : Loc} (h : ls[i]? = some l) : callHd w hd rt ls (.r (i * 64)) = headOf w hd rt l := by
  simp only [callHd, Nat.mul_div_cancel i (by decide : 0 < 64), h, Option.join_some]
theorem enter (old : RtR w home hd rt F0) {qs : List (Bool × Opd)} {l : List (Arg × Loc)} (hl : mapO (argOf ev rt) qs = some l) (hap : apartB ev rt qs (l.map (·.2)) = true) {others : Bool} (hoth : others = true → ∀ q ∈ qs, q.1 = false → ∀ a, ev q.2 = some a → a.ids = [])
    {vs : List Value} (hvs : ∀ (i : Nat) q v, qs[i]? = some q → vs[i]? = some v → ∀ a, ev q.2 = some a → A1R ids w home hd rt a v ∧ ∀ j ∈ a.ids, (rt j).isSome = true) :
    Dist (l.map (·.2)) ∧ (∀ i id p, (l.map (·.2))[i]? = some (some (id, p)) → Given w hd (callHd w hd rt (l.map (·.2))) rt (l.map (·.1)) i id p) ∧
    RtR w (callHome home (l.map (·.2)) others) (callHd w hd rt (l.map (·.2))) (initFr (l.map (·.1))).rt F0 ∧
    (∀ (i : Nat) a v, (l.map (·.1))[i]? = some a → vs[i]? = some v → A1R ids w (callHome home (l.map (·.2)) others) (callHd w hd rt (l.map (·.2))) (initFr (l.map (·.1))).rt (initArg i a).1 v) := by
  obtain ⟨m1, m2⟩ := mapO_spec hl
  have hlen : qs.length = (l.map (·.2)).length := by rw [m1, List.length_map]
  have hspec := apartB_spec hap hlen
  -- an argument and what became of it
  have hq : ∀ (i : Nat) r, l[i]? = some r → ∃ q, qs[i]? = some q ∧ argOf ev rt q = some r := by
    intro i r h
    have hlt : i < qs.length := by rw [m1]; exact (List.getElem?_eq_some_iff.1 h).1
    exact ⟨qs[i], List.getElem?_eq_getElem hlt, m2 i _ r (List.getElem?_eq_getElem hlt) h⟩
  have hloc : ∀ (i : Nat) x, (l.map (·.2))[i]? = some x → ∃ g, l[i]? = some (g, x) ∧ (l.map (·.1))[i]? = some g := by
    intro i x h
    rw [List.getElem?_map, Option.map_eq_some_iff] at h
    obtain ⟨r, h1, rfl⟩ := h
    exact ⟨r.1, h1, by rw [List.getElem?_map, h1]; rfl⟩
  have hdist : Dist (l.map (·.2)) := by
    intro i j id p p' h1 h2
    by_cases hij : i = j
    · subst hij
      rw [h1] at h2
      injection h2 with h2; injection h2 with h2; injection h2 with _ h2
      exact ⟨rfl, h2⟩
    · exfalso
      obtain ⟨g2, k1, _⟩ := hloc j _ h2
      obtain ⟨q, k2, k3⟩ := hq j _ k1
      have hno := hspec i j id p q hij h1 k2
      obtain ⟨a, ha, hcase⟩ := argOf_spec k3
      have hids := argHas_spec hno ha
      rcases hcase with ⟨_, a', _, e⟩ | ⟨_, id', p2, len, d, c', sz, n, tot, rfl, _, _, _, _, e⟩ | ⟨_, id', xs, rfl, _, _, e⟩
      · injection e with _ e; cases e
      · injection e with _ e; injection e with e; injection e with e _
        exact (hids id' (by simp [A1.ids, SV.ids])).1 e.symm
      · injection e with _ e; injection e with e; injection e with e _
        exact (hids id' (by simp [A1.ids, SV.ids])).1 e.symm
  have hgiven : ∀ i id p, (l.map (·.2))[i]? = some (some (id, p)) → Given w hd (callHd w hd rt (l.map (·.2))) rt (l.map (·.1)) i id p := by
    intro i id p h
    obtain ⟨g, k1, k4⟩ := hloc i _ h
    obtain ⟨q, k2, k3⟩ := hq i _ k1
    obtain ⟨a, ha, hcase⟩ := argOf_spec k3
    rcases hcase with ⟨_, a', _, e⟩ | ⟨_, id', p2, len, d, c', sz, n, tot, rfl, hra, hs, hle, hpd, e⟩ | ⟨_, id', xs, rfl, hr, hx, e⟩
    · injection e with _ e; cases e
    · injection e with e1 e; injection e with e; injection e with e e2
      subst e1 e e2
      obtain ⟨t, c, g1, g2, g3⟩ := rowAt_spec hra
      obtain ⟨u, g4, g5⟩ := CR.at p (old.root (.r id) _ g1) g3
      obtain ⟨vs0, hh, _⟩ := g5.open hs
      obtain ⟨_, _, ad, cap, hu, _, _, _⟩ := hh
      refine Or.inl ⟨d, t, c, c', sz, n, tot, len, u, g1, g2, hpd, g3, hs, shape_le hs, g4, ?_, ⟨ad, cap, hu⟩, k4⟩
      rw [callHd_at h]
      simp only [headOf, g1, g4, g3, hs]
    · injection e with e1 e; injection e with e; injection e with e e2
      subst e1 e e2
      refine Or.inr ⟨xs, hr, rfl, ?_, k4, hx⟩
      rw [callHd_at h]
      simp only [headOf, hr]
  have hn0 : ∀ b, b < w.heap.size → home b = none → callHome home (l.map (·.2)) others b = none := fun b _ h => callHome_none h
  -- the frame's roots
  have hroot : ∀ j r, (initFr (l.map (·.1))).rt j = some r → ∃ i id p g, j = i * 64 ∧ (l.map (·.2))[i]? = some (some (id, p)) ∧ (l.map (·.1))[i]? = some g ∧ (initArg i g).2 = some r := by
    intro j r h
    obtain ⟨i, g, h1, h2, h3⟩ := initRt_some h
    rw [Nat.zero_add] at h2 h3
    rw [List.getElem?_map, Option.map_eq_some_iff] at h1
    obtain ⟨⟨g', x⟩, h4, rfl⟩ := h1
    obtain ⟨q, k2, k3⟩ := hq i _ h4
    obtain ⟨a, ha, hcase⟩ := argOf_spec k3
    have h5 : (l.map (·.2))[i]? = some x := by rw [List.getElem?_map, h4]; rfl
    have h6 : (l.map (·.1))[i]? = some g' := by rw [List.getElem?_map, h4]; rfl
    rcases hcase with ⟨_, a', _, e⟩ | ⟨_, id', p2, len, d, c', sz, n, tot, rfl, hra, hs, hle, hpd, e⟩ | ⟨_, id', xs, rfl, hr, hx, e⟩
    · injection e with e1 e; subst e1; cases h2
    · injection e with e1 e; subst e1 e; exact ⟨i, id', p2, _, h3, h5, h6, h2⟩
    · injection e with e1 e; subst e1 e; exact ⟨i, id', [], _, h3, h5, h6, h2⟩
  have hrt0 : ∀ i g, (l.map (·.1))[i]? = some g → ∀ r, (initArg i g).2 = some r → (initFr (l.map (·.1))).rt (i * 64) = some r := by
    intro i g h r hr
    have := initRt_at (k := 0) h (r := r) (by rw [Nat.zero_add]; exact hr)
    rw [Nat.zero_add] at this
    exact this
  have hRR : ∀ i id p, (l.map (·.2))[i]? = some (some (id, p)) → ∀ r, (initFr (l.map (·.1))).rt (i * 64) = some r → RR w (callHome home (l.map (·.2)) others) (callHd w hd rt (l.map (·.2))) (initFr (l.map (·.1))).rt (.r (i * 64)) r := by
    intro i id p h r hr
    rcases hgiven i id p h with ⟨d, t, c, c', sz, n, tot, len, u, g1, g2, hpd, g3, hs, hnt, g4, hhd, ⟨ad, cap, hu⟩, hg⟩ | ⟨xs, hrt, rfl, hhd, hg, hx⟩
    · have := hrt0 i _ hg _ rfl
      rw [this] at hr
      injection hr with hr
      subst hr
      show CR w _ (arrTg d (.r (i * 64))) c'.all _
      rw [hhd]
      obtain ⟨u', h5, h6⟩ := CR.at p (old.root (.r id) _ g1) g3
      rw [g4] at h5; injection h5 with h5; subst h5
      refine (h6.all hs).move (fun q b hb hlq => ⟨rfl, ?_⟩) ?_
      · cases d with
        | true =>
          have e : ((arrTg true (Lb.r id)).exts p).exts q = .own (.r id) (p ++ q) := by simp [arrTg, Tg.exts_own]
          rw [e] at hlq
          have e2 : ((arrTg true (Lb.r (i * 64))).exts q).lab = some (.r (i * 64), q) := by simp [arrTg, Tg.exts_own, Tg.lab]
          rw [e2]
          exact callHome_hit hdist h hlq
        | false =>
          have hp0 : p = [] := hpd.resolve_right (by simp)
          subst hp0
          cases q with
          | nil =>
            have e2 : ((arrTg false (Lb.r (i * 64))).exts []).lab = some (.r (i * 64), []) := rfl
            rw [e2]
            exact callHome_hit hdist h hlq
          | cons y q =>
            have e : ((arrTg false (Lb.r id)).exts []).exts (y :: q) = .imm := Tg.exts_top _ _ _
            have e2 : (arrTg false (Lb.r (i * 64))).exts (y :: q) = .imm := Tg.exts_top _ _ _
            rw [e] at hlq
            rw [e2]
            exact callHome_none hlq
      · cases d with
        | true =>
          have e : (arrTg true (Lb.r id)).exts p = .own (.r id) p := by simp [arrTg, Tg.exts_own]
          rw [e]; exact Ok.own _ _ _
        | false =>
          have hp0 : p = [] := hpd.resolve_right (by simp)
          subst hp0
          exact Ok.top _ _
    · have := hrt0 i _ hg _ rfl
      rw [this] at hr
      injection hr with hr
      subst hr
      obtain ⟨b, cur, e, k1, k2, k3, k4⟩ := RR.box (old.root (.r id) _ hrt)
      refine Or.inr ⟨b, cur, e, by rw [hhd]; exact k1, callHome_hit hdist h k2, k3, k4.1, fun j x v hx' hv => ?_⟩
      exact (k4.2 j x v hx' hv).imm old (hx x (List.mem_of_getElem? hx')) (fun b hb hn => ⟨rfl, hn0 b hb hn⟩)
  refine ⟨hdist, hgiven, ⟨fun lb r hr => ?_, fun b lb p hb => ?_, fun lb r hr => ?_⟩, fun i g v hg hv => ?_⟩
  · cases lb with
    | x => simp only [ext, Option.some.injEq] at hr; subst hr; exact Or.inl rfl
    | t k => cases hr
    | r j =>
      obtain ⟨i, id, p, g, rfl, h1, h2, h3⟩ := hroot j r hr
      exact hRR i id p h1 r hr
  · have hsz : b < w.heap.size := by
      cases hhb : home b with
      | none => rw [callHome_none hhb] at hb; cases hb
      | some y => obtain ⟨l0, q0⟩ := y; exact (old.lab b l0 q0 hhb).1
    refine ⟨hsz, ?_⟩
    cases lb with
    | x => exact ⟨.box [], rfl, by simp⟩
    | t k => exact absurd hb callHome_t
    | r j =>
      obtain ⟨i, id, p', rfl, h1, h2⟩ := callHome_inv hb
      rcases hgiven i id p' h1 with ⟨d, t, c, c', sz, n, tot, len, u, g1, g2, hpd, g3, hs, hnt, g4, hhd, _, hg⟩ | ⟨xs, hrt, rfl, hhd, hg, hx⟩
      · exact ⟨_, hrt0 i _ hg _ rfl, by simp⟩
      · exact ⟨_, hrt0 i _ hg _ rfl, by simp⟩
  · cases lb with
    | x => simp only [ext, Option.some.injEq] at hr; subst hr; intro i hi; simp [Root.ids] at hi
    | t k => cases hr
    | r j =>
      obtain ⟨i, id, p, g, rfl, h1, h2, h3⟩ := hroot j r hr
      rcases hgiven i id p h1 with ⟨d, t, c, c', sz, n, tot, len, u, g1, g2, hpd, g3, hs, hnt, g4, hhd, _, hg⟩ | ⟨xs, hrt, rfl, hhd, hg, hx⟩
      · have := hrt0 i _ hg _ rfl
        have hr' : (initFr (l.map (·.1))).rt (i * 64) = some r := hr
        rw [this] at hr'; injection hr' with hr'; subst hr'
        intro k hk; cases hk
      · have := hrt0 i _ hg _ rfl
        have hr' : (initFr (l.map (·.1))).rt (i * 64) = some r := hr
        rw [this] at hr'; injection hr' with hr'; subst hr'
        intro k hk
        simp only [Root.ids, List.mem_flatMap] at hk
        obtain ⟨x, h4, h5⟩ := hk
        rw [hx x h4] at h5; cases h5
  · rw [List.getElem?_map, Option.map_eq_some_iff] at hg
    obtain ⟨⟨g', x⟩, h4, rfl⟩ := hg
    obtain ⟨q, k2, k3⟩ := hq i _ h4
    obtain ⟨a, ha, hcase⟩ := argOf_spec k3
    have h5 : (l.map (·.2))[i]? = some x := by rw [List.getElem?_map, h4]; rfl
    have h6 : (l.map (·.1))[i]? = some g' := by rw [List.getElem?_map, h4]; rfl
    obtain ⟨hA, hpres⟩ := hvs i q v k2 hv a ha
    rcases hcase with ⟨hqf, a', hsn, e⟩ | ⟨_, id', p2, len, d, c', sz, n, tot, rfl, hra, hs, hle, hpd, e⟩ | ⟨_, id', xs, rfl, hr, hx, e⟩
    · injection e with e1 e
      subst e1 e
      -- read only
      have hun : ∀ j ∈ a.ids, Unheld w home (callHome home (l.map (·.2)) others) j ∧ ∀ r, rt j = some r → ∀ k ∈ r.ids, Unheld w home (callHome home (l.map (·.2)) others) k := by
        intro j hj
        have hof : others = false := by
          cases others with
          | false => rfl
          | true => have := hoth rfl q (List.mem_of_getElem? k2) hqf a ha; rw [this] at hj; cases hj
        have hnoj : ∀ (i' id : Nat) (p : Path), (l.map (·.2))[i']? = some (some (id, p)) → j ≠ id ∧ ∀ r, rt j = some r → id ∉ r.ids := by
          intro i' id p hi'
          have hne : i' ≠ i := fun e => by subst e; rw [h5] at hi'; cases hi'
          exact argHas_spec (hspec i' i id p q hne hi' k2) ha j hj
        refine ⟨fun b q' _ hb => ?_, fun r hr k hk b q' _ hb => ?_⟩
        · rw [callHome_rest hb (fun i' p hi' => absurd rfl (hnoj i' j p hi').1), hof]; rfl
        · rw [callHome_rest hb (fun i' p hi' => absurd hk ((hnoj i' k p hi').2 r hr)), hof]; rfl
      show A1R ids w _ _ _ a' v
      cases a with
      | s s =>
        simp only [snap1, Option.map_eq_some_iff] at hsn
        obtain ⟨y, h7, rfl⟩ := hsn
        exact (snap_ok old hn0 hA h7 hun).1
      | agg xs =>
        simp only [snap1, Option.map_eq_some_iff] at hsn
        obtain ⟨ys, h7, rfl⟩ := hsn
        obtain ⟨us, hu1, hu2⟩ := hA
        obtain ⟨n1, n2⟩ := mapO_spec h7
        refine ⟨us, hu1, by rw [← n1]; exact hu2.1, fun j y u hy hu => ?_⟩
        have hlt : j < xs.length := by rw [n1]; exact (List.getElem?_eq_some_iff.1 hy).1
        exact (snap_ok old hn0 (hu2.2 j _ u (List.getElem?_eq_getElem hlt) hu) (n2 j _ y (List.getElem?_eq_getElem hlt) hy) (fun k hk => hun k (by simp only [A1.ids, List.mem_flatMap]; exact ⟨_, List.getElem_mem hlt, hk⟩))).1
      | fn f xs =>
        simp only [snap1, Option.map_eq_some_iff] at hsn
        obtain ⟨ys, h7, rfl⟩ := hsn
        obtain ⟨us, hu1, hu2⟩ := hA
        obtain ⟨n1, n2⟩ := mapO_spec h7
        refine ⟨us, hu1, by rw [← n1]; exact hu2.1, fun j y u hy hu => ?_⟩
        have hlt : j < xs.length := by rw [n1]; exact (List.getElem?_eq_some_iff.1 hy).1
        exact (snap_ok old hn0 (hu2.2 j _ u (List.getElem?_eq_getElem hlt) hu) (n2 j _ y (List.getElem?_eq_getElem hlt) hy) (fun k hk => hun k (by simp only [A1.ids, List.mem_flatMap]; exact ⟨_, List.getElem_mem hlt, hk⟩))).1
    · injection e with e1 e
      subst e1 e
      have hA' : SVR w home hd rt (.ref id' p2 0 len) v := hA
      obtain ⟨t, c, g1, g2, g3⟩ := rowAt_spec hra
      obtain ⟨u, g4, g5⟩ := CR.at p2 (old.root (.r id') _ g1) g3
      have hpart := hA'.2 d t c g1 g2 c' u g3 g4 sz n tot hs
      show SVR w (callHome home (l.map (·.2)) others) (callHd w hd rt (l.map (·.2))) (initFr (l.map (·.1))).rt (.ref (i * 64) [] 0 len) v
      refine ⟨hA'.1, fun d1 t1 c1 k1 k2' c2 u2 k4 k5 sz2 m2' tot2 k6 => ?_⟩
      have := hrt0 i _ h6 _ rfl
      rw [this] at k1
      injection k1 with k1; injection k1 with e1 e2 e3
      subst e1 e2 e3
      have e1 : c'.all.get [] = some c'.all := by cases c'.all <;> rfl
      rw [e1] at k4; injection k4 with k4; subst k4
      have e2 : ∀ c (u : Value), hdAt w c u [] = some u := fun c u => by cases c <;> rfl
      rw [e2] at k5; injection k5 with k5; subst k5
      rw [C.all_shape hs] at k6
      injection k6 with k6; injection k6 with k6 k7; subst k6
      rw [callHd_at h5]
      simp only [headOf, g1, g4, g3, hs]
      obtain ⟨a1, m', cap1, a2, e3, e4, e5, e6⟩ := hpart
      exact ⟨a1, tot, cap1, a2, by rw [e3]; rfl, e4, e5, e6⟩
    · injection e with e1 e
      subst e1 e
      have hA' : SVR w home hd rt (.pb id' 0) v := hA
      show SVR w (callHome home (l.map (·.2)) others) (callHd w hd rt (l.map (·.2))) (initFr (l.map (·.1))).rt (.pb (i * 64) 0) v
      refine ⟨hA'.1, fun ys hy => ?_⟩
      obtain ⟨b, k5, k6⟩ := hA'.2 xs hr
      refine ⟨b, ?_, k6⟩
      rw [callHd_at h5]
      simp only [headOf, hr]
      exact k5
end
end Go.Proofs.YtecmolmlojehgaaGreat.T
namespace Go.Proofs.YtecmolmlojehgaaGreat.T
open Go
variable (ids : Nat → FuncId)

def cellsOf : List RV → List RC
  | [] => []
  | .s x :: rs => x :: cellsOf rs
  | .agg xs :: rs => xs ++ cellsOf rs
def Asm : List RV → List Value → List Value → Prop
  | [], fl, us => fl = [] ∧ us = []
  | .s _ :: rs, fl, us => ∃ v fl' us', fl = v :: fl' ∧ us = v :: us' ∧ Asm rs fl' us'
  | .agg xs :: rs, fl, us => ∃ f1 f2 us', fl = f1 ++ f2 ∧ f1.length = xs.length ∧ us = .agg f1.toArray :: us' ∧ Asm rs f2 us'
def AsmA : List RV → List SV → List A1 → Prop
  | [], fl, us => fl = [] ∧ us = []
  | .s _ :: rs, fl, us => ∃ v fl' us', fl = v :: fl' ∧ us = .s v :: us' ∧ AsmA rs fl' us'
  | .agg xs :: rs, fl, us => ∃ f1 f2 us', fl = f1 ++ f2 ∧ f1.length = xs.length ∧ us = .agg f1 :: us' ∧ AsmA rs f2 us'
def retV : List Value → Value
  | [v] => v
  | vs => .tuple vs.toArray
/-- What is left of the arguments' rows and variables. -/
def rtM (ps : List Nat) (ms : List (Option Root)) : Rts := fun i => ((ps.zip ms).lookup i).join
/-- A call's end. -/
structure Ret (w : World) (home : Home) (hd : Lb → Value) (ps : List Nat) (w' : World) (home' : Home) (hd' : Lb → Value) (F' : Nat → Option Root) (res : Res) (us : List Value) : Prop where
  rel : RtR w' home' hd' (rtM ps res.ms) F'
  vals : ∃ fl : List Value, fl.length = (cellsOf res.rs).length ∧ (∀ (j : Nat) o c v, (cellsOf res.rs)[j]? = some (.mk o c) → fl[j]? = some v → Held w' home' hd' F' j o c v ∧ (o ≠ .imm → c.shape ≠ none)) ∧ Asm res.rs fl us
  only : ∀ j r, F' j = some r → ∃ o c, (cellsOf res.rs)[j]? = some (.mk o c) ∧ o ≠ .imm ∧ r = .arr (decide (o = .deep)) false c
  os : w'.os = w.os
  tape : w'.tape = w.tape
  output : w'.output = w.output
  size : w.heap.size ≤ w'.heap.size
  blk : ∀ b, b < w.heap.size → home b = none → w'.heap[b]? = w.heap[b]? ∧ home' b = none
  oth : ∀ b q, b < w.heap.size → home b = some (.x, q) → w'.heap[b]? = w.heap[b]? ∧ home' b = some (.x, q)
  pin : ∀ i, i < 64000 → ∀ r, rtM ps res.ms i = some r → r ≠ .gone → hd' (.r i) = hd (.r i)
/-- A function is called and returns. -/
def Runs (P : Program) (f : FuncId) (vs : Array Value) (w : World) (R : Value → World → Prop) : Prop :=
  ((callFunc f vs).run P w = .ok (.enter f vs) w ∧ Calls P f vs w (fun e w' => ∃ v, e = .returned v ∧ R v w')) ∨ ∃ v w', (callFunc f vs).run P w = .ok (.value v) w' ∧ R v w'
theorem Runs.mono {P : Program} {f : FuncId} {vs : Array Value} {w : World} {R R' : Value → World → Prop} (h : Runs P f vs w R) (hr : ∀ v w', R v w' → R' v w') : Runs P f vs w R' := by
  rcases h with ⟨h1, h2⟩ | ⟨v, w', h1, h2⟩
  · exact Or.inl ⟨h1, h2.mono (fun e w' ⟨v, he, hv⟩ => ⟨v, he, hr v w' hv⟩)⟩
  · exact Or.inr ⟨v, w', h1, hr v w' h2⟩
/-- A function gives what is said, wherever it is called. -/
def Sat (P : Program) (f : FuncId) (args : List Arg) (res : Res) : Prop :=
  ∀ w home hd (vs : List Value), vs.length = args.length → RtR w home hd (initFr args).rt F0 →
    (∀ (i : Nat) a v, args[i]? = some a → vs[i]? = some v → A1R ids w home hd (initFr args).rt (initArg i a).1 v) → (∀ (i : Nat) x, args[i]? = some (.imm x) → x.ids = []) →
    Runs P f vs.toArray w (fun v w' => ∃ home' hd' F' us, v = retV us ∧ Ret w home hd (initFr args).ps w' home' hd' F' res us)
section
variable {ids} {w : World} {home : Home} {hd : Lb → Value} {rt : Rts} {F : Nat → Option Root}
def updN {α : Type} (f : Nat → Option α) (k : Nat) : Nat → Option α := fun i => if i = k then none else f i
/-- What was taken is a root of its own. -/
theorem place (old : RtR w home hd rt F) {k id : Nat} {d : Bool} {c : C} (hk : F k = some (.arr d false c)) (hid : rt id = none) (h64 : 64000 ≤ id) {sz n tot : Nat} (hs : c.shape = some (sz, n, tot)) :
    ∃ home' hd', Step w home hd rt F w home' hd' (upd rt id (.arr d false c.all)) (updN F k) ∧ (∀ j, hd' (.t j) = hd (.t j)) ∧ SVR w home' hd' (upd rt id (.arr d false c.all)) (.ref id [] 0 n) (hd (.t k)) := by
  have hX : CR w home (arrTg d (.t k)) c (hd (.t k)) := old.root (.t k) _ hk
  let g : Lb → Lb := fun l => if l = .t k then .r id else l
  let home' : Home := fun b => (home b).map (fun q => (g q.1, q.2))
  have hnone : ∀ b, home b = none → home' b = none := fun b h => by simp [home', h]
  have hr' : ∀ b q, home b = some (.t k, q) → home' b = some (.r id, q) := fun b q h => by simp [home', h, g]
  have hother : ∀ b l q, l ≠ .t k → home b = some (l, q) → home' b = some (l, q) := fun b l q hl h => by simp [home', h, g, hl]
  have hnoid : ∀ b q, home b ≠ some (.r id, q) := fun b q h => by
    obtain ⟨_, r, h1, _⟩ := old.lab b _ q h
    simp only [ext, hid] at h1
    cases h1
  obtain ⟨vs0, hh, _⟩ := hX.open hs
  obtain ⟨_, _, ad, cap, hu, hcap, _, _⟩ := hh
  have hnew : CR w home' (arrTg d (.r id)) c.all (relen (hd (.t k)) tot) := by
    refine (hX.all hs).move (fun q b hb hl => ⟨rfl, ?_⟩) ?_
    · rcases arrTg_exts d (.t k) q with h3 | h3
      · have h4 : ((arrTg d (.r id)).exts q).lab = none := by
          cases d with
          | true => simp [arrTg, Tg.exts_own, Tg.lab] at h3
          | false => cases q with
            | nil => simp [arrTg, Tg.exts, Tg.lab] at h3
            | cons x q => simp [arrTg, Tg.exts_top, Tg.lab]
        rw [h4]; exact hnone b (hl.trans h3)
      · have h4 : ((arrTg d (.r id)).exts q).lab = some (.r id, q) := by
          cases d with
          | true => simp [arrTg, Tg.exts_own, Tg.lab]
          | false => cases q with
            | nil => simp [arrTg, Tg.exts, Tg.lab]
            | cons x q => simp [arrTg, Tg.exts_top, Tg.lab] at h3
        rw [h4]; exact hr' b q (hl.trans h3)
    · cases d with
      | true => exact Ok.own _ _ _
      | false => exact Ok.top _ _
  refine ⟨home', updL hd (.r id) (relen (hd (.t k)) tot), Step.mk2 (fun l => l = .r id ∨ l = .t k) old (fun b _ h => ⟨rfl, hnone b h⟩) (fun l hl b q _ h => ⟨rfl, hother b l q (fun e => hl (Or.inr e)) h⟩)
    (fun l hl => updL_ne _ _ (fun e => hl (Or.inl e))) (fun l hl => ?_) ?_ ?_ ?_ ?_ ?_ ?_ rfl rfl rfl (Nat.le_refl _) ?_, fun j => updL_ne _ _ (by simp), ?_⟩
  · cases l with
    | x => rfl
    | r i => exact updF_ne _ _ (fun e => hl (Or.inl (by rw [e])))
    | t i =>
      have : i ≠ k := fun e => hl (Or.inr (by rw [e]))
      simp [ext, updN, this]
  · intro i hi x v hx hs' _
    rcases hi with e | e
    · injection e with e; subst e; rw [hid] at hs'; cases hs'
    · cases e
  · intro _ l r hl hr
    rcases hl with rfl | rfl
    · simp only [ext, updF_same, Option.some.injEq] at hr; subst hr
      show CR w home' (arrTg d (.r id)) c.all (updL hd (.r id) _ (.r id))
      rw [updL_same]; exact hnew
    · simp [ext, updN] at hr
  · intro b l p hl h
    simp only [home', Option.map_eq_some_iff] at h
    obtain ⟨⟨l0, q⟩, h1, h2⟩ := h
    simp only [Prod.mk.injEq] at h2
    obtain ⟨h2, rfl⟩ := h2
    simp only [g] at h2
    split at h2
    · exact absurd (Or.inl h2.symm) hl
    · subst h2; exact ⟨(old.lab b _ _ h1).1, h1⟩
  · intro b l p hl h
    simp only [home', Option.map_eq_some_iff] at h
    obtain ⟨⟨l0, q⟩, h1, h2⟩ := h
    refine ⟨(old.lab b _ _ h1).1, ?_⟩
    simp only [Prod.mk.injEq] at h2
    obtain ⟨h2, rfl⟩ := h2
    simp only [g] at h2
    split at h2
    · subst h2; exact ⟨_, updF_same _ _ _, by simp⟩
    · rename_i hne
      subst h2
      rcases hl with e | e
      · subst e; exact absurd h1 (hnoid b q)
      · exact absurd e hne
  · intro l r hl hr
    rcases hl with rfl | rfl
    · simp only [ext, updF_same, Option.some.injEq] at hr; subst hr; intro i hi; cases hi
    · simp [ext, updN] at hr
  · intro i hi
    by_cases e : i = id
    · subst e; rw [updF_same]; rfl
    · rw [updF_ne _ _ e]; exact hi
  · intro i hi hX2
    rcases hX2 with e | e
    · injection e with e; omega
    · cases e
  · rw [hu]
    have hle := shape_le hs
    refine ⟨⟨_, _, rfl⟩, fun d1 t1 c1 k1 _ c' u k3 k4 sz2 m2 tot2 k5 => ?_⟩
    rw [updF_same] at k1
    injection k1 with k1; injection k1 with e1 e2 e3
    subst e1 e2 e3
    have e1 : c.all.get [] = some c.all := by cases c.all <;> rfl
    rw [e1] at k3; injection k3 with k3; subst k3
    have e2 : ∀ c (u : Value), hdAt w c u [] = some u := fun c u => by cases c <;> rfl
    rw [e2, updL_same] at k4; injection k4 with k4; subst k4
    exact Part.self sz2 (by omega)
theorem updN_F0 {k : Nat} (h : ∀ j, F j ≠ none → j = k) : updN F k = F0 := by
  funext j
  simp only [updN, F0]
  split
  · rfl
  · rename_i hne
    cases hF : F j with
    | none => rfl
    | some r => exact absurd (h j (by rw [hF]; simp)) hne
theorem cells_placed : ∀ {cells : List RC} {fl : List Value} {k id : Nat} {home : Home} {hd : Lb → Value} {rt : Rts} {F : Nat → Option Root} {ys : List SV} {rt2 : Rts}, RtR w home hd rt F → fl.length = cells.length → 64000 ≤ id →
    (∀ (j : Nat) o c v, cells[j]? = some (.mk o c) → fl[j]? = some v → Held w home hd F (k + j) o c v ∧ (o ≠ .imm → c.shape ≠ none)) →
    (∀ j r, F j = some r → k ≤ j ∧ ∃ o c, cells[j - k]? = some (.mk o c) ∧ o ≠ .imm ∧ r = .arr (decide (o = .deep)) false c) → cellsRes rt id cells = some (ys, rt2) →
    ∃ home' hd', Step w home hd rt F w home' hd' rt2 F0 ∧ F2 (SVR w home' hd' rt2) ys fl ∧ ∀ y ∈ ys, ∀ i ∈ y.ids, (rt2 i).isSome = true
  | [], fl, k, id, home, hd, rt, F, ys, rt2, old, hl, h64, hh, hF, h => by
    simp only [cellsRes, Option.some.injEq, Prod.mk.injEq] at h
    obtain ⟨rfl, rfl⟩ := h
    have hfl : fl = [] := List.eq_nil_of_length_eq_zero (by simpa using hl)
    subst hfl
    have : F = F0 := by
      funext j
      cases hj : F j with
      | none => rfl
      | some r => obtain ⟨_, o, c, h1, _⟩ := hF j r hj; simp at h1
    subst this
    exact ⟨home, hd, Step.refl old, ⟨rfl, fun i x y hx => by simp at hx⟩, fun y hy => by cases hy⟩
  | .mk o c :: cells, fl, k, id, home, hd, rt, F, ys, rt2, old, hl, h64, hh, hF, h => by
    cases fl with
    | nil => simp at hl
    | cons v fl =>
      simp only [cellsRes] at h
      split at h
      · rename_i y rt1 h1
        split at h
        · rename_i ys' rt2' h2
          simp only [Option.some.injEq, Prod.mk.injEq] at h
          obtain ⟨rfl, rfl⟩ := h
          obtain ⟨hheld, hsh⟩ := hh 0 o c v rfl rfl
          rw [Nat.add_zero] at hheld
          -- one cell
          have one : ∃ home1 hd1, Step w home hd rt F w home1 hd1 rt1 (updN F k) ∧ (∀ j, hd1 (.t j) = hd (.t j)) ∧ SVR w home1 hd1 rt1 y v ∧ ∀ i ∈ y.ids, (rt1 i).isSome = true := by
            by_cases ho : o = .imm
            · subst ho
              have hF0 : updN F k = F := by
                funext j
                simp only [updN]
                split
                · rename_i hj
                  subst hj
                  cases hj : F j with
                  | none => rfl
                  | some r =>
                    obtain ⟨_, o', c', h3, h4, _⟩ := hF j r hj
                    simp at h3
                    exact absurd h3.1.symm h4
                · rfl
              have e : cellRes rt id (.mk .imm c) = some (.c c, rt) := by cases c <;> rfl
              rw [e] at h1
              simp only [Option.some.injEq, Prod.mk.injEq] at h1
              obtain ⟨rfl, rfl⟩ := h1
              rw [hF0]
              rcases hheld with ⟨_, hc⟩ | ⟨hne, _⟩
              · exact ⟨home, hd, Step.refl old, fun _ => rfl, hc, fun i hi => by cases hi⟩
              · exact absurd rfl hne
            · rcases hheld with ⟨e, _⟩ | ⟨_, hFk, hv, _⟩
              · exact absurd e ho
              · obtain ⟨sz, n, tot, hs⟩ : ∃ sz n tot, c.shape = some (sz, n, tot) := by
                  cases hc : c.shape with
                  | none => exact absurd hc (hsh ho)
                  | some q => obtain ⟨a, b, d⟩ := q; exact ⟨a, b, d, rfl⟩
                have e : cellRes rt id (.mk o c) = (newRt rt id (.arr (decide (o = .deep)) false c.all)).map (fun rt => (.ref id [] 0 n, rt)) := by
                  cases c with
                  | val v => cases hs
                  | hole => cases hs
                  | fl a b d => cases o <;> first | exact absurd rfl ho | simp only [cellRes, hs]
                  | sl a b d => cases o <;> first | exact absurd rfl ho | simp only [cellRes, hs]
                rw [e, Option.map_eq_some_iff] at h1
                obtain ⟨rt1', h3, h4⟩ := h1
                injection h4 with h4 h5
                subst h4 h5
                obtain ⟨n1, n2, _, rfl⟩ := newRt_spec h3
                obtain ⟨home1, hd1, s1, s2, s3⟩ := place old hFk n1 n2 hs
                refine ⟨home1, hd1, s1, s2, by rw [← hv]; exact s3, fun i hi => ?_⟩
                simp only [SV.ids, List.mem_singleton] at hi
                subst hi
                rw [updF_same]; rfl
          obtain ⟨home1, hd1, s1, t1, r1, p1⟩ := one
          have hh2 : ∀ (j : Nat) o' c' v', cells[j]? = some (.mk o' c') → fl[j]? = some v' → Held w home1 hd1 (updN F k) (k + 1 + j) o' c' v' ∧ (o' ≠ .imm → c'.shape ≠ none) := by
            intro j o' c' v' h3 h4
            obtain ⟨g1, g2⟩ := hh (j + 1) o' c' v' (by simpa using h3) (by simpa using h4)
            rw [show k + (j + 1) = k + 1 + j by omega] at g1
            refine ⟨g1.step s1 ?_ (t1 _), g2⟩
            simp only [updN]
            rw [if_neg (by omega)]
          have hF2 : ∀ j r, updN F k j = some r → k + 1 ≤ j ∧ ∃ o' c', cells[j - (k + 1)]? = some (.mk o' c') ∧ o' ≠ .imm ∧ r = .arr (decide (o' = .deep)) false c' := by
            intro j r hj
            simp only [updN] at hj
            split at hj
            · cases hj
            · rename_i hne
              obtain ⟨g1, o', c', g2, g3, g4⟩ := hF j r hj
              refine ⟨by omega, o', c', ?_, g3, g4⟩
              rw [show j - k = (j - (k + 1)) + 1 by omega, List.getElem?_cons_succ] at g2
              exact g2
          obtain ⟨home2, hd2, s2, f2, p2⟩ := cells_placed (k := k + 1) s1.rel (by simpa using hl) (by omega) hh2 hF2 h2
          refine ⟨home2, hd2, s1.trans s2, ⟨by simp [f2.1], fun i x u hx hu => ?_⟩, fun y' hy' i hi => ?_⟩
          · cases i with
            | zero =>
              simp only [List.getElem?_cons_zero, Option.some.injEq] at hx hu
              subst hx hu
              exact s2.st _ _ p1 r1
            | succ i => simp only [List.getElem?_cons_succ] at hx hu; exact f2.2 i x u hx hu
          · rcases List.mem_cons.1 hy' with rfl | hm
            · exact s2.pres i (p1 i hi)
            · exact p2 y' hm i hi
        · cases h
      · cases h
theorem cellsRes_app : ∀ {xs zs : List RC} {rt rt1 rt2 : Rts} {id : Nat} {ys ws : List SV}, cellsRes rt id xs = some (ys, rt1) → cellsRes rt1 (id + xs.length) zs = some (ws, rt2) → cellsRes rt id (xs ++ zs) = some (ys ++ ws, rt2) ∧ ys.length = xs.length
  | [], zs, rt, rt1, rt2, id, ys, ws, h1, h2 => by
    simp only [cellsRes, Option.some.injEq, Prod.mk.injEq] at h1
    obtain ⟨rfl, rfl⟩ := h1
    exact ⟨by simpa using h2, rfl⟩
  | x :: xs, zs, rt, rt1, rt2, id, ys, ws, h1, h2 => by
    simp only [cellsRes] at h1
    split at h1
    · rename_i y rtm hm
      split at h1
      · rename_i ys' rtn hn
        simp only [Option.some.injEq, Prod.mk.injEq] at h1
        obtain ⟨rfl, rfl⟩ := h1
        obtain ⟨e1, e2⟩ := cellsRes_app (zs := zs) hn (by rw [List.length_cons] at h2; rw [show id + 1 + xs.length = id + (xs.length + 1) by omega]; exact h2)
        exact ⟨by simp only [List.cons_append, cellsRes, hm, e1], by simp [e2]⟩
      · cases h1
    · cases h1
theorem valsRes_cells : ∀ {rs : List RV} {rt rt2 : Rts} {id : Nat} {as : List A1}, valsRes rt id rs = some (as, rt2) → ∃ ys, cellsRes rt id (cellsOf rs) = some (ys, rt2) ∧ AsmA rs ys as
  | [], rt, rt2, id, as, h => by
    simp only [valsRes, Option.some.injEq, Prod.mk.injEq] at h
    obtain ⟨rfl, rfl⟩ := h
    exact ⟨[], rfl, rfl, rfl⟩
  | .s x :: rs, rt, rt2, id, as, h => by
    simp only [valsRes] at h
    split at h
    · rename_i a rt1 h1
      split at h
      · rename_i as' rt2' h2
        simp only [Option.some.injEq, Prod.mk.injEq] at h
        obtain ⟨rfl, rfl⟩ := h
        simp only [valRes, Option.map_eq_some_iff, Prod.mk.injEq] at h1
        obtain ⟨⟨y, rt1'⟩, h3, rfl, rfl⟩ := h1
        obtain ⟨ys, h4, h5⟩ := valsRes_cells h2
        exact ⟨y :: ys, by simp only [cellsOf, cellsRes, h3]; simp only [RV.n] at h4; rw [h4], y, ys, as', rfl, rfl, h5⟩
      · cases h
    · cases h
  | .agg xs :: rs, rt, rt2, id, as, h => by
    simp only [valsRes] at h
    split at h
    · rename_i a rt1 h1
      split at h
      · rename_i as' rt2' h2
        simp only [Option.some.injEq, Prod.mk.injEq] at h
        obtain ⟨rfl, rfl⟩ := h
        simp only [valRes, Option.map_eq_some_iff, Prod.mk.injEq] at h1
        obtain ⟨⟨y, rt1'⟩, h3, rfl, rfl⟩ := h1
        obtain ⟨ys, h4, h5⟩ := valsRes_cells h2
        obtain ⟨e1, e2⟩ := cellsRes_app h3 h4
        exact ⟨y ++ ys, e1, y, ys, as', rfl, e2, rfl, h5⟩
      · cases h
    · cases h
theorem asm_R : ∀ {rs : List RV} {ys : List SV} {fl us : List Value} {as : List A1}, AsmA rs ys as → Asm rs fl us → F2 (SVR w home hd rt) ys fl → F2 (A1R ids w home hd rt) as us
  | [], ys, fl, us, as, h1, h2, h3 => by
    obtain ⟨rfl, rfl⟩ := h1
    obtain ⟨rfl, rfl⟩ := h2
    exact ⟨rfl, fun i x y hx => by simp at hx⟩
  | .s x :: rs, ys, fl, us, as, h1, h2, h3 => by
    obtain ⟨y, ys', as', rfl, rfl, h4⟩ := h1
    obtain ⟨v, fl', us', rfl, rfl, h5⟩ := h2
    have ih := asm_R h4 h5 ⟨by have := h3.1; simpa using this, fun i x y hx hy => h3.2 (i + 1) x y hx hy⟩
    refine ⟨by simp [ih.1], fun i x y hx hy => ?_⟩
    cases i with
    | zero => simp at hx hy; subst hx hy; exact h3.2 0 _ _ rfl rfl
    | succ i => exact ih.2 i x y (by simpa using hx) (by simpa using hy)
  | .agg xs :: rs, ys, fl, us, as, h1, h2, h3 => by
    obtain ⟨y, ys', as', rfl, e1, rfl, h4⟩ := h1
    obtain ⟨v, fl', us', rfl, e2, rfl, h5⟩ := h2
    have hlen : y.length = v.length := by rw [e1, e2]
    have ha : F2 (SVR w home hd rt) y v := ⟨hlen, fun i x z hx hz => h3.2 i x z (by rw [List.getElem?_append_left (List.getElem?_eq_some_iff.1 hx).1]; exact hx) (by rw [List.getElem?_append_left (List.getElem?_eq_some_iff.1 hz).1]; exact hz)⟩
    have hb : F2 (SVR w home hd rt) ys' fl' := by
      have := h3.drop y.length
      rw [List.drop_left] at this
      rw [hlen, List.drop_left] at this
      exact this
    have ih := asm_R h4 h5 hb
    refine ⟨by simp [ih.1], fun i x z hx hz => ?_⟩
    cases i with
    | zero => simp at hx hz; subst hx hz; exact ⟨v, rfl, ha⟩
    | succ i => exact ih.2 i x z (by simpa using hx) (by simpa using hz)
end
end Go.Proofs.YtecmolmlojehgaaGreat.T
namespace Go.Proofs.YtecmolmlojehgaaGreat.T
open Go
variable (ids : Nat → FuncId)

def locIds : Nat → List Loc → List Nat
  | _, [] => []
  | k, some _ :: ls => k * 64 :: locIds (k + 1) ls
  | k, none :: ls => locIds (k + 1) ls
/-- What became of a row or a variable that was handed over. -/
def BackOk (r0 : Option Root) (p : Path) (m : Option Root) (r1 : Option Root) : Prop :=
  (∃ d t c t2 c2 c' sz n k tot, r0 = some (.arr d t c) ∧ m = some (.arr d t2 c2) ∧ (p = [] ∨ (t = false ∧ d = true)) ∧ c.get p = some c' ∧ c'.shape = some (sz, n, k) ∧ (∃ n2, c2.shape = some (sz, n2, tot)) ∧ n ≤ tot ∧ r1 = some (.arr d true (c.set p (c2.sub 0 n)))) ∨
  (∃ d t c, r0 = some (.arr d t c) ∧ m = none ∧ ((p = [] ∧ r1 = some .gone) ∨ (p ≠ [] ∧ t = false ∧ d = true ∧ r1 = some (.arr d true (c.set p .hole))))) ∨
  (∃ ys xs, r0 = some (.box ys) ∧ m = some (.box xs) ∧ (∀ x ∈ xs, x.ids = []) ∧ r1 = some (.box xs))
theorem locIds_ge : ∀ {ls : List Loc} {k i : Nat}, i ∈ locIds k ls → k * 64 ≤ i
  | [], _, _, h => by cases h
  | some _ :: ls, k, i, h => by
    simp only [locIds, List.mem_cons] at h
    rcases h with rfl | h
    · exact Nat.le_refl _
    · have := locIds_ge h; omega
  | none :: ls, k, i, h => by
    have := locIds_ge (ls := ls) h; omega
theorem rtM_cons {i j : Nat} {ps : List Nat} {m : Option Root} {ms : List (Option Root)} : rtM (j :: ps) (m :: ms) i = if i = j then m else rtM ps ms i := by
  simp only [rtM, List.zip_cons_cons, lookup_cons]
  split <;> rfl
theorem back_spec : ∀ {ls : List Loc} {ms : List (Option Root)} {k : Nat} {rt rt1 : Rts}, back rt ls ms = some rt1 → Dist ls →
    (∀ id, (∀ (i : Nat) p, ls[i]? ≠ some (some (id, p))) → rt1 id = rt id) ∧ ∀ (i id : Nat) p, ls[i]? = some (some (id, p)) → BackOk (rt id) p (rtM (locIds k ls) ms ((k + i) * 64)) (rt1 id)
  | [], ms, k, rt, rt1, h, _ => by
    cases ms with
    | nil => simp only [back, Option.some.injEq] at h; subst h; exact ⟨fun _ _ => rfl, fun i id p hi => by simp at hi⟩
    | cons m ms => cases h
  | none :: ls, ms, k, rt, rt1, h, hd => by
    have hd' : Dist ls := fun i j id p p' h1 h2 => by
      have := hd (i + 1) (j + 1) id p p' (by simpa using h1) (by simpa using h2)
      exact ⟨by omega, this.2⟩
    have h' : back rt ls ms = some rt1 := by
      cases ms <;> simpa only [back] using h
    obtain ⟨g1, g2⟩ := back_spec (k := k + 1) h' hd'
    refine ⟨fun id hid => g1 id (fun i p => by simpa using hid (i + 1) p), fun i id p hi => ?_⟩
    cases i with
    | zero => simp at hi
    | succ i =>
      have := g2 i id p (by simpa using hi)
      simp only [locIds]
      rw [show (k + (i + 1)) = k + 1 + i by omega]; exact this
  | some (id0, p0) :: ls, ms, k, rt, rt1, h, hd => by
    cases ms with
    | nil => simp only [back] at h; cases h
    | cons m ms =>
      have hd' : Dist ls := fun i j id p p' h1 h2 => by
        have := hd (i + 1) (j + 1) id p p' (by simpa using h1) (by simpa using h2)
        exact ⟨by omega, this.2⟩
      have hne : ∀ (i : Nat) p, ls[i]? ≠ some (some (id0, p)) := fun i p hi => by
        have := hd 0 (i + 1) id0 p0 p rfl (by simpa using hi)
        omega
      have key : ∃ X, BackOk (rt id0) p0 m (some X) ∧ back (upd rt id0 X) ls ms = some rt1 := by
        simp only [back] at h
        split at h
        · rename_i d t c d' t2 c2 hr
          split at h
          · rename_i hc
            obtain ⟨rfl, hp⟩ := hc
            split at h
            · rename_i c' hg
              split at h
              · rename_i sz n k' sz2 n2 tot2 hs1 hs2
                split at h
                · rename_i hc2
                  obtain ⟨rfl, hle⟩ := hc2
                  exact ⟨_, Or.inl ⟨_, _, _, _, _, _, _, _, _, _, hr, rfl, hp, hg, hs1, ⟨_, hs2⟩, hle, rfl⟩, h⟩
                · cases h
              · cases h
            · cases h
          · cases h
        · rename_i d t c hr
          split at h
          · exact ⟨_, Or.inr (Or.inl ⟨_, _, _, hr, rfl, Or.inl ⟨rfl, rfl⟩⟩), h⟩
          · split at h
            · rename_i hc
              exact ⟨_, Or.inr (Or.inl ⟨_, _, _, hr, rfl, Or.inr ⟨by simp, hc.1, hc.2, rfl⟩⟩), h⟩
            · cases h
        · rename_i ys xs hr
          split at h
          · rename_i hc
            exact ⟨_, Or.inr (Or.inr ⟨_, _, hr, rfl, fun x hx => by simpa using List.all_eq_true.1 hc x hx, rfl⟩), h⟩
          · cases h
        · cases h
      obtain ⟨X, hok, hb⟩ := key
      obtain ⟨g1, g2⟩ := back_spec (k := k + 1) hb hd'
      refine ⟨fun id hid => ?_, fun i id p hi => ?_⟩
      · have hne2 : id ≠ id0 := fun e => hid 0 p0 (by subst e; rfl)
        rw [g1 id (fun i p => by simpa using hid (i + 1) p), updF_ne _ _ hne2]
      · cases i with
        | zero =>
          simp only [List.getElem?_cons_zero, Option.some.injEq, Prod.mk.injEq] at hi
          obtain ⟨rfl, rfl⟩ := hi
          have e1 : rt1 id0 = some X := by rw [g1 id0 (fun i p => hne i p), updF_same]
          rw [e1]
          simp only [locIds, Nat.add_zero, rtM_cons, if_true]
          exact hok
        | succ i =>
          have hi' : ls[i]? = some (some (id, p)) := by simpa using hi
          have hne2 : id ≠ id0 := fun e => hne i p (by rw [← e]; exact hi')
          have := g2 i id p hi'
          rw [updF_ne _ _ hne2] at this
          simp only [locIds, rtM_cons]
          rw [if_neg (by omega), show (k + (i + 1)) = k + 1 + i by omega]
          exact this
theorem ps_eq : ∀ {l : List (Arg × Loc)} {k : Nat}, (∀ r ∈ l, (∃ a, r = (.imm a, none)) ∨ (∃ d c n y, r = (.arr d c n, some y)) ∨ ∃ xs y, r = (.box xs, some y)) → (initRt k (l.map (·.1))).map (·.1) = locIds k (l.map (·.2))
  | [], _, _ => rfl
  | r :: l, k, h => by
    have ih := ps_eq (l := l) (k := k + 1) (fun r hr => h r (List.mem_cons_of_mem _ hr))
    rcases h r (List.mem_cons_self ..) with ⟨a, rfl⟩ | ⟨d, c, n, y, rfl⟩ | ⟨xs, y, rfl⟩
    · simpa [initRt, initArg, locIds] using ih
    · simpa [initRt, initArg, locIds] using ih
    · simpa [initRt, initArg, locIds] using ih
theorem CR.move_flat {w w' : World} {home home' : Home} {t t' : Tg} {sz : Nat} {es sp : List (List Value)} {u : Value} (h : CR w home t (.fl sz es sp) u) (hm : ∀ b, b < w.heap.size → home b = t.lab → w'.heap[b]? = w.heap[b]? ∧ home' b = t'.lab) (ok : t.lab = none → t'.lab = none) : CR w' home' t' (.fl sz es sp) u := by
  cases h with
  | fl he hh => exact .fl he (hh.move hm ok)
def notR : Option (Lb × Path) → Bool
  | some (.r _, _) => false
  | _ => true
def putBack (ls : List Loc) : Option (Lb × Path) → Option (Lb × Path)
  | some (.r j, q) =>
    match (ls[j / 64]?).join with
    | some (id, p) => some (.r id, p ++ q)
    | none => none
  | some (.t k, q) => some (.t k, q)
  | _ => none
/-- The owners behind a call. -/
def backHome (w : World) (home home0 h1 : Home) (ls : List Loc) : Home := fun b =>
  if decide (b < w.heap.size) && notR (home0 b) then home b else putBack ls (h1 b)
def backHd (hd hd1 : Lb → Value) : Lb → Value
  | .t k => hd1 (.t k)
  | l => hd l
end Go.Proofs.YtecmolmlojehgaaGreat.T
namespace Go.Proofs.YtecmolmlojehgaaGreat.T
open Go
variable (ids : Nat → FuncId)

section
variable {ids} {w w' : World} {home h1 : Home} {hd hd1 : Lb → Value} {rt rt1 : Rts} {F F1 : Nat → Option Root} {ls : List Loc} {others : Bool}
theorem backHome_kept {home0 : Home} {b : Nat} (hb : b < w.heap.size) (h : ∀ j q, home0 b ≠ some (.r j, q)) : backHome w home home0 h1 ls b = home b := by
  have : notR (home0 b) = true := by
    cases hh : home0 b with
    | none => rfl
    | some y =>
      obtain ⟨l, q⟩ := y
      cases l with
      | r j => exact absurd hh (h j q)
      | t k => rfl
      | x => rfl
  simp [backHome, hb, this]
theorem backHome_not {home0 : Home} {b : Nat} (h : ¬ b < w.heap.size ∨ ∃ j q, home0 b = some (.r j, q)) : backHome w home home0 h1 ls b = putBack ls (h1 b) := by
  unfold backHome
  rcases h with h | ⟨j, q, h⟩
  · simp [h]
  · simp [h, notR]
theorem leave (old : RtR w home hd rt F0) (hdist : Dist ls) {args : List Arg} (hgiven : ∀ (i id : Nat) (p : Path), ls[i]? = some (some (id, p)) → Given w hd (callHd w hd rt ls) rt args i id p)
    (hps : (initFr args).ps = locIds 0 ls) (hlen : ls.length ≤ 999) {res : Res} {us : List Value} (hret : Ret w (callHome home ls others) (callHd w hd rt ls) (initFr args).ps w' h1 hd1 F1 res us) (hback : back rt ls res.ms = some rt1)
    (hfree : others = false → (res.rs.all (·.free) && res.ms.all mfree) = true) :
    Step w home hd rt F0 w' (backHome w home (callHome home ls others) h1 ls) (backHd hd hd1) rt1 F1 ∧
    ∃ fl : List Value, fl.length = (cellsOf res.rs).length ∧ (∀ (j : Nat) o c v, (cellsOf res.rs)[j]? = some (.mk o c) → fl[j]? = some v → Held w' (backHome w home (callHome home ls others) h1 ls) (backHd hd hd1) F1 j o c v ∧ (o ≠ .imm → c.shape ≠ none)) ∧ Asm res.rs fl us := by
  rw [hps] at hret
  obtain ⟨b1, b2⟩ := back_spec (k := 0) hback hdist
  simp only [Nat.zero_add] at b2
  -- blocks
  have kept : ∀ b, b < w.heap.size → (∀ j q, callHome home ls others b ≠ some (.r j, q)) → w'.heap[b]? = w.heap[b]? ∧ h1 b = callHome home ls others b ∧ backHome w home (callHome home ls others) h1 ls b = home b := by
    intro b hb hn
    refine ⟨?_, ?_, backHome_kept hb hn⟩
    all_goals
      cases hc : callHome home ls others b with
      | none => first | exact (hret.blk b hb hc).1 | exact (hret.blk b hb hc).2
      | some y =>
        obtain ⟨l, q⟩ := y
        cases l with
        | r j => exact absurd hc (hn j q)
        | t k => exact absurd hc callHome_t
        | x => first | exact (hret.oth b q hb hc).1 | exact (hret.oth b q hb hc).2
  -- blocks that the callee holds behind the call
  have held : ∀ b l q, h1 b = some (l, q) → l ≠ .x → ¬ b < w.heap.size ∨ ∃ j q, callHome home ls others b = some (.r j, q) := by
    intro b l q hb hl
    by_cases hs : b < w.heap.size
    · refine Or.inr ?_
      apply Classical.byContradiction
      intro hno
      have hn : ∀ j q, callHome home ls others b ≠ some (.r j, q) := fun j q e => hno ⟨j, q, e⟩
      obtain ⟨_, e2, _⟩ := kept b hs hn
      rw [hb] at e2
      cases l with
      | x => exact hl rfl
      | r j => exact hn j q e2.symm
      | t k => exact callHome_t e2.symm
    · exact Or.inl hs
  have homeR : ∀ (b i id : Nat) (p q : Path), ls[i]? = some (some (id, p)) → h1 b = some (.r (i * 64), q) → backHome w home (callHome home ls others) h1 ls b = some (.r id, p ++ q) := by
    intro b i id p q hl hb
    rw [backHome_not (held b _ _ hb (by simp)), hb]
    simp only [putBack, Nat.mul_div_cancel i (by decide : 0 < 64), hl, Option.join_some]
  have homeT : ∀ b k q, h1 b = some (.t k, q) → backHome w home (callHome home ls others) h1 ls b = some (.t k, q) := by
    intro b k q hb
    rw [backHome_not (held b _ _ hb (by simp)), hb]; rfl
  have homeN : others = true → ∀ b, h1 b = none → backHome w home (callHome home ls others) h1 ls b = none := by
    intro ho b hb
    by_cases hs : b < w.heap.size
    · by_cases hn : ∀ j q, callHome home ls others b ≠ some (.r j, q)
      · obtain ⟨_, e2, e3⟩ := kept b hs hn
        rw [e3]
        rw [hb] at e2
        cases hh : home b with
        | none => rfl
        | some y =>
          obtain ⟨l, q⟩ := y
          cases l with
          | x => rw [callHome_x hh] at e2; cases e2
          | t k => obtain ⟨_, r, e4, _⟩ := old.lab b _ q hh; cases e4
          | r id =>
            exfalso
            unfold callHome at e2
            rw [hh] at e2
            simp only at e2
            split at e2
            · cases e2
            · rw [ho] at e2; cases e2
      · have : ∃ j q, callHome home ls others b = some (.r j, q) := by
          apply Classical.byContradiction
          intro hno
          exact hn (fun j q e => hno ⟨j, q, e⟩)
        rw [backHome_not (Or.inr this), hb]; rfl
    · rw [backHome_not (Or.inl hs), hb]; rfl
  have hdR : ∀ (i id : Nat) (p : Path), ls[i]? = some (some (id, p)) → ∀ r, rtM (locIds 0 ls) res.ms (i * 64) = some r → r ≠ .gone → hd1 (.r (i * 64)) = callHd w hd rt ls (.r (i * 64)) := by
    intro i id p hl r hr hne
    have := (List.getElem?_eq_some_iff.1 hl).1
    exact hret.pin _ (by omega) r hr hne
  have hmf : others = false → ∀ m ∈ res.ms, mfree m = true := fun ho m hm => by
    have := hfree ho
    simp only [Bool.and_eq_true, List.all_eq_true] at this
    exact this.2 m hm
  have hrf : others = false → ∀ c ∈ cellsOf res.rs, c.free = true := fun ho => by
    have := hfree ho
    simp only [Bool.and_eq_true, List.all_eq_true] at this
    have key : ∀ (rs : List RV), (∀ x ∈ rs, x.free = true) → ∀ c ∈ cellsOf rs, c.free = true := by
      intro rs
      induction rs with
      | nil => intro _ c hc; cases hc
      | cons r rs ih =>
        intro hr c hc
        have h0 := hr r (List.mem_cons_self ..)
        cases r with
        | s x =>
          simp only [cellsOf, List.mem_cons] at hc
          rcases hc with rfl | hc
          · exact h0
          · exact ih (fun x hx => hr x (List.mem_cons_of_mem _ hx)) c hc
        | agg xs =>
          simp only [cellsOf, List.mem_append] at hc
          rcases hc with hc | hc
          · simp only [RV.free, List.all_eq_true] at h0; exact h0 c hc
          · exact ih (fun x hx => hr x (List.mem_cons_of_mem _ hx)) c hc
    exact key res.rs this.1
  have hrtM : ∀ i m, rtM (locIds 0 ls) res.ms i = some m → some m ∈ res.ms := by
    intro i m h
    simp only [rtM] at h
    cases hz : ((locIds 0 ls).zip res.ms).lookup i with
    | none => rw [hz] at h; cases h
    | some y =>
      rw [hz] at h
      simp only [Option.join_some] at h
      subst h
      have key : ∀ (l : List (Nat × Option Root)), l.lookup i = some (some m) → ∃ k, (k, some m) ∈ l := by
        intro l
        induction l with
        | nil => intro h; cases h
        | cons y l ih =>
          obtain ⟨k, z⟩ := y
          intro h
          rw [lookup_cons] at h
          split at h
          · injection h with h; subst h; exact ⟨k, List.mem_cons_self ..⟩
          · obtain ⟨k', h'⟩ := ih h; exact ⟨k', List.mem_cons_of_mem _ h'⟩
      obtain ⟨k, hk⟩ := key _ hz
      exact (List.of_mem_zip hk).2
  have ptrImm : ∀ {x : SV} {v : Value}, x.ids = [] → (others = true ∨ x.isVal = true) → SVR w' h1 hd1 (rtM (locIds 0 ls) res.ms) x v → SVR w' (backHome w home (callHome home ls others) h1 ls) (backHd hd hd1) rt1 x v := by
    intro x v hx hc h
    rcases hc with ho | hv
    · exact h.imm hret.rel hx (fun b _ hn => ⟨rfl, homeN ho b hn⟩)
    · cases x with
      | c c =>
        cases c with
        | val u =>
          have h' : CR w' h1 .imm (.val u) v := h
          cases h' with
          | val h => exact CR.val h
        | _ => cases hv
      | _ => cases hv
  -- every handed root
  have hroot : ∀ (i id : Nat) p, ls[i]? = some (some (id, p)) → ∀ r, rt1 id = some r → RR w' (backHome w home (callHome home ls others) h1 ls) (backHd hd hd1) rt1 (.r id) r := by
    intro i id p hl r hr
    rcases b2 i id p hl with ⟨d, t, c, t2, c2, c', sz, n, k, tot, g1, g2, g3, g4, g5, ⟨n2, g6⟩, g7, g8⟩ | ⟨d, t, c, g1, g2, g3⟩ | ⟨ys, xs, g1, g2, g3, g4⟩
    · rw [g8] at hr; injection hr with hr; subst hr
      rcases hgiven i id p hl with ⟨d', t', c0, c0', sz', n', tot', len, u, k1, k2, k3, k4, k5, k6, k7, k8, ⟨ad, cap, k9⟩, k10⟩ | ⟨xs, k1, _⟩
      · rw [g1] at k1; injection k1 with k1; injection k1 with e1 e2 e3; subst e1 e2 e3
        rw [g4] at k4; injection k4 with k4; subst k4
        rw [g5] at k5; injection k5 with k5; injection k5 with e1 k5; injection k5 with e2 e3; subst e1 e2 e3
        show CR w' _ (arrTg d (.r id)) (c.set p (c2.sub 0 n)) (hd (.r id))
        refine CR.set p (old.root (.r id) _ g1) g4 k7 (fun q b hb hlq hq => ?_) ?_
        · have hkeep : ∀ j q', callHome home ls others b ≠ some (.r j, q') := by
            intro j q' hc
            obtain ⟨i2, id2, p2, _, e2, e3⟩ := callHome_inv hc
            rcases arrTg_exts d (.r id) q with h3 | h3
            · rw [h3] at hlq; rw [hlq] at e3; cases e3
            · rw [h3, e3] at hlq
              injection hlq with hlq; injection hlq with e4 e5; injection e4 with e4
              subst e4
              obtain ⟨_, e6⟩ := hdist i i2 id2 p p2 hl e2
              subst e6
              exact hq ⟨q', e5⟩
          obtain ⟨e1, _, e3⟩ := kept b hb hkeep
          exact ⟨e1, e3.trans hlq⟩
        · have hcal : CR w' h1 (arrTg d (.r (i * 64))) c2 (hd1 (.r (i * 64))) := hret.rel.root (.r (i * 64)) _ g2
          rw [hdR i id p hl _ g2 (by simp), k8] at hcal
          have hsub := hcal.sub0 g6 g7
          rw [k9] at hsub
          have hu : relen (relen (Value.slice ad n cap) k) n = u := by rw [k9]; rfl
          rw [hu] at hsub
          have hcase : d = true ∨ (d = false ∧ p = [] ∧ (others = true ∨ c2.flat = true)) := by
            cases d with
            | true => exact Or.inl rfl
            | false =>
              refine Or.inr ⟨rfl, k3.resolve_right (by simp), ?_⟩
              cases hoo : others with
              | true => exact Or.inl rfl
              | false =>
                have := hmf hoo _ (hrtM _ _ g2)
                simp only [mfree, Bool.false_or] at this
                exact Or.inr this
          rcases hcase with rfl | ⟨rfl, rfl, hcase⟩
          · refine hsub.move (fun q b hb hlq => ⟨rfl, ?_⟩) (Ok.own _ _ _)
            have e : ((arrTg true (Lb.r (i * 64))).exts q).lab = some (.r (i * 64), q) := by simp [arrTg, Tg.exts_own, Tg.lab]
            have e2 : (((arrTg true (Lb.r id)).exts p).exts q).lab = some (.r id, p ++ q) := by simp [arrTg, Tg.exts_own, Tg.lab]
            rw [e] at hlq
            rw [e2]
            exact homeR b i id p q hl hlq
          · have htop : ∀ b, h1 b = (arrTg false (Lb.r (i * 64))).lab → backHome w home (callHome home ls others) h1 ls b = (arrTg false (Lb.r id)).lab := fun b hb => homeR b i id [] [] hl hb
            rcases hcase with ho | hfl
            · refine hsub.move (fun q b hb hlq => ⟨rfl, ?_⟩) (Ok.top _ _)
              cases q with
              | nil => exact htop b hlq
              | cons y q =>
                have e : (arrTg false (Lb.r (i * 64))).exts (y :: q) = .imm := Tg.exts_top _ _ _
                have e2 : ((arrTg false (Lb.r id)).exts []).exts (y :: q) = .imm := Tg.exts_top _ _ _
                rw [e] at hlq
                rw [e2]
                exact homeN ho b hlq
            · cases c2 with
              | fl a b c => exact hsub.move_flat (fun b hb hlb => ⟨rfl, htop b hlb⟩) (fun h => by cases h)
              | _ => cases hfl
      · rw [g1] at k1; cases k1
    · rcases g3 with ⟨_, g3⟩ | ⟨g3, g4, g5, g6⟩
      · rw [g3] at hr; injection hr with hr; subst hr; trivial
      · rw [g6] at hr; injection hr with hr; subst hr
        rcases hgiven i id p hl with ⟨d', t', c0, c0', sz', n', tot', len, u, k1, k2, k3, k4, k5, k6, k7, k8, ⟨ad, cap, k9⟩, k10⟩ | ⟨xs, k1, _⟩
        · rw [g1] at k1; injection k1 with k1; injection k1 with e1 e2 e3; subst e1 e2 e3
          show CR w' _ (arrTg d (.r id)) (c.set p .hole) (hd (.r id))
          refine CR.set p (old.root (.r id) _ g1) k4 k7 (fun q b hb hlq hq => ?_) (.hole (by rw [k9]; rfl))
          have hkeep : ∀ j q', callHome home ls others b ≠ some (.r j, q') := by
            intro j q' hc
            obtain ⟨i2, id2, p2, _, e2, e3⟩ := callHome_inv hc
            rcases arrTg_exts d (.r id) q with h3 | h3
            · rw [h3] at hlq; rw [hlq] at e3; cases e3
            · rw [h3, e3] at hlq
              injection hlq with hlq; injection hlq with e4 e5; injection e4 with e4
              subst e4
              obtain ⟨_, e6⟩ := hdist i i2 id2 p p2 hl e2
              subst e6
              exact hq ⟨q', e5⟩
          obtain ⟨e1, _, e3⟩ := kept b hb hkeep
          exact ⟨e1, e3.trans hlq⟩
        · rw [g1] at k1; cases k1
    · rw [g4] at hr; injection hr with hr; subst hr
      rcases hgiven i id p hl with ⟨d', t', c0, c0', sz', n', tot', len, u, k1, _⟩ | ⟨xs', k1, rfl, k3, k4, k5⟩
      · rw [g1] at k1; cases k1
      · obtain ⟨b, cur, e, m1, m2, m3, m4⟩ := RR.box (hret.rel.root (.r (i * 64)) _ g2)
        rw [hdR i id [] hl _ g2 (by simp), k3] at m1
        refine Or.inr ⟨b, cur, e, m1, homeR b i id [] [] hl m2, m3, m4.1, fun j x v hx hv => ?_⟩
        refine ptrImm (g3 x (List.mem_of_getElem? hx)) ?_ (m4.2 j x v hx hv)
        cases hoo : others with
        | true => exact Or.inl rfl
        | false =>
          have := hmf hoo _ (hrtM _ _ g2)
          simp only [mfree, List.all_eq_true] at this
          exact Or.inr (this x (List.mem_of_getElem? hx))
  have hfloat : ∀ k r, F1 k = some r → RR w' (backHome w home (callHome home ls others) h1 ls) (backHd hd hd1) rt1 (.t k) r := by
    intro k r hk
    obtain ⟨o, c, g1, g2, rfl⟩ := hret.only k r hk
    have hc : CR w' h1 (arrTg (decide (o = .deep)) (.t k)) c (hd1 (.t k)) := hret.rel.root (.t k) _ hk
    show CR w' _ (arrTg (decide (o = .deep)) (.t k)) c (hd1 (.t k))
    by_cases hv : c.isVal = true
    · cases c with
      | val v =>
        generalize hd1 (.t k) = x at hc
        cases hc with
        | val h => exact .val h
      | _ => cases hv
    · have hcase : o = .deep ∨ others = true := by
        cases hoo : others with
        | true => exact Or.inr rfl
        | false =>
          have := hrf hoo _ (List.mem_of_getElem? g1)
          simp only [RC.free, Bool.or_eq_true, decide_eq_true_eq] at this
          exact Or.inl (this.resolve_left hv)
      refine hc.move (fun q b hb hlq => ⟨rfl, ?_⟩) (Ok.refl _)
      rcases hcase with rfl | ho
      · have e : ((arrTg (decide (Ow.deep = Ow.deep)) (Lb.t k)).exts q).lab = some (.t k, q) := by simp [arrTg, Tg.exts_own, Tg.lab]
        rw [e] at hlq ⊢
        exact homeT b k q hlq
      · rcases arrTg_exts (decide (o = .deep)) (.t k) q with h3 | h3
        · rw [h3] at hlq ⊢; exact homeN ho b hlq
        · rw [h3] at hlq ⊢; exact homeT b k q hlq
  have hXr : ∀ id, (∃ (i : Nat) (p : Path), ls[i]? = some (some (id, p))) ∨ (∀ (i : Nat) p, ls[i]? ≠ some (some (id, p))) := by
    intro id
    by_cases h : ∃ (i : Nat) (p : Path), ls[i]? = some (some (id, p))
    · exact Or.inl h
    · exact Or.inr (fun i p e => h ⟨i, p, e⟩)
  -- a block that is kept, of a root that is not handed over
  have keepOwn : ∀ b l q, b < w.heap.size → home b = some (l, q) → (∀ (i : Nat) id p, l = .r id → ls[i]? = some (some (id, p)) → ¬ p <+: q) → w'.heap[b]? = w.heap[b]? ∧ backHome w home (callHome home ls others) h1 ls b = some (l, q) := by
    intro b l q hb hh hn
    have hkeep : ∀ j q', callHome home ls others b ≠ some (.r j, q') := by
      intro j q' hc
      obtain ⟨i2, id2, p2, _, e2, e3⟩ := callHome_inv hc
      rw [hh] at e3; injection e3 with e3; injection e3 with e4 e5
      exact hn i2 id2 p2 e4 e2 ⟨q', e5.symm⟩
    obtain ⟨e1, _, e3⟩ := kept b hb hkeep
    exact ⟨e1, e3.trans hh⟩
  -- what a handed root is behind the call
  have hlive : ∀ (i id : Nat) p, ls[i]? = some (some (id, p)) → (∃ r, rt1 id = some r) ∧ (∃ r0, rt id = some r0 ∧ r0 ≠ .gone) ∧ (∀ r, rt1 id = some r → r.ids = []) ∧ ((p ≠ [] ∨ ∃ m, rtM (locIds 0 ls) res.ms (i * 64) = some m) → ∃ r, rt1 id = some r ∧ r ≠ .gone) := by
    intro i id p hl
    rcases b2 i id p hl with ⟨d, t, c, t2, c2, c', sz, n, k, tot, g1, g2, g3, g4, g5, g6, g7, g8⟩ | ⟨d, t, c, g1, g2, g3⟩ | ⟨ys, xs, g1, g2, g3, g4⟩
    · exact ⟨⟨_, g8⟩, ⟨_, g1, by simp⟩, fun r hr => by rw [g8] at hr; injection hr with hr; subst hr; rfl, fun _ => ⟨_, g8, by simp⟩⟩
    · rcases g3 with ⟨g3, g4⟩ | ⟨g3, g4, g5, g6⟩
      · refine ⟨⟨_, g4⟩, ⟨_, g1, by simp⟩, fun r hr => by rw [g4] at hr; injection hr with hr; subst hr; rfl, fun h => ?_⟩
        rcases h with h | ⟨m, h⟩
        · exact absurd g3 h
        · rw [g2] at h; cases h
      · exact ⟨⟨_, g6⟩, ⟨_, g1, by simp⟩, fun r hr => by rw [g6] at hr; injection hr with hr; subst hr; rfl, fun _ => ⟨_, g6, by simp⟩⟩
    · refine ⟨⟨_, g4⟩, ⟨_, g1, by simp⟩, fun r hr => ?_, fun _ => ⟨_, g4, by simp⟩⟩
      rw [g4] at hr; injection hr with hr; subst hr
      simp only [Root.ids, List.flatMap_eq_nil_iff]
      exact g3
  refine ⟨Step.mk2 (fun l => (∃ k, l = .t k) ∨ ∃ (i id : Nat) (p : Path), ls[i]? = some (some (id, p)) ∧ l = .r id) old (fun b hb hh => ?_) (fun l hl b q hb hh => ?_) (fun l hl => ?_) (fun l hl => ?_) (fun id hX x v hx hs hv => ?_) (fun _ l r hX hr => ?_) (fun b l p hX hh => ?_) (fun b l q hX hh => ?_) (fun l r hX hr => ?_) (fun id hs => ?_)
    hret.os hret.tape hret.output hret.size (fun id hid hX r hr hne => ?_) (by rintro (⟨k, h⟩ | ⟨i, id, p, _, h⟩) <;> cases h), ?_⟩
  · have hkeep : ∀ j q', callHome home ls others b ≠ some (.r j, q') := fun j q' hc => by rw [callHome_none hh] at hc; cases hc
    obtain ⟨e1, _, e3⟩ := kept b hb hkeep
    exact ⟨e1, e3.trans hh⟩
  · exact keepOwn b l q hb hh (fun i id p e1 e2 => absurd (Or.inr ⟨i, id, p, e2, e1⟩) hl)
  · cases l with
    | t k => exact absurd (Or.inl ⟨k, rfl⟩) hl
    | r id => rfl
    | x => rfl
  · cases l with
    | t k => exact absurd (Or.inl ⟨k, rfl⟩) hl
    | r id => exact b1 id (fun i p e => hl (Or.inr ⟨i, id, p, e, rfl⟩))
    | x => rfl
  · -- slots that lead to what was handed over
    obtain ⟨i, p, hl⟩ : ∃ (i : Nat) (p : Path), ls[i]? = some (some (id, p)) := by
      rcases hX with ⟨k, e⟩ | ⟨i, id', p, hl, e⟩
      · cases e
      · injection e with e; subst e; exact ⟨i, p, hl⟩
    have hat : ∀ w (c : C) (u : Value), hdAt w c u [] = some u := fun w c u => by cases c <;> rfl
    have hg0 : ∀ (c : C), c.get [] = some c := fun c => by cases c <;> rfl
    -- the new root's shape at the top
    have hnew : ∀ d1 t1 c1, rt1 id = some (.arr d1 t1 c1) → t1 = true ∧ ∃ t c, rt id = some (.arr d1 t c) ∧ ∀ sz m tot, c1.shape = some (sz, m, tot) → ∃ tot', c.shape = some (sz, m, tot') := by
      intro d1 t1 c1 hr1
      have hset : ∀ (c X : C) (p : Path), p ≠ [] → ∀ sz m tot, (c.set p X).shape = some (sz, m, tot) → ∃ tot', c.shape = some (sz, m, tot') := by
        intro c X p hp sz m tot hs
        cases p with
        | nil => exact absurd rfl hp
        | cons y p =>
          obtain ⟨a, b⟩ := y
          refine ⟨tot, ?_⟩
          rw [← hs]
          cases c with
          | sl sz es sp =>
            simp only [C.set]
            split
            · split <;> simp [C.shape]
            · rfl
          | _ => rfl
      rcases b2 i id p hl with ⟨d, t, c, t2, c2, c', sz, n, k, tot, g1, g2, g3, g4, g5, ⟨n2, g6⟩, g7, g8⟩ | ⟨d, t, c, g1, g2, g3⟩ | ⟨ys, xs, g1, g2, g3, g4⟩
      · rw [g8] at hr1; injection hr1 with hr1; injection hr1 with e1 e2 e3; subst e1 e2 e3
        refine ⟨rfl, t, c, g1, fun sz' m' tot' hs' => ?_⟩
        cases p with
        | nil =>
          rw [hg0] at g4; injection g4 with g4; subst g4
          have e : c.set [] (c2.sub 0 n) = c2.sub 0 n := by cases c <;> rfl
          rw [e, C.sub_shape g6 (by omega)] at hs'
          injection hs' with hs'; injection hs' with e1 hs'; injection hs' with e2 e3; subst e1 e2
          exact ⟨k, g5⟩
        | cons y p => exact hset c _ _ (by simp) _ _ _ hs'
      · rcases g3 with ⟨_, g3⟩ | ⟨g3, g4, g5, g6⟩
        · rw [g3] at hr1; cases hr1
        · rw [g6] at hr1; injection hr1 with hr1; injection hr1 with e1 e2 e3; subst e1 e2 e3
          exact ⟨rfl, t, c, g1, fun sz' m' tot' hs' => hset c _ _ g3 _ _ _ hs'⟩
      · rw [g4] at hr1; cases hr1
    cases x with
    | c c => cases hx
    | nil k => cases hx
    | pm cs off => cases hx
    | ref j p2 off len =>
      simp only [SV.ids, List.cons.injEq, and_true] at hx; subst hx
      refine ⟨hv.1, fun d1 t1 c1 hr1 ht1 c3 u hg hu sz m tot hs' => ?_⟩
      obtain ⟨rfl, t, c, e1, e2⟩ := hnew d1 t1 c1 hr1
      have hp2 : p2 = [] := ht1.resolve_right (by simp)
      subst hp2
      rw [hg0] at hg; injection hg with hg; subst hg
      rw [hat] at hu; injection hu with hu; subst hu
      obtain ⟨tot', e3⟩ := e2 sz m tot hs'
      exact hv.2 d1 t c e1 (Or.inl rfl) c (hd (.r j)) (hg0 c) (hat _ _ _) sz m tot' e3
    | pb j off =>
      simp only [SV.ids, List.cons.injEq, and_true] at hx; subst hx
      refine ⟨hv.1, fun xs hr1 => ?_⟩
      rcases b2 i j p hl with ⟨d, t, c, t2, c2, c', sz, n, k, tot, g1, g2, g3, g4, g5, ⟨n2, g6⟩, g7, g8⟩ | ⟨d, t, c, g1, g2, g3⟩ | ⟨ys, xs', g1, g2, g3, g4⟩
      · rw [g8] at hr1; cases hr1
      · rcases g3 with ⟨_, g3⟩ | ⟨g3, g4, g5, g6⟩
        · rw [g3] at hr1; cases hr1
        · rw [g6] at hr1; cases hr1
      · exact hv.2 ys g1
    | pe j p2 i' off =>
      simp only [SV.ids, List.cons.injEq, and_true] at hx; subst hx
      refine ⟨hv.1, fun d1 t1 c1 hr1 ht1 c3 u hg hu sz m tot hs' hi => ?_⟩
      obtain ⟨rfl, t, c, e1, e2⟩ := hnew d1 t1 c1 hr1
      have hp2 : p2 = [] := ht1.resolve_right (by simp)
      subst hp2
      rw [hg0] at hg; injection hg with hg; subst hg
      rw [hat] at hu; injection hu with hu; subst hu
      obtain ⟨tot', e3⟩ := e2 sz m tot hs'
      exact hv.2 d1 t c e1 (Or.inl rfl) c (hd (.r j)) (hg0 c) (hat _ _ _) sz m tot' e3 hi
  · rcases hX with ⟨k, rfl⟩ | ⟨i, id, p, hl, rfl⟩
    · exact hfloat k r hr
    · exact hroot i id p hl r hr
  · -- what is labelled outside of what was handed over
    by_cases hk : b < w.heap.size ∧ ∀ j q, callHome home ls others b ≠ some (.r j, q)
    · obtain ⟨_, _, e3⟩ := kept b hk.1 hk.2
      exact ⟨hk.1, by rw [← e3]; exact hh⟩
    · have hk' : ¬ b < w.heap.size ∨ ∃ j q, callHome home ls others b = some (.r j, q) := by
        by_cases hs : b < w.heap.size
        · refine Or.inr (Classical.byContradiction fun hno => hk ⟨hs, fun j q e => hno ⟨j, q, e⟩⟩)
        · exact Or.inl hs
      rw [backHome_not hk'] at hh
      exfalso
      cases hhb : h1 b with
      | none => rw [hhb] at hh; cases hh
      | some y =>
        obtain ⟨l', q'⟩ := y
        rw [hhb] at hh
        cases l' with
        | x => cases hh
        | t k => injection hh with hh; injection hh with hh _; exact hX (Or.inl ⟨k, hh.symm⟩)
        | r j =>
          simp only [putBack] at hh
          split at hh
          · rename_i id p' he
            injection hh with hh; injection hh with hh _
            cases hj : ls[j / 64]? with
            | none => rw [hj] at he; cases he
            | some z =>
              rw [hj] at he
              simp only [Option.join_some] at he
              subst he
              exact hX (Or.inr ⟨j / 64, id, p', hj, hh.symm⟩)
          · cases hh
  · -- what is labelled within
    by_cases hk : b < w.heap.size ∧ ∀ j q, callHome home ls others b ≠ some (.r j, q)
    · obtain ⟨_, _, e3⟩ := kept b hk.1 hk.2
      rw [e3] at hh
      refine ⟨Nat.lt_of_lt_of_le hk.1 hret.size, ?_⟩
      rcases hX with ⟨k, rfl⟩ | ⟨i, id, p, hl, rfl⟩
      · obtain ⟨_, r, h3, _⟩ := old.lab b _ q hh
        cases h3
      · obtain ⟨_, _, _, h4⟩ := hlive i id p hl
        obtain ⟨r, h5, h6⟩ := h4 (Or.inl (fun e => by
          subst e
          exact hk.2 (i * 64) q (callHome_hit hdist hl hh)))
        exact ⟨r, h5, h6⟩
    · have hk' : ¬ b < w.heap.size ∨ ∃ j q, callHome home ls others b = some (.r j, q) := by
        by_cases hs : b < w.heap.size
        · refine Or.inr (Classical.byContradiction fun hno => hk ⟨hs, fun j q e => hno ⟨j, q, e⟩⟩)
        · exact Or.inl hs
      rw [backHome_not hk'] at hh
      cases hhb : h1 b with
      | none => rw [hhb] at hh; cases hh
      | some y =>
        obtain ⟨l', q'⟩ := y
        obtain ⟨hsz, r, hr1, hr2⟩ := hret.rel.lab b l' q' hhb
        rw [hhb] at hh
        refine ⟨hsz, ?_⟩
        cases l' with
        | x => cases hh
        | t k =>
          injection hh with hh; injection hh with hh _; subst hh
          exact ⟨r, hr1, hr2⟩
        | r j =>
          simp only [putBack] at hh
          split at hh
          · rename_i id p' he
            injection hh with hh; injection hh with hh _
            subst hh
            cases hj : ls[j / 64]? with
            | none => rw [hj] at he; cases he
            | some z =>
              rw [hj] at he
              simp only [Option.join_some] at he
              subst he
              obtain ⟨_, _, _, h4⟩ := hlive (j / 64) id p' hj
              have hr1' : rtM (locIds 0 ls) res.ms j = some r := hr1
              -- j is a multiple of 64
              have hmul : j = j / 64 * 64 := by
                have : j ∈ locIds 0 ls := by
                  have key : ∀ (ps : List Nat) (ms : List (Option Root)), rtM ps ms j = some r → j ∈ ps := by
                    intro ps
                    induction ps with
                    | nil => intro ms h; simp [rtM] at h
                    | cons x ps ih =>
                      intro ms h
                      cases ms with
                      | nil => simp [rtM] at h
                      | cons m ms =>
                        rw [rtM_cons] at h
                        split at h
                        · rename_i e; subst e; exact List.mem_cons_self ..
                        · exact List.mem_cons_of_mem _ (ih ms h)
                  exact key _ _ hr1'
                have key2 : ∀ (ls : List Loc) (k : Nat), j ∈ locIds k ls → j % 64 = 0 := by
                  intro ls
                  induction ls with
                  | nil => intro k h; cases h
                  | cons y ls ih =>
                    intro k h
                    cases y with
                    | none => exact ih (k + 1) h
                    | some z =>
                      simp only [locIds, List.mem_cons] at h
                      rcases h with rfl | h
                      · omega
                      · exact ih (k + 1) h
                have := key2 _ _ this
                omega
              obtain ⟨r', h5, h6⟩ := h4 (Or.inr ⟨r, by rw [← hmul]; exact hr1'⟩)
              exact ⟨r', h5, h6⟩
          · cases hh
  · rcases hX with ⟨k, rfl⟩ | ⟨i, id, p, hl, rfl⟩
    · obtain ⟨o, c, _, _, rfl⟩ := hret.only k r hr
      intro i hi; cases hi
    · rw [(hlive i id p hl).2.2.1 r hr]; intro j hj; cases hj
  · rcases hXr id with ⟨i, p, hl⟩ | hn
    · obtain ⟨⟨r, h⟩, _⟩ := hlive i id p hl
      rw [h]; rfl
    · rw [b1 id hn]; exact hs
  · obtain ⟨i, p, hl⟩ : ∃ (i : Nat) (p : Path), ls[i]? = some (some (id, p)) := by
      rcases hX with ⟨k, e⟩ | ⟨i, id', p, hl, e⟩
      · cases e
      · injection e with e; subst e; exact ⟨i, p, hl⟩
    exact ⟨rfl, (hlive i id p hl).2.1⟩
  · obtain ⟨fl, f1, f2, f3⟩ := hret.vals
    refine ⟨fl, f1, fun j o c v hc hv => ?_, f3⟩
    obtain ⟨g1, g2⟩ := f2 j o c v hc hv
    refine ⟨?_, g2⟩
    rcases g1 with ⟨rfl, g1⟩ | ⟨g3, g4, g5, g6⟩
    · refine Or.inl ⟨rfl, ?_⟩
      have hcase : others = true ∨ c.isVal = true := by
        cases hoo : others with
        | true => exact Or.inl rfl
        | false =>
          have := hrf hoo _ (List.mem_of_getElem? hc)
          simp only [RC.free, Bool.or_eq_true, decide_eq_true_eq, reduceCtorEq, or_false] at this
          exact Or.inr this
      exact ptrImm (x := .c c) rfl hcase g1
    · exact Or.inr ⟨g3, g4, g5, g6⟩
end
end Go.Proofs.YtecmolmlojehgaaGreat.T
namespace Go.Proofs.YtecmolmlojehgaaGreat.T
open Go
variable (ids : Nat → FuncId)

def mCall (o : Op) (f : Nat) (qs : List (Bool × Opd)) : Bool :=
  match o with
  | .call c =>
    (match c.callee with
    | .value (.func g) => g == ids f
    | _ => false) && all2 (fun x q => mOpd ids x q.2) c.args.toList qs
  | _ => false
def mCallv (o : Op) (f : Opd) (qs : List Opd) : Bool :=
  match o with
  | .call c =>
    (match c.callee with
    | .value x => mOpd ids x f
    | _ => false) && all2 (fun x q => mOpd ids x q) c.args.toList qs
  | _ => false
section
variable {ids} {P : Program} {o : Oper} {a : Act} {w : World} {home : Home} {hd : Lb → Value} {rt rt' : Rts} {av : AV} {ev : Ev} {call : Nat → List Arg → Option Res} {dst : Nat}
theorem retAV_R {as : List A1} {us : List Value} (h : F2 (A1R ids w home hd rt) as us) : AVR ids w home hd rt (retAV as) (retV us) := by
  match as, us, h with
  | [], [], h => exact ⟨[], rfl, h⟩
  | [], u :: us, h => exact absurd h.1 (by simp)
  | [x], [u], h => exact h.2 0 x u rfl rfl
  | [x], [], h => exact absurd h.1 (by simp)
  | [x], u :: v :: us, h => exact absurd h.1 (by simp)
  | x :: y :: as, [], h => exact absurd h.1 (by simp)
  | x :: y :: as, [u], h => exact absurd h.1 (by simp)
  | x :: y :: as, u :: v :: us, h => exact ⟨u :: v :: us, rfl, h⟩
theorem snap_ids {x y : SV} (h : snap rt x = some y) : y.ids = [] := by
  cases x with
  | c c => simp only [snap, Option.some.injEq] at h; subst h; rfl
  | nil k => simp only [snap, Option.some.injEq] at h; subst h; rfl
  | ref id p off len => simp only [snap, Option.map_eq_some_iff] at h; obtain ⟨c, _, rfl⟩ := h; rfl
  | pm cs off => simp only [snap, Option.some.injEq] at h; subst h; rfl
  | pb id off =>
    simp only [snap] at h
    split at h
    · rw [Option.map_eq_some_iff] at h; obtain ⟨c, _, rfl⟩ := h; rfl
    · cases h
  | pe id p i off =>
    simp only [snap] at h
    split at h
    · rw [Option.map_eq_some_iff] at h; obtain ⟨c, _, rfl⟩ := h; rfl
    · cases h
theorem snap1_ids {x y : A1} (h : snap1 rt x = some y) : y.ids = [] := by
  have key : ∀ {xs ys : List SV}, mapO (snap rt) xs = some ys → ys.flatMap (·.ids) = [] := by
    intro xs ys h
    obtain ⟨m1, m2⟩ := mapO_spec h
    rw [List.flatMap_eq_nil_iff]
    intro y hy
    obtain ⟨i, hi⟩ := List.getElem?_of_mem hy
    have hlt : i < xs.length := by rw [m1]; exact (List.getElem?_eq_some_iff.1 hi).1
    exact snap_ids (m2 i _ y (List.getElem?_eq_getElem hlt) hi)
  cases x with
  | s x => simp only [snap1, Option.map_eq_some_iff] at h; obtain ⟨c, h1, rfl⟩ := h; exact snap_ids h1
  | agg xs => simp only [snap1, Option.map_eq_some_iff] at h; obtain ⟨c, h1, rfl⟩ := h; exact key h1
  | fn f xs => simp only [snap1, Option.map_eq_some_iff] at h; obtain ⟨c, h1, rfl⟩ := h; exact key h1
theorem callR_ok (old : RtR w home hd rt F0) (hcall : ∀ f args r, call f args = some r → Sat ids P (ids f) args r) {f : Nat} {qs : List (Bool × Opd)} {vs : List Value} (hlen : vs.length = qs.length)
    (hvs : ∀ (i : Nat) q v, qs[i]? = some q → vs[i]? = some v → ∀ a, ev q.2 = some a → A1R ids w home hd rt a v ∧ ∀ j ∈ a.ids, (rt j).isSome = true) (h : callR call ev rt dst f qs = some (av, rt')) :
    Runs P (ids f) vs.toArray w (fun v w' => ∃ home' hd', Step w home hd rt F0 w' home' hd' rt' F0 ∧ AVR ids w' home' hd' rt' av v) := by
  unfold callR at h
  split at h
  · rename_i l hl
    split at h
    · rename_i r hr
      split at h
      · rename_i hc
        simp only [Bool.and_eq_true, decide_eq_true_eq, Bool.or_eq_true] at hc
        obtain ⟨⟨⟨hn, _⟩, hap⟩, hfr⟩ := hc
        split at h
        · rename_i rt1 hb
          rw [Option.map_eq_some_iff] at h
          obtain ⟨⟨as, rt2⟩, h1, h2⟩ := h
          simp only [Prod.mk.injEq] at h2
          obtain ⟨rfl, rfl⟩ := h2
          obtain ⟨m1, m2⟩ := mapO_spec hl
          have hoth : (!(r.rs.all (·.free) && r.ms.all mfree)) = true → ∀ q ∈ qs, q.1 = false → ∀ a, ev q.2 = some a → a.ids = [] := by
            intro ho q hq hqf a ha
            rcases hfr with ⟨h3, h4⟩ | h3
            · rw [h3, h4] at ho; cases ho
            · have := List.all_eq_true.1 h3 q hq
              rw [hqf, ha] at this
              simpa using this
          obtain ⟨hdist, hgiven, hrel, hargs⟩ := enter (others := !(r.rs.all (·.free) && r.ms.all mfree)) old hl hap hoth hvs
          have hsat := hcall f _ r hr w _ _ vs (by rw [List.length_map, ← m1]; exact hlen) hrel hargs (fun i x hx => by
            rw [List.getElem?_map, Option.map_eq_some_iff] at hx
            obtain ⟨y, hy, hy2⟩ := hx
            have hlt : i < qs.length := by rw [m1]; exact (List.getElem?_eq_some_iff.1 hy).1
            obtain ⟨a, _, hcase⟩ := argOf_spec (m2 i _ y (List.getElem?_eq_getElem hlt) hy)
            rcases hcase with ⟨_, a', hsn, e⟩ | ⟨_, id', p2, len, d, c', sz, n, tot, _, _, _, _, _, e⟩ | ⟨_, id', xs, _, _, _, e⟩
            · rw [e] at hy2; injection hy2 with hy2; subst hy2; exact snap1_ids hsn
            · rw [e] at hy2; cases hy2
            · rw [e] at hy2; cases hy2)
          refine hsat.mono (fun v w' hv => ?_)
          obtain ⟨h1', hd1, F1, us, rfl, hret⟩ := hv
          have hps : (initFr (l.map (·.1))).ps = locIds 0 (l.map (·.2)) := by
            refine ps_eq (k := 0) (fun x hx => ?_)
            obtain ⟨i, hi⟩ := List.getElem?_of_mem hx
            have hlt : i < qs.length := by rw [m1]; exact (List.getElem?_eq_some_iff.1 hi).1
            obtain ⟨a, _, hcase⟩ := argOf_spec (m2 i _ x (List.getElem?_eq_getElem hlt) hi)
            rcases hcase with ⟨_, a', _, e⟩ | ⟨_, id', p2, len, d, c', sz, n, tot, _, _, _, _, _, e⟩ | ⟨_, id', xs, _, _, _, e⟩
            · exact Or.inl ⟨_, e⟩
            · exact Or.inr (Or.inl ⟨_, _, _, _, e⟩)
            · exact Or.inr (Or.inr ⟨_, _, e⟩)
          obtain ⟨s1, fl, f1, f2, f3⟩ := leave old hdist hgiven hps (by rw [List.length_map, ← m1]; exact hn) hret hb (fun ho => by simpa using ho)
          obtain ⟨ys, e1, e2⟩ := valsRes_cells h1
          obtain ⟨home2, hd2, s2, g1, g2⟩ := cells_placed (k := 0) (id := nid dst) s1.rel f1 (by unfold nid; omega) (fun j o c v hc hv => by rw [Nat.zero_add]; exact f2 j o c v hc hv) (fun j r' hj => by
            obtain ⟨o, c, e3, e4, e5⟩ := hret.only j r' hj
            exact ⟨Nat.zero_le _, o, c, e3, e4, e5⟩) e1
          exact ⟨home2, hd2, s1.trans s2, retAV_R (asm_R e2 f3 g1)⟩
        · cases h
      · cases h
    · cases h
  · cases h
theorem Runs.wp {R : Value → World → Prop} {f : FuncId} {vs : Array Value} (h : Runs P f vs w R) (hx : (execOp a.eval o).run P w = (callFunc f vs).run P w) {next : Act → World → Prop} {Q : Exit → Act → World → Prop} (hn : ∀ v w', R v w' → next (a.put o.dst v) w') : o.wp P a w next Q := by
  unfold Oper.wp
  rw [hx]
  rcases h with ⟨h1, h2⟩ | ⟨v, w', h1, h2⟩
  · rw [h1]
    refine h2.mono (fun e w' ⟨v, he, hv⟩ => ?_)
    subst he
    exact hn v w' hv
  · rw [h1]; exact hn v w' h2
theorem ok_call (old : RtR w home hd rt F0) (he : EvR ids w home hd rt ev a.eval) (hcall : ∀ f args r, call f args = some r → Sat ids P (ids f) args r) {f : Nat} {qs : List (Bool × Opd)} (hm : mCall ids o.op f qs = true) (h : callR call ev rt dst f qs = some (av, rt')) : OpOk ids P o a w home hd rt av rt' := by
  unfold mCall at hm
  split at hm
  · rename_i c ho
    simp only [Bool.and_eq_true] at hm
    obtain ⟨h1, h2⟩ := hm
    split at h1
    · rename_i g hcl
      have hg : g = ids f := by simpa using h1
      subst hg
      obtain ⟨g1, g2⟩ := all2_iff h2
      have hruns := callR_ok (P := P) (vs := c.args.toList.map a.eval) old hcall (by rw [List.length_map]; exact g1) (fun i q v hq hv x hx => by
        rw [List.getElem?_map, Option.map_eq_some_iff] at hv
        obtain ⟨y, hy, rfl⟩ := hv
        exact he y q.2 x (g2 i y q hy hq) hx) h
      intro next Q hnext
      refine hruns.wp ?_ (fun v w' ⟨home', hd', s, hv⟩ => hnext v w' home' hd' s hv)
      unfold execOp
      rw [ho]
      have e : (c.args.toList.map a.eval).toArray = c.args.map a.eval := by apply Array.ext'; simp
      have hev : a.eval (.func (ids f)) = .func (.func (ids f)) #[] #[] := rfl
      simp only [resolve, hcl, hev, Deferred.ofValue, Sem.run_bind, Sem.run_pure, Result.andThen_ok, invoke, Array.empty_append, Array.append_empty, e]
    · cases h1
  · cases hm
theorem ok_callv (old : RtR w home hd rt F0) (he : EvR ids w home hd rt ev a.eval) (hcall : ∀ f args r, call f args = some r → Sat ids P (ids f) args r) {f : Opd} {qs : List Opd} (hm : mCallv ids o.op f qs = true) {g : Nat} {caps : List SV} (hf : ev f = some (.fn g caps))
    (h : callR call (fun o => match o with | .k a => some a | .t n => ev (.t n)) rt dst g (qs.map (fun q => (false, q)) ++ caps.map (fun c => (false, .k (.s c)))) = some (av, rt')) : OpOk ids P o a w home hd rt av rt' := by
  unfold mCallv at hm
  split at hm
  · rename_i c ho
    simp only [Bool.and_eq_true] at hm
    obtain ⟨h1, h2⟩ := hm
    split at h1
    · rename_i x hcl
      obtain ⟨g1, g2⟩ := all2_iff h2
      obtain ⟨⟨cs, hv, hF⟩, hids⟩ := he x f _ h1 hf
      have hruns := callR_ok (P := P) (vs := c.args.toList.map a.eval ++ cs) old hcall (by simp [g1, hF.1]) (fun i q v hq hv x hx => by
        by_cases hi : i < qs.length
        · rw [List.getElem?_append_left (by rw [List.length_map]; exact hi), List.getElem?_map, Option.map_eq_some_iff] at hq
          rw [List.getElem?_append_left (by rw [List.length_map, g1]; exact hi), List.getElem?_map, Option.map_eq_some_iff] at hv
          obtain ⟨y, hy, rfl⟩ := hv
          obtain ⟨z, hz, rfl⟩ := hq
          have hm := g2 i y z hy hz
          cases z with
          | t n => exact he y (.t n) x hm hx
          | k c0 =>
            simp only [Option.some.injEq] at hx
            subst hx
            cases y with
            | const v0 =>
              obtain ⟨e1, e2⟩ := constOk_R (ids := ids) hm w home hd rt
              exact ⟨e1, fun j hj => by rw [e2] at hj; cases hj⟩
            | func g0 =>
              cases c0 with
              | fn g' l =>
                cases l with
                | nil =>
                  simp only [mOpd, beq_iff_eq] at hm
                  subst hm
                  exact ⟨⟨[], rfl, rfl, fun i x y hx => by simp at hx⟩, fun j hj => by simp [A1.ids] at hj⟩
                | cons _ _ => cases hm
              | _ => cases hm
            | _ => cases hm
        · rw [List.getElem?_append_right (by rw [List.length_map]; omega), List.getElem?_map, Option.map_eq_some_iff] at hq
          rw [List.getElem?_append_right (by rw [List.length_map, g1]; omega)] at hv
          obtain ⟨z, hz, rfl⟩ := hq
          simp only [Option.some.injEq] at hx
          subst hx
          simp only [List.length_map] at hz hv
          rw [g1] at hv
          exact ⟨hF.2 _ z v hz hv, fun j hj => hids j (by simp only [A1.ids, List.mem_flatMap]; exact ⟨z, List.mem_of_getElem? hz, hj⟩)⟩) h
      intro next Q hnext
      refine hruns.wp ?_ (fun v w' ⟨home', hd', s, hv⟩ => hnext v w' home' hd' s hv)
      unfold execOp
      rw [ho]
      have e : (c.args.toList.map a.eval ++ cs).toArray = c.args.map a.eval ++ cs.toArray := by apply Array.ext'; simp
      simp only [resolve, hcl, hv, Deferred.ofValue, Sem.run_bind, Sem.run_pure, Result.andThen_ok, invoke, Array.empty_append, e]
    · cases h1
  · cases hm
end
end Go.Proofs.YtecmolmlojehgaaGreat.T
namespace Go.Proofs.YtecmolmlojehgaaGreat.T
open Go
variable (ids : Nat → FuncId)

/-- What a run leaves of a frame's surroundings. -/
structure Grow (w : World) (home : Home) (hd : Lb → Value) (rt : Rts) (w' : World) (home' : Home) (hd' : Lb → Value) (rt' : Rts) : Prop where
  os : w'.os = w.os
  tape : w'.tape = w.tape
  output : w'.output = w.output
  size : w.heap.size ≤ w'.heap.size
  blk : ∀ b, b < w.heap.size → home b = none → w'.heap[b]? = w.heap[b]? ∧ home' b = none
  oth : ∀ b q, b < w.heap.size → home b = some (.x, q) → w'.heap[b]? = w.heap[b]? ∧ home' b = some (.x, q)
  pin : ∀ i, i < 64000 → ∀ r, rt' i = some r → r ≠ .gone → hd' (.r i) = hd (.r i) ∧ ∃ r0, rt i = some r0 ∧ r0 ≠ .gone
section
variable {w w' w2 : World} {home home' home2 : Home} {hd hd' hd2 : Lb → Value} {rt rt' rt2 : Rts} {F F' : Nat → Option Root}
theorem Grow.refl : Grow w home hd rt w home hd rt := ⟨rfl, rfl, rfl, Nat.le_refl _, fun _ _ h => ⟨rfl, h⟩, fun _ _ _ h => ⟨rfl, h⟩, fun _ _ r hr hne => ⟨rfl, r, hr, hne⟩⟩
theorem Grow.trans (h : Grow w home hd rt w' home' hd' rt') (k : Grow w' home' hd' rt' w2 home2 hd2 rt2) : Grow w home hd rt w2 home2 hd2 rt2 :=
  ⟨k.os.trans h.os, k.tape.trans h.tape, k.output.trans h.output, Nat.le_trans h.size k.size,
    fun b hb hn => by
      obtain ⟨e1, e2⟩ := h.blk b hb hn
      obtain ⟨e3, e4⟩ := k.blk b (Nat.lt_of_lt_of_le hb h.size) e2
      exact ⟨e3.trans e1, e4⟩,
    fun b q hb hn => by
      obtain ⟨e1, e2⟩ := h.oth b q hb hn
      obtain ⟨e3, e4⟩ := k.oth b q (Nat.lt_of_lt_of_le hb h.size) e2
      exact ⟨e3.trans e1, e4⟩,
    fun i hi r hr hne => by
      obtain ⟨e1, r1, h1, n1⟩ := k.pin i hi r hr hne
      obtain ⟨e2, r2, h2, n2⟩ := h.pin i hi r1 h1 n1
      exact ⟨e1.trans e2, r2, h2, n2⟩⟩
theorem Step.grow (h : Step w home hd rt F w' home' hd' rt' F') : Grow w home hd rt w' home' hd' rt' := ⟨h.os, h.tape, h.output, h.size, h.blk, h.oth, h.pin⟩
end
/-- The abstract frame says what the machine's frame holds. -/
structure FrR (w : World) (home : Home) (hd : Lb → Value) (N : Nat) (fr : Fr) (a : Act) : Prop where
  rel : RtR w home hd fr.rt F0
  sl : ∀ t av, fr.sl t = some av → ∃ v, a.tmps[t]? = some v ∧ AVR ids w home hd fr.rt av v ∧ ∀ i ∈ av.ids, (fr.rt i).isSome = true
  sz : a.tmps.size = N
  nd : a.defers = []
def mAny (P : Program) (o : Op) : PO → Bool
  | .call f qs => mCall ids o f qs
  | .callv f qs => mCallv ids o f qs
  | p => mPO ids P o p
def mDst (N : Nat) : Option Nat → Option Nat → Bool
  | some d, some d' => d == d' && decide (d < N)
  | none, none => true
  | _, _ => false
def mG (ops : Array Oper) : Option (Nat × Bool) → Option (Nat × Bool) → Bool
  | none, none => true
  | some (j, b), some (s, b') => b == b' && ((ops[j]?).bind (·.dst) == some s)
  | _, _ => false
def mOp (P : Program) (N : Nat) (ops : Array Oper) (o : Oper) (p : POp) : Bool := mDst N o.dst p.dst && mG ops o.guard p.g && mAny ids P o.op p.op && (match p.hide with | .no => true | _ => false)
section
variable {ids} {P : Program} {w : World} {home : Home} {hd : Lb → Value} {N : Nat} {fr fr' : Fr} {a : Act} {call : Nat → List Arg → Option Res} {ops : Array Oper}
theorem FrR.tmp (h : FrR ids w home hd N fr a) {t : Nat} {av : AV} (ht : fr.sl t = some av) : AVR ids w home hd fr.rt av (a.eval (.tmp t)) ∧ ∀ i ∈ av.ids, (fr.rt i).isSome = true := by
  obtain ⟨v, h1, h2, h3⟩ := h.sl t av ht
  have : a.eval (.tmp t) = v := by
    show a.tmps.getD t undef = v
    simp [h1]
  rw [this]
  exact ⟨h2, h3⟩
theorem FrR.ev (h : FrR ids w home hd N fr a) : EvR ids w home hd fr.rt fr.ev a.eval := by
  intro x q b hm hq
  cases q with
  | t n =>
    cases x <;> simp only [mOpd, Bool.false_eq_true] at hm
    have : n = n := rfl
    rename_i t
    have ht : t = n := by simpa using hm
    subst ht
    simp only [Fr.ev] at hq
    split at hq
    · rename_i b' hb
      injection hq with hq
      subst hq
      exact h.tmp hb
    · cases hq
  | k c =>
    simp only [Fr.ev, Option.some.injEq] at hq
    subst hq
    cases x with
    | const v =>
      obtain ⟨e1, e2⟩ := constOk_R (ids := ids) hm w home hd fr.rt
      exact ⟨e1, fun j hj => by rw [e2] at hj; cases hj⟩
    | func g =>
      cases c with
      | fn g' l =>
        cases l with
        | nil =>
          simp only [mOpd, beq_iff_eq] at hm
          subst hm
          exact ⟨⟨[], rfl, rfl, fun i x y hx => by simp at hx⟩, fun j hj => by simp [A1.ids] at hj⟩
        | cons _ _ => cases hm
      | _ => cases hm
    | _ => cases hm
theorem FrR.tp (h : FrR ids w home hd N fr a) : TpR ids w home hd fr.rt fr.tup a.eval := by
  intro t as ht
  simp only [Fr.tup] at ht
  split at ht
  · rename_i as' hs
    injection ht with ht
    subst ht
    obtain ⟨⟨vs, e1, e2⟩, e3⟩ := h.tmp hs
    exact ⟨vs, e1, e2, fun x hx i hi => e3 i (by simp only [AV.ids, List.mem_flatMap]; exact ⟨x, hx, hi⟩)⟩
  · cases ht
theorem A1R.step {w' : World} {home' : Home} {hd' : Lb → Value} {rt rt' : Rts} {F F' : Nat → Option Root} (s : Step w home hd rt F w' home' hd' rt' F') {x : A1} {v : Value} (h : A1R ids w home hd rt x v) (hp : ∀ i ∈ x.ids, (rt i).isSome = true) : A1R ids w' home' hd' rt' x v := by
  cases x with
  | s x => exact s.st x v hp h
  | agg xs =>
    obtain ⟨vs, e1, e2⟩ := h
    exact ⟨vs, e1, e2.1, fun i x y hx hy => s.st x y (fun j hj => hp j (by simp only [A1.ids, List.mem_flatMap]; exact ⟨x, List.mem_of_getElem? hx, hj⟩)) (e2.2 i x y hx hy)⟩
  | fn f xs =>
    obtain ⟨vs, e1, e2⟩ := h
    exact ⟨vs, e1, e2.1, fun i x y hx hy => s.st x y (fun j hj => hp j (by simp only [A1.ids, List.mem_flatMap]; exact ⟨x, List.mem_of_getElem? hx, hj⟩)) (e2.2 i x y hx hy)⟩
theorem AVR.step {w' : World} {home' : Home} {hd' : Lb → Value} {rt rt' : Rts} {F F' : Nat → Option Root} (s : Step w home hd rt F w' home' hd' rt' F') {x : AV} {v : Value} (h : AVR ids w home hd rt x v) (hp : ∀ i ∈ x.ids, (rt i).isSome = true) : AVR ids w' home' hd' rt' x v := by
  cases x with
  | v a => exact A1R.step s h hp
  | tup as =>
    obtain ⟨vs, e1, e2⟩ := h
    exact ⟨vs, e1, e2.1, fun i x y hx hy => A1R.step s (e2.2 i x y hx hy) (fun j hj => hp j (by simp only [AV.ids, List.mem_flatMap]; exact ⟨x, List.mem_of_getElem? hx, hj⟩))⟩
  | undef => exact h
theorem mDst_spec {d p : Option Nat} (h : mDst N d p = true) : d = p ∧ ∀ t, d = some t → t < N := by
  cases d <;> cases p <;> simp only [mDst, Bool.false_eq_true, Bool.and_eq_true, beq_iff_eq, decide_eq_true_eq] at h
  · exact ⟨rfl, fun t h => by cases h⟩
  · obtain ⟨rfl, h⟩ := h
    exact ⟨rfl, fun t e => by injection e with e; subst e; exact h⟩
/-- A value is put into its slot. -/
theorem FrR.put {w' : World} {home' : Home} {hd' : Lb → Value} {rt' : Rts} (h : FrR ids w home hd N fr a) (s : Step w home hd fr.rt F0 w' home' hd' rt' F0) {d : Option Nat} (hd0 : ∀ t, d = some t → t < N) {av : AV} {v : Value} (hv : AVR ids w' home' hd' rt' av v) (hp : ∀ i ∈ av.ids, (rt' i).isSome = true) :
    FrR ids w' home' hd' N ({ fr with rt := rt' }.out d av) (a.put d v) := by
  have old : ∀ t x, fr.sl t = some x → ∃ v, a.tmps[t]? = some v ∧ AVR ids w' home' hd' rt' x v ∧ ∀ i ∈ x.ids, (rt' i).isSome = true := by
    intro t x ht
    obtain ⟨v, h1, h2, h3⟩ := h.sl t x ht
    exact ⟨v, h1, AVR.step s h2 h3, fun i hi => s.pres i (h3 i hi)⟩
  cases d with
  | none => exact ⟨s.rel, old, h.sz, h.nd⟩
  | some t =>
    refine ⟨s.rel, fun t' x hx => ?_, by simp [Act.put, h.sz], h.nd⟩
    simp only [Fr.out, Fr.set, upd] at hx
    have ht := hd0 t rfl
    split at hx
    · rename_i e
      injection hx with hx
      subst hx e
      refine ⟨v, ?_, hv, hp⟩
      simp only [Act.put]
      rw [Array.getElem?_setIfInBounds_self_of_lt (by rw [h.sz]; exact ht)]
    · rename_i e
      obtain ⟨u, h1, h2, h3⟩ := old t' x hx
      refine ⟨u, ?_, h2, h3⟩
      simp only [Act.put]
      rw [Array.getElem?_setIfInBounds_ne (Ne.symm e)]
      exact h1
theorem exec_ok (hcall : ∀ f args r, call f args = some r → Sat ids P (ids f) args r) (h : FrR ids w home hd N fr a) {o : Oper} {p : POp} (hd0 : mDst N o.dst p.dst = true) (hm : mAny ids P o.op p.op = true) (hh : p.hide = .no) (he : fr.exec call p = some fr') {next : Act → World → Prop} {Q : Exit → Act → World → Prop}
    (hn : ∀ a' w' home' hd', Grow w home hd fr.rt w' home' hd' fr'.rt → FrR ids w' home' hd' N fr' a' → next a' w') : o.wp P a w next Q := by
  obtain ⟨hdst, hlt⟩ := mDst_spec hd0
  unfold Fr.exec at he
  rw [hh] at he
  simp only [mask, merge] at he
  split at he
  · rename_i av rt' hact
    split at he
    · rename_i hids
      injection he with he
      subst he
      have hp : ∀ i ∈ av.ids, (rt' i).isSome = true := fun i hi => by
        have := List.all_eq_true.1 hids i hi
        simp only [Bool.and_eq_true] at this
        exact this.1
      have hok : OpOk ids P o a w home hd fr.rt av rt' := by
        have hev := h.ev
        cases hpo : p.op with
        | call f qs =>
          rw [hpo] at hm hact
          exact ok_call h.rel hev hcall hm hact
        | callv f qs =>
          rw [hpo] at hm hact
          simp only [act] at hact
          split at hact
          · rename_i g caps hf
            exact ok_callv h.rel hev hcall hm hf hact
          · cases hact
        | _ =>
          rw [hpo] at hm hact
          refine act_ok h.rel hev h.tp ?_ hact
          exact hm
      refine hok next Q (fun v w' home' hd' s hv => hn _ w' home' hd' ?_ ?_)
      · cases p.dst <;> exact s.grow
      · rw [← hdst]
        exact h.put s (fun t ht => hlt t ht) hv hp
    · cases he
  · cases he
end
end Go.Proofs.YtecmolmlojehgaaGreat.T
namespace Go.Proofs.YtecmolmlojehgaaGreat.T
open Go
variable (ids : Nat → FuncId)

section
variable {ids} {P : Program} {w : World} {home : Home} {hd : Lb → Value} {N : Nat} {fr fr' : Fr} {a : Act} {call : Nat → List Arg → Option Res} {ops : Array Oper}
theorem step_ok (hcall : ∀ f args r, call f args = some r → Sat ids P (ids f) args r) (h : FrR ids w home hd N fr a) {o : Oper} {p : POp} (hm : mOp ids P N ops o p = true) (he : fr.step call p = some fr') {next : Act → World → Prop} {Q : Exit → Act → World → Prop}
    (hn : ∀ a' w' home' hd', Grow w home hd fr.rt w' home' hd' fr'.rt → FrR ids w' home' hd' N fr' a' → next a' w') :
    if Region.wanted o (yielded ops a.tmps) then o.wp P a w next Q ∨ (o.asks P a w ∧ LetsOut Q) else next (a.put o.dst undef) w := by
  simp only [mOp, Bool.and_eq_true] at hm
  obtain ⟨⟨⟨h1, h2⟩, h3⟩, h4⟩ := hm
  have hno : p.hide = .no := by
    cases hp : p.hide with
    | no => rfl
    | all => rw [hp] at h4; cases h4
    | ids a b => rw [hp] at h4; cases h4
  have hput : fr' = fr.out p.dst .undef → next (a.put o.dst undef) w := by
    intro e
    obtain ⟨hdst, hlt⟩ := mDst_spec h1
    refine hn _ w home hd ?_ ?_
    · rw [e]; cases p.dst <;> exact Grow.refl
    · rw [e, hdst]
      have := h.put (Step.refl h.rel) (d := p.dst) (fun t ht => hlt t (by rw [hdst]; exact ht)) (av := .undef) (v := undef) rfl (fun i hi => by cases hi)
      exact this
  unfold Fr.step at he
  cases hg : o.guard with
  | none =>
    rw [hg] at h2
    cases hpg : p.g with
    | some x => rw [hpg] at h2; obtain ⟨j, b⟩ := x; cases h2
    | none =>
      rw [hpg] at he
      have hw : Region.wanted o (yielded ops a.tmps) = true := by unfold Region.wanted; rw [hg]
      rw [hw, if_pos rfl]
      exact Or.inl (exec_ok hcall h h1 h3 hno he hn)
  | some x =>
    obtain ⟨j, want⟩ := x
    rw [hg] at h2
    cases hpg : p.g with
    | none => rw [hpg] at h2; cases h2
    | some y =>
      obtain ⟨s, want'⟩ := y
      rw [hpg] at h2 he
      simp only [mG, Bool.and_eq_true, beq_iff_eq] at h2
      obtain ⟨rfl, hj⟩ := h2
      simp only at he
      split at he
      · rename_i b hs
        obtain ⟨v, e1, e2, _⟩ := h.sl s _ hs
        have hv : v = .bool b := svR_val (hd := hd) (rt := fr.rt) e2
        have hy : yielded ops a.tmps j = some b := by
          unfold yielded
          rw [hj, Option.bind_some, e1, hv]
        have hw : Region.wanted o (yielded ops a.tmps) = (b == want) := by
          unfold Region.wanted
          rw [hg]
          simp only [hy]
          cases b <;> cases want <;> rfl
        rw [hw]
        split at he
        · rename_i hb
          subst hb
          rw [if_pos (by simp)]
          exact Or.inl (exec_ok hcall h h1 h3 hno he hn)
        · rename_i hb
          rw [if_neg (by simpa using hb)]
          injection he with he
          exact hput he.symm
      · rename_i hs
        obtain ⟨v, e1, e2, _⟩ := h.sl s _ hs
        have hv : v = undef := e2
        have hy : yielded ops a.tmps j = none := by
          unfold yielded
          rw [hj, Option.bind_some, e1, hv]
          rfl
        have hw : Region.wanted o (yielded ops a.tmps) = false := by
          unfold Region.wanted
          rw [hg]
          simp only [hy]
          rfl
        rw [hw, if_neg (by simp)]
        injection he with he
        exact hput he.symm
      · cases he
theorem steps_ok (hcall : ∀ f args r, call f args = some r → Sat ids P (ids f) args r) {Q : Exit → Act → World → Prop} : ∀ {l : List POp} {i : Nat} {w : World} {home : Home} {hd : Lb → Value} {fr fr' : Fr} {a : Act}, FrR ids w home hd N fr a →
    (∀ (k : Nat) p, l[k]? = some p → ∃ o, ops[i + k]? = some o ∧ mOp ids P N ops o p = true) → fr.steps call l = some fr' →
    (∀ a' w' home' hd', Grow w home hd fr.rt w' home' hd' fr'.rt → FrR ids w' home' hd' N fr' a' → Q .normal a' w') → wpOps P ops Q (List.range' i l.length) a w
  | [], i, w, home, hd, fr, fr', a, h, _, he, hq => by
    simp only [Fr.steps, Option.some.injEq] at he
    subst he
    exact hq a w home hd Grow.refl h
  | p :: l, i, w, home, hd, fr, fr', a, h, hm, he, hq => by
    simp only [Fr.steps] at he
    split at he
    · rename_i fr1 h1
      obtain ⟨o, ho, hmo⟩ := hm 0 p rfl
      rw [Nat.add_zero] at ho
      simp only [List.length_cons, List.range'_succ, wpOps, ho]
      refine step_ok hcall h hmo h1 (fun a' w' home' hd' g hf => ?_)
      refine steps_ok hcall hf (fun k q hk => ?_) he (fun a2 w2 home2 hd2 g2 hf2 => hq a2 w2 home2 hd2 (g.trans g2) hf2)
      obtain ⟨o', ho', hm'⟩ := hm (k + 1) q (by simpa using hk)
      exact ⟨o', by rw [show i + 1 + k = i + (k + 1) by omega]; exact ho', hm'⟩
    · cases he

/-! ### What is kept -/
theorem asl_filterMap {β : Type} (g : Nat → Option β) (m : List Nat) (j : Nat) : asl (m.filterMap (fun i => (g i).map (fun r => (i, r)))) j = if j ∈ m then g j else none := by
  induction m with
  | nil => rfl
  | cons i m ih =>
    rw [List.filterMap_cons]
    cases hg : g i with
    | none =>
      simp only [hg, Option.map_none]
      rw [ih]
      by_cases hj : j = i
      · subst hj
        simp [hg]
      · simp [hj]
    | some r =>
      simp only [hg, Option.map_some, asl, lookup_cons]
      by_cases hj : j = i
      · subst hj; simp [hg]
      · rw [if_neg hj]
        have : asl (m.filterMap (fun i => (g i).map (fun r => (i, r)))) j = _ := ih
        simp only [asl] at this
        rw [this]
        simp [hj]
/-- The roots that are kept. -/
def keepRt (rt : Rts) (m : List Nat) : Rts := fun i => if i ∈ m then (rt i).bind (·.tidy (cut rt m)) else none
theorem keep_rt (fr : Fr) (live : List Nat) : (fr.keep live).rt = keepRt fr.rt (fr.meets live) := by
  funext j
  simp only [Fr.keep, asl_filterMap, keepRt]
  by_cases hj : j ∈ fr.meets live
  · simp only [hj, if_true]
    have : cut fr.rt (fr.meets live) j = fr.rt j := by simp [cut, hj]
    rw [this]
  · simp [hj]
theorem keep_sl (fr : Fr) (live : List Nat) (t : Nat) : (fr.keep live).sl t = if t ∈ live then (fr.sl t).map (·.tidy (cut fr.rt (fr.meets live))) else none := by
  have := asl_filterMap (fun s => (fr.sl s).map (·.tidy (cut fr.rt (fr.meets live)))) live t
  rw [← this]
  simp only [Fr.keep]
  congr 2
  funext s
  cases fr.sl s <;> rfl
def keepHome (home : Home) (rt : Rts) : Home := fun b =>
  match home b with
  | some (.r i, q) => if (rt i).isSome then some (.r i, q) else none
  | y => y
theorem keepHome_none {rt : Rts} {b : Nat} (h : home b = none) : keepHome home rt b = none := by simp [keepHome, h]
theorem keepHome_r {rt : Rts} {b i : Nat} {q : Path} (h : home b = some (.r i, q)) (hr : (rt i).isSome = true) : keepHome home rt b = some (.r i, q) := by simp [keepHome, h, hr]
theorem keepRt_arr {rt : Rts} {m : List Nat} {i : Nat} {d t : Bool} {c : C} (h : keepRt rt m i = some (.arr d t c)) : t = false ∧ ∃ t0, rt i = some (.arr d t0 c) := by
  simp only [keepRt] at h
  split at h
  · cases hr : rt i with
    | none => rw [hr] at h; cases h
    | some r =>
      rw [hr] at h
      cases r with
      | arr d0 t0 c0 =>
        simp only [Option.bind_some, Root.tidy, Option.some.injEq, Root.arr.injEq] at h
        obtain ⟨rfl, h2, rfl⟩ := h
        exact ⟨h2.symm, t0, rfl⟩
      | box xs => cases h
      | gone => cases h
  · cases h
theorem keepRt_box {rt : Rts} {m : List Nat} {i : Nat} {xs : List SV} (h : keepRt rt m i = some (.box xs)) : ∃ ys, rt i = some (.box ys) ∧ xs = ys.map (·.tidy (cut rt m)) := by
  simp only [keepRt] at h
  split at h
  · cases hr : rt i with
    | none => rw [hr] at h; cases h
    | some r =>
      rw [hr] at h
      cases r with
      | arr d0 t0 c0 => cases h
      | box ys =>
        simp only [Option.bind_some, Root.tidy, Option.some.injEq, Root.box.injEq] at h
        exact ⟨ys, rfl, h.symm⟩
      | gone => cases h
  · cases h
theorem keepRt_gone {rt : Rts} {m : List Nat} {i : Nat} : keepRt rt m i ≠ some .gone := by
  intro h
  simp only [keepRt] at h
  split at h
  · cases hr : rt i with
    | none => rw [hr] at h; cases h
    | some r => rw [hr] at h; cases r <;> cases h
  · cases h
theorem cut_some {rt : Rts} {m : List Nat} {i : Nat} {r : Root} (h : cut rt m i = some r) : i ∈ m ∧ rt i = some r := by
  simp only [cut] at h
  split at h
  · rename_i hc; exact ⟨by simpa using hc, h⟩
  · cases h
theorem tidy_ids {rt : Rts} {m : List Nat} {x : SV} : ∀ i ∈ (x.tidy (cut rt m)).ids, (keepRt rt m i).isSome = true := by
  intro i hi
  have key : ∀ {id : Nat} {r : Root}, cut rt m id = some r → r ≠ .gone → (keepRt rt m id).isSome = true := by
    intro id r h hne
    obtain ⟨h1, h2⟩ := cut_some h
    simp only [keepRt, h1, if_true, h2, Option.bind_some]
    cases r with
    | gone => exact absurd rfl hne
    | arr d t c => rfl
    | box xs => rfl
  cases x with
  | c c => cases hi
  | nil k => cases hi
  | pm cs off => cases hi
  | ref id p off len =>
    simp only [SV.tidy] at hi
    split at hi
    · rename_i d t c hr
      split at hi
      · simp only [SV.ids, List.mem_singleton] at hi; subst hi; exact key hr (by simp)
      · cases hi
    · cases hi
  | pe id p k off =>
    simp only [SV.tidy] at hi
    split at hi
    · rename_i d t c hr
      split at hi
      · simp only [SV.ids, List.mem_singleton] at hi; subst hi; exact key hr (by simp)
      · cases hi
    · cases hi
  | pb id off =>
    simp only [SV.tidy] at hi
    split at hi
    · rename_i xs hr
      simp only [SV.ids, List.mem_singleton] at hi; subst hi; exact key hr (by simp)
    · cases hi
theorem SVR.tidy {rt : Rts} {F : Nat → Option Root} (old : RtR w home hd rt F) (m : List Nat) {x : SV} {v : Value} (h : SVR w home hd rt x v) : SVR w (keepHome home (keepRt rt m)) hd (keepRt rt m) (x.tidy (cut rt m)) v := by
  have hn : ∀ b, b < w.heap.size → home b = none → w.heap[b]? = w.heap[b]? ∧ keepHome home (keepRt rt m) b = none := fun b _ hb => ⟨rfl, keepHome_none hb⟩
  have hole : SVR w (keepHome home (keepRt rt m)) hd (keepRt rt m) (.c .hole) v := CR.hole h.one
  cases x with
  | c c => exact h.imm old rfl hn
  | nil k => exact h.imm old rfl hn
  | pm cs off => exact h.imm old rfl hn
  | ref id p off len =>
    simp only [SV.tidy]
    split
    · rename_i d t c hr
      obtain ⟨_, hr⟩ := cut_some hr
      split
      · rename_i hc
        refine ⟨h.1, fun d1 t1 c1 hr1 _ c' u hg hu sz k tot hs => ?_⟩
        obtain ⟨_, t0, e⟩ := keepRt_arr hr1
        rw [hr] at e; injection e with e; injection e with e1 e2 e3; subst e1 e2 e3
        exact h.2 d t c hr (by simpa using hc) c' u hg hu sz k tot hs
      · exact hole
    · exact hole
  | pe id p k off =>
    simp only [SV.tidy]
    split
    · rename_i d t c hr
      obtain ⟨_, hr⟩ := cut_some hr
      split
      · rename_i hc
        refine ⟨h.1, fun d1 t1 c1 hr1 _ c' u hg hu sz n tot hs hi => ?_⟩
        obtain ⟨_, t0, e⟩ := keepRt_arr hr1
        rw [hr] at e; injection e with e; injection e with e1 e2 e3; subst e1 e2 e3
        exact h.2 d t c hr (by simpa using hc) c' u hg hu sz n tot hs hi
      · exact hole
    · exact hole
  | pb id off =>
    simp only [SV.tidy]
    split
    · rename_i xs hr
      obtain ⟨_, hr⟩ := cut_some hr
      exact ⟨h.1, fun ys _ => h.2 xs hr⟩
    · exact hole
theorem F2.map {α β γ : Type} {R : α → β → Prop} {S : γ → β → Prop} {f : α → γ} {xs : List α} {ys : List β} (h : F2 R xs ys) (hf : ∀ x y, x ∈ xs → R x y → S (f x) y) : F2 S (xs.map f) ys := by
  refine ⟨by rw [List.length_map]; exact h.1, fun i z y hz hy => ?_⟩
  rw [List.getElem?_map, Option.map_eq_some_iff] at hz
  obtain ⟨x, hx, rfl⟩ := hz
  exact hf x y (List.mem_of_getElem? hx) (h.2 i x y hx hy)
theorem A1R.tidy {rt : Rts} {F : Nat → Option Root} (old : RtR w home hd rt F) (m : List Nat) {x : A1} {v : Value} (h : A1R ids w home hd rt x v) : A1R ids w (keepHome home (keepRt rt m)) hd (keepRt rt m) (x.tidy (cut rt m)) v := by
  cases x with
  | s x => exact SVR.tidy old m h
  | agg xs =>
    obtain ⟨vs, e1, e2⟩ := h
    exact ⟨vs, e1, e2.map (fun x y _ h => SVR.tidy old m h)⟩
  | fn f xs =>
    obtain ⟨vs, e1, e2⟩ := h
    exact ⟨vs, e1, e2.map (fun x y _ h => SVR.tidy old m h)⟩
theorem AVR.tidy {rt : Rts} {F : Nat → Option Root} (old : RtR w home hd rt F) (m : List Nat) {x : AV} {v : Value} (h : AVR ids w home hd rt x v) : AVR ids w (keepHome home (keepRt rt m)) hd (keepRt rt m) (x.tidy (cut rt m)) v := by
  cases x with
  | v a => exact A1R.tidy old m h
  | tup as =>
    obtain ⟨vs, e1, e2⟩ := h
    exact ⟨vs, e1, e2.map (fun x y _ h => A1R.tidy old m h)⟩
  | undef => exact h
theorem A1.tidy_ids {rt : Rts} {m : List Nat} {x : A1} : ∀ i ∈ (x.tidy (cut rt m)).ids, (keepRt rt m i).isSome = true := by
  intro i hi
  cases x with
  | s x => exact Go.Proofs.YtecmolmlojehgaaGreat.T.tidy_ids i hi
  | agg xs =>
    simp only [A1.tidy, A1.ids, List.mem_flatMap, List.mem_map] at hi
    obtain ⟨y, ⟨x, _, rfl⟩, h2⟩ := hi
    exact Go.Proofs.YtecmolmlojehgaaGreat.T.tidy_ids i h2
  | fn f xs =>
    simp only [A1.tidy, A1.ids, List.mem_flatMap, List.mem_map] at hi
    obtain ⟨y, ⟨x, _, rfl⟩, h2⟩ := hi
    exact Go.Proofs.YtecmolmlojehgaaGreat.T.tidy_ids i h2
theorem AV.tidy_ids {rt : Rts} {m : List Nat} {x : AV} : ∀ i ∈ (x.tidy (cut rt m)).ids, (keepRt rt m i).isSome = true := by
  intro i hi
  cases x with
  | v a => exact A1.tidy_ids i hi
  | tup as =>
    simp only [AV.tidy, AV.ids, List.mem_flatMap, List.mem_map] at hi
    obtain ⟨y, ⟨x, _, rfl⟩, h2⟩ := hi
    exact A1.tidy_ids i h2
  | undef => cases hi
theorem keep_rel {rt : Rts} (old : RtR w home hd rt F0) (m : List Nat) : RtR w (keepHome home (keepRt rt m)) hd (keepRt rt m) F0 := by
  refine ⟨fun l r hr => ?_, fun b l p hb => ?_, fun l r hr => ?_⟩
  · cases l with
    | x => simp only [ext, Option.some.injEq] at hr; subst hr; exact Or.inl rfl
    | t k => cases hr
    | r i =>
      have hr' : keepRt rt m i = some r := hr
      have hsome : (keepRt rt m i).isSome = true := by rw [hr']; rfl
      cases r with
      | gone => trivial
      | arr d t c =>
        obtain ⟨_, t0, e⟩ := keepRt_arr hr'
        have hold : CR w home (arrTg d (.r i)) c (hd (.r i)) := old.root (.r i) _ e
        show CR w _ (arrTg d (.r i)) c (hd (.r i))
        refine hold.move (fun q b _ hl => ⟨rfl, ?_⟩) (Ok.refl _)
        rcases arrTg_exts d (.r i) q with h1 | h1
        · rw [h1] at hl ⊢; exact keepHome_none hl
        · rw [h1] at hl ⊢; exact keepHome_r hl hsome
      | box xs =>
        obtain ⟨ys, e, rfl⟩ := keepRt_box hr'
        obtain ⟨b, cur, e1, k1, k2, k3, k4⟩ := RR.box (old.root (.r i) _ e)
        exact Or.inr ⟨b, cur, e1, k1, keepHome_r k2 hsome, k3, k4.map (fun x y _ h => SVR.tidy old m h)⟩
  · have hcase : home b = some (l, p) ∧ ∀ i, l = .r i → (keepRt rt m i).isSome = true := by
      unfold keepHome at hb
      split at hb
      · rename_i i q hh
        split at hb
        · rename_i hs
          injection hb with hb; injection hb with e1 e2; subst e1 e2
          exact ⟨hh, fun j e => by injection e with e; subst e; exact hs⟩
        · cases hb
      · rename_i hne
        exact ⟨hb, fun i e => by subst e; exact absurd hb (hne i p)⟩
    obtain ⟨h1, h2⟩ := hcase
    obtain ⟨h3, r, h4, h5⟩ := old.lab b l p h1
    refine ⟨h3, ?_⟩
    cases l with
    | x => exact ⟨.box [], rfl, by simp⟩
    | t k => cases h4
    | r i =>
      obtain ⟨r', hr'⟩ := Option.isSome_iff_exists.1 (h2 i rfl)
      exact ⟨r', hr', fun e => keepRt_gone (by rw [← e]; exact hr')⟩
  · cases l with
    | x => simp only [ext, Option.some.injEq] at hr; subst hr; intro i hi; simp [Root.ids] at hi
    | t k => cases hr
    | r i =>
      have hr' : keepRt rt m i = some r := hr
      intro j hj
      cases r with
      | gone => cases hj
      | arr d t c => cases hj
      | box xs =>
        obtain ⟨ys, e, rfl⟩ := keepRt_box hr'
        simp only [Root.ids, List.mem_flatMap, List.mem_map] at hj
        obtain ⟨y, ⟨x, _, rfl⟩, h2⟩ := hj
        exact Go.Proofs.YtecmolmlojehgaaGreat.T.tidy_ids j h2
theorem keep_grow {rt : Rts} (m : List Nat) : Grow w home hd rt w (keepHome home (keepRt rt m)) hd (keepRt rt m) := by
  refine ⟨rfl, rfl, rfl, Nat.le_refl _, fun b _ h => ⟨rfl, keepHome_none h⟩, fun b q _ h => ⟨rfl, by simp [keepHome, h]⟩, fun i _ r hr hne => ⟨rfl, ?_⟩⟩
  cases r with
  | gone => exact absurd rfl hne
  | arr d t c => obtain ⟨_, t0, e⟩ := keepRt_arr hr; exact ⟨_, e, by simp⟩
  | box xs => obtain ⟨ys, e, _⟩ := keepRt_box hr; exact ⟨_, e, by simp⟩
theorem keep_ok (h : FrR ids w home hd N fr a) (live : List Nat) : FrR ids w (keepHome home (keepRt fr.rt (fr.meets live))) hd N (fr.keep live) a := by
  refine ⟨by rw [keep_rt]; exact keep_rel h.rel _, fun t av ht => ?_, h.sz, h.nd⟩
  rw [keep_sl] at ht
  split at ht
  · rw [Option.map_eq_some_iff] at ht
    obtain ⟨av0, h1, rfl⟩ := ht
    obtain ⟨v, h2, h3, _⟩ := h.sl t av0 h1
    rw [keep_rt]
    exact ⟨v, h2, AVR.tidy h.rel _ h3, AV.tidy_ids⟩
  · cases ht
end
end Go.Proofs.YtecmolmlojehgaaGreat.T
