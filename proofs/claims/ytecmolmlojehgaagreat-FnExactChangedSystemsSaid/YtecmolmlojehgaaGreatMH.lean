/- Drawn regions: roots that an operation does not meet make no difference to it. Drawn regions: whatever order the operations come up in, the frame behind them is the same. Drawn regions: the stages on the way, and the region as a whole. Code. A function's end. -/
import Derived.Test.YtecmolmlojehgaaGreatMG
namespace Go.Proofs.YtecmolmlojehgaaGreat.T
open Go
/-- rt' is rt with some roots more. -/
def Ext (D : Nat → Prop) (rt rt' : Rts) : Prop := (∀ i, D i → rt i = none) ∧ ∀ i, ¬ D i → rt' i = rt i
/-- What was done to rt was done to rt'. -/
def ExtTo (D : Nat → Prop) (rt rt' rt1 rt1' : Rts) : Prop := Ext D rt1 rt1' ∧ (∀ i, D i → rt1' i = rt' i) ∧ ∀ i, (rt i).isSome = true → (rt1 i).isSome = true
section
variable {D : Nat → Prop} {rt rt' rt1 rt2 rt1' rt2' : Rts} {call : Nat → List Arg → Option Res} {ev : Ev} {tp : Nat → Option (List A1)} {dst : Nat} {av : AV}
theorem Ext.at (h : Ext D rt rt') {i : Nat} {r : Root} (hi : rt i = some r) : ¬ D i ∧ rt' i = some r := by
  have : ¬ D i := fun e => by rw [h.1 i e] at hi; cases hi
  exact ⟨this, (h.2 i this).trans hi⟩
theorem Ext.sub (h : Ext D rt rt') : Sub rt rt' := fun _ _ hi => (h.at hi).2
theorem Ext.is (h : Ext D rt rt') {i : Nat} (hi : (rt i).isSome = true) : (rt' i).isSome = true := by
  obtain ⟨r, hr⟩ := Option.isSome_iff_exists.1 hi
  rw [(h.at hr).2]; rfl
theorem ExtTo.refl (h : Ext D rt rt') : ExtTo D rt rt' rt rt' := ⟨h, fun _ _ => rfl, fun _ h => h⟩
theorem ExtTo.trans (h : ExtTo D rt rt' rt1 rt1') (k : ExtTo D rt1 rt1' rt2 rt2') : ExtTo D rt rt' rt2 rt2' := ⟨k.1, fun i hi => (k.2.1 i hi).trans (h.2.1 i hi), fun i hi => k.2.2 i (h.2.2 i hi)⟩
theorem ExtTo.upd (h : Ext D rt rt') {i : Nat} (hi : ¬ D i) (r : Root) : ExtTo D rt rt' (upd rt i r) (upd rt' i r) := by
  refine ⟨⟨fun j hj => ?_, fun j hj => ?_⟩, fun j hj => ?_, fun j hj => ?_⟩
  · have : j ≠ i := fun e => hi (e ▸ hj)
    rw [updF_ne _ _ this]; exact h.1 j hj
  · by_cases e : j = i
    · subst e; rw [updF_same, updF_same]
    · rw [updF_ne _ _ e, updF_ne _ _ e]; exact h.2 j hj
  · have : j ≠ i := fun e => hi (e ▸ hj)
    exact updF_ne _ _ this
  · by_cases e : j = i
    · subst e; rw [updF_same]; rfl
    · rw [updF_ne _ _ e]; exact hj
theorem take_ext (h : Ext D rt rt') {x : SV} {o : Ow} {c : C} (ht : take rt x = some (o, c, rt1)) : ∃ rt1', take rt' x = some (o, c, rt1') ∧ ExtTo D rt rt' rt1 rt1' := by
  cases x with
  | c c => simp only [take, Option.some.injEq, Prod.mk.injEq] at ht; obtain ⟨rfl, rfl, rfl⟩ := ht; exact ⟨rt', rfl, .refl h⟩
  | nil k => simp only [take, Option.some.injEq, Prod.mk.injEq] at ht; obtain ⟨rfl, rfl, rfl⟩ := ht; exact ⟨rt', rfl, .refl h⟩
  | pb id off => cases ht
  | pe id p i off => cases ht
  | pm cs off => cases ht
  | ref id p off len =>
    cases p with
    | nil =>
      simp only [take] at ht ⊢
      split at ht
      · rename_i d t c0 hr
        obtain ⟨hn, hr'⟩ := h.at hr
        split at ht
        · rename_i a b tot hs
          split at ht
          · rename_i hc
            simp only [Option.some.injEq, Prod.mk.injEq] at ht
            obtain ⟨rfl, rfl, rfl⟩ := ht
            exact ⟨_, by simp only [hr', hs, if_pos hc], .upd h hn _⟩
          · cases ht
        · cases ht
      · cases ht
    | cons y p =>
      simp only [take] at ht ⊢
      split at ht
      · rename_i c0 hr
        obtain ⟨hn, hr'⟩ := h.at hr
        split at ht
        · rename_i c1 hg
          split at ht
          · rename_i a b tot hs
            split at ht
            · rename_i hc
              simp only [Option.some.injEq, Prod.mk.injEq] at ht
              obtain ⟨rfl, rfl, rfl⟩ := ht
              exact ⟨_, by simp only [hr', hg, hs, if_pos hc], .upd h hn _⟩
            · cases ht
          · cases ht
        · cases ht
      · cases ht
theorem takes_ext : ∀ {xs : List SV} {rt rt' rt1 : Rts} {l : List (Ow × C)}, Ext D rt rt' → takes rt xs = some (l, rt1) → ∃ rt1', takes rt' xs = some (l, rt1') ∧ ExtTo D rt rt' rt1 rt1'
  | [], rt, rt', rt1, l, h, ht => by simp only [takes, Option.some.injEq, Prod.mk.injEq] at ht; obtain ⟨rfl, rfl⟩ := ht; exact ⟨rt', rfl, .refl h⟩
  | x :: xs, rt, rt', rt1, l, h, ht => by
    simp only [takes] at ht ⊢
    split at ht
    · rename_i o c rta ha
      obtain ⟨ra, h1, h2⟩ := take_ext h ha
      split at ht
      · rename_i l2 rtb hb
        obtain ⟨rb, h3, h4⟩ := takes_ext h2.1 hb
        simp only [Option.some.injEq, Prod.mk.injEq] at ht
        obtain ⟨rfl, rfl⟩ := ht
        exact ⟨rb, by simp only [h1, h3], h2.trans h4⟩
      · cases ht
    · cases ht
theorem takesL_ext : ∀ {xs : List (List SV)} {rt rt' rt1 : Rts} {l : List (List (Ow × C))}, Ext D rt rt' → takesL rt xs = some (l, rt1) → ∃ rt1', takesL rt' xs = some (l, rt1') ∧ ExtTo D rt rt' rt1 rt1'
  | [], rt, rt', rt1, l, h, ht => by simp only [takesL, Option.some.injEq, Prod.mk.injEq] at ht; obtain ⟨rfl, rfl⟩ := ht; exact ⟨rt', rfl, .refl h⟩
  | x :: xs, rt, rt', rt1, l, h, ht => by
    simp only [takesL] at ht ⊢
    split at ht
    · rename_i o rta ha
      obtain ⟨ra, h1, h2⟩ := takes_ext h ha
      split at ht
      · rename_i l2 rtb hb
        obtain ⟨rb, h3, h4⟩ := takesL_ext h2.1 hb
        simp only [Option.some.injEq, Prod.mk.injEq] at ht
        obtain ⟨rfl, rfl⟩ := ht
        exact ⟨rb, by simp only [h1, h3], h2.trans h4⟩
      · cases ht
    · cases ht
theorem newRt_ext (h : Ext D rt rt') {id : Nat} {r : Root} (hid : ¬ D id) (hn : newRt rt id r = some rt1) : ∃ rt1', newRt rt' id r = some rt1' ∧ ExtTo D rt rt' rt1 rt1' := by
  obtain ⟨h1, h2, h3, rfl⟩ := newRt_spec hn
  refine ⟨upd rt' id r, ?_, .upd h hid r⟩
  unfold newRt
  rw [if_pos]
  simp only [Bool.and_eq_true, decide_eq_true_eq, List.all_eq_true]
  exact ⟨⟨by rw [h.2 id hid, h1]; rfl, h2⟩, fun i hi => h.is (h3 i hi)⟩
theorem store_ext (h : Ext D rt rt') {xs : List SV} {p : SV} (hs : store rt xs p = some rt1) : ∃ rt1', store rt' xs p = some rt1' ∧ ExtTo D rt rt' rt1 rt1' := by
  cases p with
  | pb id off =>
    simp only [store] at hs ⊢
    split at hs
    · rename_i ys hr
      obtain ⟨hn, hr'⟩ := h.at hr
      split at hs
      · rename_i zs hz
        split at hs
        · rename_i hc
          injection hs with hs
          subst hs
          refine ⟨_, ?_, .upd h hn _⟩
          simp only [hr', hz]
          rw [if_pos]
          rw [List.all_eq_true] at hc ⊢
          intro x hx
          have := hc x hx
          rw [List.all_eq_true] at this ⊢
          exact fun i hi => h.is (this i hi)
        · cases hs
      · cases hs
    · cases hs
  | pe id p i off =>
    simp only [store] at hs ⊢
    split at hs
    · rename_i l rta ha
      obtain ⟨ra, h1, h2⟩ := takes_ext h ha
      split at hs
      · rename_i d t c hr
        obtain ⟨hn, hr'⟩ := h2.1.at hr
        split at hs
        · rename_i hc
          split at hs
          · rename_i c' hg
            split at hs
            · rename_i c2 hc2
              injection hs with hs
              subst hs
              exact ⟨_, by simp only [h1, hr', if_pos hc, hg, hc2], h2.trans (.upd h2.1 hn _)⟩
            · cases hs
          · cases hs
        · cases hs
      · cases hs
    · cases hs
  | c c => cases hs
  | nil k => cases hs
  | ref id p off len => cases hs
  | pm cs off => cases hs
theorem takeSl_ext (h : Ext D rt rt') {x : SV} {o : Ow} {c : C} (ht : takeSl rt x = some (o, c, rt1)) : ∃ rt1', takeSl rt' x = some (o, c, rt1') ∧ ExtTo D rt rt' rt1 rt1' := by
  obtain ⟨h1, h2⟩ := takeSl_spec ht
  obtain ⟨ra, h3, h4⟩ := take_ext h h1
  refine ⟨ra, ?_, h4⟩
  unfold takeSl
  rw [h3]
  rcases h2 with ⟨sz, es, sp, rfl⟩ | ⟨sz, es, sp, rfl⟩ <;> rfl
theorem source_ext (h : Ext D rt rt') {k : K} {y : SV} {d : Bool} {c : C} (hs : source rt k y = some (d, c, rt1)) : ∃ rt1', source rt' k y = some (d, c, rt1') ∧ ExtTo D rt rt' rt1 rt1' := by
  cases k with
  | fl sz =>
    simp only [source] at hs ⊢
    split at hs
    · rename_i sz' es sp hc
      rw [cont_mono h.sub hc]
      split at hs
      · rename_i e
        simp only [Option.some.injEq, Prod.mk.injEq] at hs
        obtain ⟨rfl, rfl, rfl⟩ := hs
        exact ⟨rt', by simp only [if_pos e], .refl h⟩
      · cases hs
    · cases hs
  | sl sz =>
    simp only [source] at hs ⊢
    split at hs
    · rename_i o sz' es sp rta ht
      obtain ⟨ra, h1, h2⟩ := takeSl_ext h ht
      rw [h1]
      split at hs
      · rename_i e
        simp only [Option.some.injEq, Prod.mk.injEq] at hs
        obtain ⟨rfl, rfl, rfl⟩ := hs
        exact ⟨ra, by simp only [if_pos e], h2⟩
      · cases hs
    · cases hs
theorem append_ext (h : Ext D rt rt') {id : Nat} {k : K} {bytes : Nat} {x y r : SV} (hid : ¬ D id) (ha : append rt id k bytes x y = some (r, rt1)) : ∃ rt1', append rt' id k bytes x y = some (r, rt1') ∧ ExtTo D rt rt' rt1 rt1' := by
  unfold append at ha ⊢
  split at ha
  · rename_i dy cy rta hs
    obtain ⟨ra, h1, h2⟩ := source_ext h hs
    split at ha
    · rename_i ox cx rtb ht
      obtain ⟨rb, h3, h4⟩ := takeSl_ext h2.1 ht
      simp only [h1, h3]
      split at ha
      · split at ha
        · rename_i hc
          rw [Option.map_eq_some_iff] at ha
          obtain ⟨rtc, e1, e2⟩ := ha
          injection e2 with e2 e3
          subst e3
          obtain ⟨rc, h5, h6⟩ := newRt_ext h4.1 hid e1
          exact ⟨rc, by simp only [if_pos hc, h5, Option.map_some, e2], (h2.trans h4).trans h6⟩
        · cases ha
      · split at ha
        · rename_i hc
          rw [Option.map_eq_some_iff] at ha
          obtain ⟨rtc, e1, e2⟩ := ha
          injection e2 with e2 e3
          subst e3
          obtain ⟨rc, h5, h6⟩ := newRt_ext h4.1 hid e1
          exact ⟨rc, by simp only [if_pos hc, h5, Option.map_some, e2], (h2.trans h4).trans h6⟩
        · cases ha
      · cases ha
    · cases ha
  · cases ha
/-! ### Calls -/
theorem mapO_mono {α β : Type} {f g : α → Option β} : ∀ {xs : List α} {ys : List β}, (∀ x ∈ xs, ∀ y, f x = some y → g x = some y) → mapO f xs = some ys → mapO g xs = some ys
  | [], ys, _, h => h
  | x :: xs, ys, hf, h => by
    simp only [mapO] at h ⊢
    split at h
    · rename_i y hy
      rw [hf x (by simp) y hy]
      split at h
      · rename_i zs hz
        rw [mapO_mono (fun x hx => hf x (by simp [hx])) hz]
        exact h
      · cases h
    · cases h
theorem snapC_mono (hs : Sub rt rt') {x : SV} {c : C} (h : snapC rt x = some c) : snapC rt' x = some c := by
  cases x with
  | ref id p off len => simp only [snapC] at h ⊢; exact cont_mono hs h
  | _ => exact h
theorem snap_mono (hs : Sub rt rt') {x y : SV} (h : snap rt x = some y) : snap rt' x = some y := by
  cases x with
  | c c => exact h
  | nil k => exact h
  | pm cs off => exact h
  | ref id p off len =>
    simp only [snap, Option.map_eq_some_iff] at h ⊢
    obtain ⟨c, h1, h2⟩ := h
    exact ⟨c, cont_mono hs h1, h2⟩
  | pb id off =>
    simp only [snap] at h ⊢
    split at h
    · rename_i xs hr
      rw [hs id _ hr]
      simp only [Option.map_eq_some_iff] at h ⊢
      obtain ⟨cs, h1, h2⟩ := h
      exact ⟨cs, mapO_mono (fun x _ y hy => snapC_mono hs hy) h1, h2⟩
    · cases h
  | pe id p i off =>
    simp only [snap] at h ⊢
    split at h
    · rename_i d c hr
      rw [rowAt_mono hs hr]
      exact h
    · cases h
theorem snap1_mono (hs : Sub rt rt') {x y : A1} (h : snap1 rt x = some y) : snap1 rt' x = some y := by
  cases x with
  | s x =>
    simp only [snap1, Option.map_eq_some_iff] at h ⊢
    obtain ⟨c, h1, h2⟩ := h
    exact ⟨c, snap_mono hs h1, h2⟩
  | agg xs =>
    simp only [snap1, Option.map_eq_some_iff] at h ⊢
    obtain ⟨c, h1, h2⟩ := h
    exact ⟨c, mapO_mono (fun x _ y hy => snap_mono hs hy) h1, h2⟩
  | fn f xs =>
    simp only [snap1, Option.map_eq_some_iff] at h ⊢
    obtain ⟨c, h1, h2⟩ := h
    exact ⟨c, mapO_mono (fun x _ y hy => snap_mono hs hy) h1, h2⟩
theorem argOf_mono (hs : Sub rt rt') {q : Bool × Opd} {r : Arg × Loc} (h : argOf ev rt q = some r) : argOf ev rt' q = some r := by
  unfold argOf at h ⊢
  split at h
  · rename_i a ha
    split at h
    · rename_i hq
      simp only [if_pos hq]
      split at h
      · split at h
        · rename_i hr
          simp only [rowAt_mono hs hr]
          exact h
        · cases h
      · split at h
        · rename_i hr
          simp only [hs _ _ hr]
          exact h
        · cases h
      · cases h
    · rename_i hq
      simp only [if_neg hq]
      rw [Option.map_eq_some_iff] at h ⊢
      obtain ⟨a', h1, h2⟩ := h
      exact ⟨a', snap1_mono hs h1, h2⟩
  · cases h
theorem rowAt_is {id : Nat} {p : Path} {x : Bool × C} (h : rowAt rt id p = some x) : (rt id).isSome = true := by
  unfold rowAt at h
  split at h
  · rename_i hr; rw [hr]; rfl
  · cases h
theorem snap_is {x y : SV} (h : snap rt x = some y) : ∀ i ∈ x.ids, (rt i).isSome = true := by
  cases x with
  | c c => intro i hi; cases hi
  | nil k => intro i hi; cases hi
  | pm cs off => intro i hi; cases hi
  | ref id p off len =>
    simp only [snap, Option.map_eq_some_iff, cont] at h
    obtain ⟨c, h1, _⟩ := h
    intro i hi
    simp only [SV.ids, List.mem_singleton] at hi
    subst hi
    split at h1
    · rename_i hr; exact rowAt_is hr
    · cases h1
  | pb id off =>
    simp only [snap] at h
    intro i hi
    simp only [SV.ids, List.mem_singleton] at hi
    subst hi
    split at h
    · rename_i hr; rw [hr]; rfl
    · cases h
  | pe id p j off =>
    simp only [snap] at h
    intro i hi
    simp only [SV.ids, List.mem_singleton] at hi
    subst hi
    split at h
    · rename_i hr; exact rowAt_is hr
    · cases h
theorem mapO_is {xs ys : List SV} (h : mapO (snap rt) xs = some ys) : ∀ i ∈ xs.flatMap (·.ids), (rt i).isSome = true := by
  obtain ⟨h1, h2⟩ := mapO_spec h
  intro i hi
  obtain ⟨x, hx, hi⟩ := List.mem_flatMap.1 hi
  obtain ⟨j, hj⟩ := List.getElem?_of_mem hx
  have hlt : j < ys.length := by rw [← h1]; exact (List.getElem?_eq_some_iff.1 hj).1
  exact snap_is (h2 j x _ hj (List.getElem?_eq_getElem hlt)) i hi
theorem argOf_is {q : Bool × Opd} {r : Arg × Loc} (h : argOf ev rt q = some r) {a : A1} (ha : ev q.2 = some a) : ∀ i ∈ a.ids, (rt i).isSome = true := by
  obtain ⟨a', e, hcase⟩ := argOf_spec h
  rw [ha] at e
  injection e with e
  subst e
  rcases hcase with ⟨_, b, hb, _⟩ | ⟨_, id, p, len, d, c', sz, n, tot, rfl, hr, _⟩ | ⟨_, id, xs, rfl, hr, _⟩
  · cases a with
    | s x =>
      simp only [snap1, Option.map_eq_some_iff] at hb
      obtain ⟨y, h1, _⟩ := hb
      exact snap_is h1
    | agg xs =>
      simp only [snap1, Option.map_eq_some_iff] at hb
      obtain ⟨y, h1, _⟩ := hb
      exact mapO_is h1
    | fn f xs =>
      simp only [snap1, Option.map_eq_some_iff] at hb
      obtain ⟨y, h1, _⟩ := hb
      exact mapO_is h1
  · intro i hi
    simp only [A1.ids, SV.ids, List.mem_singleton] at hi
    subst hi
    exact rowAt_is hr
  · intro i hi
    simp only [A1.ids, SV.ids, List.mem_singleton] at hi
    subst hi
    rw [hr]; rfl
theorem argHas_ext (h : Ext D rt rt') {q : Bool × Opd} (hp : ∀ a, ev q.2 = some a → ∀ i ∈ a.ids, (rt i).isSome = true) (id : Nat) : argHas ev rt' id q = argHas ev rt id q := by
  unfold argHas
  cases ha : ev q.2 with
  | none => rfl
  | some a =>
    simp only []
    have : ∀ i ∈ a.ids, rt' i = rt i := fun i hi => by
      obtain ⟨r, hr⟩ := Option.isSome_iff_exists.1 (hp a ha i hi)
      rw [hr]; exact (h.at hr).2
    rw [Bool.eq_iff_iff, List.any_eq_true, List.any_eq_true]
    constructor
    · rintro ⟨i, hi, hx⟩; exact ⟨i, hi, by rw [this i hi] at hx; exact hx⟩
    · rintro ⟨i, hi, hx⟩; exact ⟨i, hi, by rw [this i hi]; exact hx⟩
theorem apartB_ext (h : Ext D rt rt') : ∀ {qs : List (Bool × Opd)} {ls : List (Option (Nat × Path))}, (∀ q ∈ qs, ∀ a, ev q.2 = some a → ∀ i ∈ a.ids, (rt i).isSome = true) → apartB ev rt' qs ls = apartB ev rt qs ls
  | [], ls, _ => by cases ls <;> rfl
  | q :: qs, [], _ => rfl
  | q :: qs, some (id, p) :: ls, hp => by
    have ih := apartB_ext h (qs := qs) (ls := ls) (fun q' hq => hp q' (List.mem_cons_of_mem _ hq))
    have h0 := fun id => argHas_ext h (hp q (by simp)) id
    have e1 : qs.all (fun q => !argHas ev rt' id q) = qs.all (fun q => !argHas ev rt id q) := by
      rw [Bool.eq_iff_iff, List.all_eq_true, List.all_eq_true]
      constructor
      · intro hx q' hq'; rw [← argHas_ext h (hp q' (by simp [hq'])) id]; exact hx q' hq'
      · intro hx q' hq'; rw [argHas_ext h (hp q' (by simp [hq'])) id]; exact hx q' hq'
    simp only [apartB, ih, e1, h0]
  | q :: qs, none :: ls, hp => by
    have ih := apartB_ext h (qs := qs) (ls := ls) (fun q' hq => hp q' (List.mem_cons_of_mem _ hq))
    have h0 := fun id => argHas_ext h (hp q (by simp)) id
    simp only [apartB, ih, h0]
theorem back_ext : ∀ {ls : List (Option (Nat × Path))} {ms : List (Option Root)} {rt rt' rt1 : Rts}, Ext D rt rt' → back rt ls ms = some rt1 → ∃ rt1', back rt' ls ms = some rt1' ∧ ExtTo D rt rt' rt1 rt1'
  | [], ms, rt, rt', rt1, h, hb => by
    cases ms with
    | nil => simp only [back, Option.some.injEq] at hb; subst hb; exact ⟨rt', rfl, .refl h⟩
    | cons m ms => cases hb
  | none :: ls, ms, rt, rt', rt1, h, hb => by
    have hb' : back rt ls ms = some rt1 := by cases ms <;> simpa only [back] using hb
    obtain ⟨r1, h1, h2⟩ := back_ext h hb'
    exact ⟨r1, by cases ms <;> simpa only [back] using h1, h2⟩
  | some (id, p) :: ls, [], rt, rt', rt1, h, hb => by simp only [back] at hb; cases hb
  | some (id, p) :: ls, m :: ms, rt, rt', rt1, h, hb => by
    have fin : ∀ {X : Root}, ¬ D id → back (upd rt id X) ls ms = some rt1 → ∃ rt1', back (upd rt' id X) ls ms = some rt1' ∧ ExtTo D rt rt' rt1 rt1' := by
      intro X hn hb
      have h0 := ExtTo.upd h hn X
      obtain ⟨r1, h1, h2⟩ := back_ext h0.1 hb
      exact ⟨r1, h1, h0.trans h2⟩
    simp only [back] at hb ⊢
    split at hb
    · rename_i hr
      obtain ⟨hn, hr'⟩ := h.at hr
      simp only [hr']
      split at hb
      · rename_i hc
        simp only [hc.1, hc.2, and_self, if_true]
        split at hb
        · rename_i c' hg
          split at hb
          · rename_i sz n t1 sz2 n2 tot2 hs1 hs2
            split at hb
            · rename_i he
              simp only [if_pos he]
              exact fin hn hb
            · cases hb
          · cases hb
        · cases hb
      · cases hb
    · rename_i hr
      obtain ⟨hn, hr'⟩ := h.at hr
      simp only [hr']
      split at hb
      · exact fin hn hb
      · split at hb
        · rename_i he
          simp only [if_pos he]
          exact fin hn hb
        · cases hb
    · rename_i hr
      obtain ⟨hn, hr'⟩ := h.at hr
      simp only [hr']
      split at hb
      · rename_i he
        simp only [if_pos he]
        exact fin hn hb
      · cases hb
    · cases hb
theorem cellRes_ext (h : Ext D rt rt') {id : Nat} {x : RC} {y : SV} (hid : ¬ D id) (hc : cellRes rt id x = some (y, rt1)) : ∃ rt1', cellRes rt' id x = some (y, rt1') ∧ ExtTo D rt rt' rt1 rt1' := by
  unfold cellRes at hc ⊢
  split at hc
  · simp only [Option.some.injEq, Prod.mk.injEq] at hc; obtain ⟨rfl, rfl⟩ := hc; exact ⟨rt', rfl, .refl h⟩
  · simp only [Option.some.injEq, Prod.mk.injEq] at hc; obtain ⟨rfl, rfl⟩ := hc; exact ⟨rt', rfl, .refl h⟩
  · split at hc
    · rename_i hs
      rw [Option.map_eq_some_iff] at hc
      obtain ⟨rtc, e1, e2⟩ := hc
      injection e2 with e2 e3
      subst e3
      obtain ⟨rc, h5, h6⟩ := newRt_ext h hid e1
      exact ⟨rc, by simp only [hs, h5, Option.map_some, e2], h6⟩
    · cases hc
theorem cellsRes_ext : ∀ {xs : List RC} {rt rt' rt1 : Rts} {id : Nat} {ys : List SV}, Ext D rt rt' → (∀ j, j < xs.length → ¬ D (id + j)) → cellsRes rt id xs = some (ys, rt1) → ∃ rt1', cellsRes rt' id xs = some (ys, rt1') ∧ ExtTo D rt rt' rt1 rt1'
  | [], rt, rt', rt1, id, ys, h, _, hc => by simp only [cellsRes, Option.some.injEq, Prod.mk.injEq] at hc; obtain ⟨rfl, rfl⟩ := hc; exact ⟨rt', rfl, .refl h⟩
  | x :: xs, rt, rt', rt1, id, ys, h, hid, hc => by
    simp only [cellsRes] at hc ⊢
    split at hc
    · rename_i x1 rta ha
      obtain ⟨ra, h1, h2⟩ := cellRes_ext h (by simpa using hid 0 (by simp)) ha
      split at hc
      · rename_i xs1 rtb hb
        obtain ⟨rb, h3, h4⟩ := cellsRes_ext h2.1 (fun j hj => by rw [show id + 1 + j = id + (j + 1) by omega]; exact hid (j + 1) (by simpa using hj)) hb
        simp only [Option.some.injEq, Prod.mk.injEq] at hc
        obtain ⟨rfl, rfl⟩ := hc
        exact ⟨rb, by simp only [h1, h3], h2.trans h4⟩
      · cases hc
    · cases hc
theorem valRes_ext (h : Ext D rt rt') {id : Nat} {x : RV} {y : A1} (hid : ∀ j, j < x.n → ¬ D (id + j)) (hc : valRes rt id x = some (y, rt1)) : ∃ rt1', valRes rt' id x = some (y, rt1') ∧ ExtTo D rt rt' rt1 rt1' := by
  cases x with
  | s x =>
    simp only [valRes, Option.map_eq_some_iff] at hc
    obtain ⟨⟨z, rtc⟩, e1, e2⟩ := hc
    simp only [Prod.mk.injEq] at e2
    obtain ⟨rfl, rfl⟩ := e2
    obtain ⟨rc, h5, h6⟩ := cellRes_ext h (by simpa using hid 0 (by simp [RV.n])) e1
    exact ⟨rc, by simp only [valRes, h5, Option.map_some], h6⟩
  | agg xs =>
    simp only [valRes, Option.map_eq_some_iff] at hc
    obtain ⟨⟨z, rtc⟩, e1, e2⟩ := hc
    simp only [Prod.mk.injEq] at e2
    obtain ⟨rfl, rfl⟩ := e2
    obtain ⟨rc, h5, h6⟩ := cellsRes_ext h hid e1
    exact ⟨rc, by simp only [valRes, h5, Option.map_some], h6⟩
theorem valsRes_ext : ∀ {rs : List RV} {rt rt' rt1 : Rts} {id : Nat} {as : List A1}, Ext D rt rt' → (∀ j, j < (rs.map (·.n)).sum → ¬ D (id + j)) → valsRes rt id rs = some (as, rt1) → ∃ rt1', valsRes rt' id rs = some (as, rt1') ∧ ExtTo D rt rt' rt1 rt1'
  | [], rt, rt', rt1, id, as, h, _, hc => by simp only [valsRes, Option.some.injEq, Prod.mk.injEq] at hc; obtain ⟨rfl, rfl⟩ := hc; exact ⟨rt', rfl, .refl h⟩
  | r :: rs, rt, rt', rt1, id, as, h, hid, hc => by
    simp only [List.map_cons, List.sum_cons] at hid
    simp only [valsRes] at hc ⊢
    split at hc
    · rename_i x1 rta ha
      obtain ⟨ra, h1, h2⟩ := valRes_ext h (fun j hj => hid j (by omega)) ha
      split at hc
      · rename_i xs1 rtb hb
        obtain ⟨rb, h3, h4⟩ := valsRes_ext h2.1 (fun j hj => by rw [Nat.add_assoc]; exact hid _ (by omega)) hb
        simp only [Option.some.injEq, Prod.mk.injEq] at hc
        obtain ⟨rfl, rfl⟩ := hc
        exact ⟨rb, by simp only [h1, h3], h2.trans h4⟩
      · cases hc
    · cases hc
theorem callR_ext (h : Ext D rt rt') {f : Nat} {qs : List (Bool × Opd)} (hid : ∀ j, j < 64 → ¬ D (nid dst + j)) (hc : callR call ev rt dst f qs = some (av, rt1)) : ∃ rt1', callR call ev rt' dst f qs = some (av, rt1') ∧ ExtTo D rt rt' rt1 rt1' := by
  unfold callR at hc ⊢
  split at hc
  · rename_i l hl
    have hl' := mapO_mono (g := argOf ev rt') (fun q _ r hr => argOf_mono h.sub hr) hl
    simp only [hl']
    split at hc
    · rename_i r hr
      split at hc
      · rename_i hcond
        simp only [Bool.and_eq_true, decide_eq_true_eq] at hcond
        have hpres : ∀ q ∈ qs, ∀ a, ev q.2 = some a → ∀ i ∈ a.ids, (rt i).isSome = true := by
          intro q hq a ha
          obtain ⟨m1, m2⟩ := mapO_spec hl
          obtain ⟨j, hj⟩ := List.getElem?_of_mem hq
          have hlt : j < l.length := by rw [← m1]; exact (List.getElem?_eq_some_iff.1 hj).1
          exact argOf_is (m2 j q _ hj (List.getElem?_eq_getElem hlt)) ha
        have hap : apartB ev rt' qs (l.map (·.2)) = apartB ev rt qs (l.map (·.2)) := apartB_ext h hpres
        rw [if_pos (by simp only [Bool.and_eq_true, decide_eq_true_eq, hap]; exact hcond)]
        split at hc
        · rename_i rta ha
          obtain ⟨ra, h1, h2⟩ := back_ext h ha
          simp only [h1]
          rw [Option.map_eq_some_iff] at hc
          obtain ⟨⟨as, rtb⟩, e1, e2⟩ := hc
          injection e2 with e2 e3
          simp only at e2 e3
          subst e3
          obtain ⟨rb, h3, h4⟩ := valsRes_ext h2.1 (fun j hj => hid j (by omega)) e1
          exact ⟨rb, by simp only [h3, Option.map_some, e2], h2.trans h4⟩
        · cases hc
      · cases hc
    · cases hc
  · cases hc
theorem map_newRt_ext (h : Ext D rt rt') {id : Nat} {r : Root} {a : AV} (hid : ¬ D id) (hm : (newRt rt id r).map (fun x => (a, x)) = some (av, rt1)) : ∃ rt1', (newRt rt' id r).map (fun x => (a, x)) = some (av, rt1') ∧ ExtTo D rt rt' rt1 rt1' := by
  rw [Option.map_eq_some_iff] at hm
  obtain ⟨rtc, e1, e2⟩ := hm
  injection e2 with e2 e3
  subst e3
  obtain ⟨rc, h5, h6⟩ := newRt_ext h hid e1
  exact ⟨rc, by rw [h5, Option.map_some, e2], h6⟩
/-- Roots that are not met make no difference. -/
theorem act_ext {p : PO} (h : Ext D rt rt') (hid : ∀ j, j < 64 → ¬ D (nid dst + j)) (hv : ∀ f qs, p ≠ .callv f qs) (ha : act call ev tp rt dst p = some (av, rt1)) : ∃ rt1', act call ev tp rt' dst p = some (av, rt1') ∧ ExtTo D rt rt' rt1 rt1' := by
  have hid0 : ¬ D (nid dst) := by simpa using hid 0 (by decide)
  by_cases hq : p.quiet = true
  · obtain ⟨rfl, h2⟩ := act_mono hq h.sub ha
    exact ⟨rt', h2, .refl h⟩
  · cases p with
    | mkn k => simp only [act] at ha ⊢; exact map_newRt_ext h hid0 ha
    | box x =>
      simp only [act] at ha ⊢
      split at ha
      · exact map_newRt_ext h hid0 ha
      · cases ha
    | alloc z => simp only [act] at ha ⊢; exact map_newRt_ext h hid0 ha
    | bs k parts =>
      simp only [act] at ha ⊢
      split at ha
      · rename_i l hl
        split at ha
        · rename_i es rta ht
          obtain ⟨ra, h1, h2⟩ := takesL_ext h ht
          simp only [h1]
          split at ha
          · obtain ⟨rc, h3, h4⟩ := map_newRt_ext h2.1 hid0 ha
            exact ⟨rc, h3, h2.trans h4⟩
          · cases ha
        · cases ha
      · cases ha
    | st n x y =>
      simp only [act] at ha ⊢
      split at ha
      · split at ha
        · rename_i hn
          rw [Option.map_eq_some_iff] at ha
          obtain ⟨rtc, e1, e2⟩ := ha
          injection e2 with e2 e3
          subst e2 e3
          obtain ⟨rc, h5, h6⟩ := store_ext h e1
          exact ⟨rc, by rw [if_pos hn, h5, Option.map_some], h6⟩
        · cases ha
      · cases ha
    | app k bytes x y =>
      simp only [act] at ha ⊢
      split at ha
      · rw [Option.map_eq_some_iff] at ha
        obtain ⟨⟨z, rtc⟩, e1, e2⟩ := ha
        injection e2 with e2 e3
        simp only at e2 e3
        subst e2 e3
        obtain ⟨rc, h5, h6⟩ := append_ext h hid0 e1
        exact ⟨rc, by rw [h5, Option.map_some], h6⟩
      · cases ha
    | call f qs => exact callR_ext h hid ha
    | callv f qs => exact absurd rfl (hv f qs)
    | mks k bytes zero len cap =>
      simp only [act] at ha ⊢
      split at ha
      · split at ha
        · rename_i hc
          simp only [if_pos hc]
          split at ha
          · split at ha
            · split at ha
              · rename_i hz
                simp only [if_pos hz]
                exact map_newRt_ext h hid0 ha
              · cases ha
            · cases ha
          · split at ha
            · rename_i hz
              simp only [if_pos hz]
              exact map_newRt_ext h hid0 ha
            · cases ha
        · cases ha
      · cases ha
    | _ => exact absurd rfl hq
/-! ### What only adds a root -/
def POp.born (o : POp) : Bool :=
  o.g.isNone && o.dst.isSome && (match o.may with | .no => true | _ => false) && (match o.op with | .alloc z => z.all (fun x => x.ids.isEmpty) | .mkn _ => true | .mks _ _ _ _ _ => true | .bs _ _ => true | _ => false)
theorem take_free {x : SV} {o : Ow} {c : C} (h : take rt x = some (o, c, rt1)) (hx : x.ids = []) : rt1 = rt ∧ ∀ rt', take rt' x = some (o, c, rt') := by
  cases x with
  | c c => simp only [take, Option.some.injEq, Prod.mk.injEq] at h; obtain ⟨rfl, rfl, rfl⟩ := h; exact ⟨rfl, fun _ => rfl⟩
  | nil k => simp only [take, Option.some.injEq, Prod.mk.injEq] at h; obtain ⟨rfl, rfl, rfl⟩ := h; exact ⟨rfl, fun _ => rfl⟩
  | ref id p off len => cases hx
  | pb id off => cases hx
  | pe id p i off => cases hx
  | pm cs off => cases h
theorem takes_free : ∀ {xs : List SV} {rt rt1 : Rts} {l : List (Ow × C)}, takes rt xs = some (l, rt1) → xs.flatMap (·.ids) = [] → rt1 = rt ∧ ∀ rt', takes rt' xs = some (l, rt')
  | [], rt, rt1, l, h, _ => by simp only [takes, Option.some.injEq, Prod.mk.injEq] at h; obtain ⟨rfl, rfl⟩ := h; exact ⟨rfl, fun _ => rfl⟩
  | x :: xs, rt, rt1, l, h, hx => by
    simp only [List.flatMap_cons, List.append_eq_nil_iff] at hx
    simp only [takes] at h ⊢
    split at h
    · rename_i o c rta ha
      obtain ⟨rfl, h1⟩ := take_free ha hx.1
      split at h
      · rename_i l2 rtb hb
        obtain ⟨rfl, h2⟩ := takes_free hb hx.2
        simp only [Option.some.injEq, Prod.mk.injEq] at h
        obtain ⟨rfl, rfl⟩ := h
        exact ⟨rfl, fun rt' => by simp only [h1, h2]⟩
      · cases h
    · cases h
theorem takesL_free : ∀ {xs : List (List SV)} {rt rt1 : Rts} {l : List (List (Ow × C))}, takesL rt xs = some (l, rt1) → xs.flatten.flatMap (·.ids) = [] → rt1 = rt ∧ ∀ rt', takesL rt' xs = some (l, rt')
  | [], rt, rt1, l, h, _ => by simp only [takesL, Option.some.injEq, Prod.mk.injEq] at h; obtain ⟨rfl, rfl⟩ := h; exact ⟨rfl, fun _ => rfl⟩
  | x :: xs, rt, rt1, l, h, hx => by
    simp only [List.flatten_cons, List.flatMap_append, List.append_eq_nil_iff] at hx
    simp only [takesL] at h ⊢
    split at h
    · rename_i o rta ha
      obtain ⟨rfl, h1⟩ := takes_free ha hx.1
      split at h
      · rename_i l2 rtb hb
        obtain ⟨rfl, h2⟩ := takesL_free hb hx.2
        simp only [Option.some.injEq, Prod.mk.injEq] at h
        obtain ⟨rfl, rfl⟩ := h
        exact ⟨rfl, fun rt' => by simp only [h1, h2]⟩
      · cases h
    · cases h
theorem map_newRt_born {id : Nat} {r : Root} {a : AV} (hr : r.ids = []) (hi : ∀ i ∈ a.ids, i = id) (hm : (newRt rt id r).map (fun x => (a, x)) = some (av, rt1)) : rt id = none ∧ rt1 = upd rt id r ∧ (∀ i ∈ av.ids, i = id) ∧ ∀ rt', rt' id = none → (newRt rt' id r).map (fun x => (a, x)) = some (av, upd rt' id r) := by
  rw [Option.map_eq_some_iff] at hm
  obtain ⟨rtc, e1, e2⟩ := hm
  injection e2 with e2 e3
  subst e3
  obtain ⟨h1, h2, _, rfl⟩ := newRt_spec e1
  refine ⟨h1, rfl, by rw [← e2]; exact hi, fun rt' h' => ?_⟩
  have : newRt rt' id r = some (upd rt' id r) := by
    unfold newRt
    rw [if_pos]
    simp only [Bool.and_eq_true, decide_eq_true_eq, List.all_eq_true, hr, h', Option.isNone_none]
    exact ⟨⟨trivial, h2⟩, fun i hi => by cases hi⟩
  rw [this, Option.map_some, e2]
theorem act_born {o : POp} (hb : o.born = true) (ht : touch ev o.op = []) (ha : act call ev tp rt dst o.op = some (av, rt1)) : ∃ r, rt (nid dst) = none ∧ rt1 = upd rt (nid dst) r ∧ (∀ i ∈ av.ids, i = nid dst) ∧ ∀ rt', rt' (nid dst) = none → act call ev tp rt' dst o.op = some (av, upd rt' (nid dst) r) := by
  have hid1 : ∀ n, ∀ i ∈ (AV.sv (.ref (nid dst) [] 0 n)).ids, i = nid dst := fun n i hi => by simpa [AV.ids, A1.ids, SV.ids] using hi
  have hid2 : ∀ i ∈ (AV.sv (.pb (nid dst) 0)).ids, i = nid dst := fun i hi => by simpa [AV.ids, A1.ids, SV.ids] using hi
  simp only [POp.born, Bool.and_eq_true] at hb
  obtain ⟨_, hb⟩ := hb
  cases hp : o.op with
  | mkn k => rw [hp] at ha; simp only [act] at ha ⊢; exact ⟨_, map_newRt_born rfl (hid1 _) ha⟩
  | alloc z =>
    rw [hp] at ha hb
    simp only [act] at ha ⊢
    refine ⟨_, map_newRt_born ?_ hid2 ha⟩
    simp only [List.all_eq_true, List.isEmpty_iff] at hb
    simp only [Root.ids, List.flatMap_eq_nil_iff]
    exact hb
  | mks k bytes zero len cap =>
    rw [hp] at ha
    simp only [act] at ha ⊢
    split at ha
    · split at ha
      · rename_i hc
        simp only [if_pos hc]
        split at ha
        · split at ha
          · split at ha
            · rename_i hz
              simp only [if_pos hz]
              exact ⟨_, map_newRt_born rfl (hid1 _) ha⟩
            · cases ha
          · cases ha
        · split at ha
          · rename_i hz
            simp only [if_pos hz]
            exact ⟨_, map_newRt_born rfl (hid1 _) ha⟩
          · cases ha
      · cases ha
    · cases ha
  | bs k parts =>
    rw [hp] at ha ht
    simp only [act] at ha ⊢
    split at ha
    · rename_i l hl
      split at ha
      · rename_i es rta htk
        have hnil : l.flatten.flatMap (·.ids) = [] := by
          rw [List.flatMap_eq_nil_iff]
          intro x hx
          obtain ⟨y, hy, hxy⟩ := List.mem_flatten.1 hx
          obtain ⟨m1, m2⟩ := mapO_spec hl
          obtain ⟨j, hj⟩ := List.getElem?_of_mem hy
          have hlt : j < parts.length := by rw [m1]; exact (List.getElem?_eq_some_iff.1 hj).1
          simp only [touch, List.flatMap_eq_nil_iff] at ht
          have := ht parts[j] (List.getElem_mem hlt)
          rw [idsC_eq (m2 j _ y (List.getElem?_eq_getElem hlt) hj), List.flatMap_eq_nil_iff] at this
          exact this x hxy
        obtain ⟨rfl, hfree⟩ := takesL_free htk hnil
        split at ha
        · rename_i d c hbs
          obtain ⟨h1, h2, h0, h3⟩ := map_newRt_born rfl (hid1 _) ha
          exact ⟨_, h1, h2, h0, fun rt' h' => by simp only [hfree, hbs]; exact h3 rt' h'⟩
        · cases ha
      · cases ha
    · cases ha
  | _ => rw [hp] at hb; cases hb
end
end Go.Proofs.YtecmolmlojehgaaGreat.T
namespace Go.Proofs.YtecmolmlojehgaaGreat.T
open Go
variable (ids : Nat → FuncId)

/-! ### A drawn number is no part of memory -/
section
variable {ids} {w : World} {home : Home} {hd : Lb → Value} {rt : Rts} {d : Nat}
theorem hdAt_drew : ∀ (p : Path) (c : C) (u : Value), hdAt { w with drawn := d } c u p = hdAt w c u p
  | [], c, u => by cases c <;> rfl
  | (i, j) :: p, c, u => by
    cases c <;> simp only [hdAt, hdAt_drew p] <;> rfl
theorem CR.drew {t : Tg} {c : C} {u : Value} (h : CR w home t c u) : CR { w with drawn := d } home t c u := h.move (fun _ _ _ hl => ⟨rfl, hl⟩) (Ok.refl _)
theorem SVR.drew {x : SV} {v : Value} (h : SVR w home hd rt x v) : SVR { w with drawn := d } home hd rt x v := by
  cases x with
  | c c => exact CR.drew h
  | nil k => exact h
  | ref id p off n => exact ⟨h.1, fun d t c h1 h2 c' u h3 h4 => h.2 d t c h1 h2 c' u h3 (by rw [hdAt_drew] at h4; exact h4)⟩
  | pb id off => exact h
  | pe id p i off => exact ⟨h.1, fun d t c h1 h2 c' u h3 h4 => h.2 d t c h1 h2 c' u h3 (by rw [hdAt_drew] at h4; exact h4)⟩
  | pm cs off =>
    obtain ⟨b, o, e, h⟩ := h
    refine ⟨b, o, e, fun j c hc => ?_⟩
    obtain ⟨h1, u, h2, h3⟩ := h j c hc
    exact ⟨h1, u, h2, h3.drew⟩
theorem RtR.drew {F : Nat → Option Root} (h : RtR w home hd rt F) : RtR { w with drawn := d } home hd rt F := by
  refine ⟨fun l r hr => ?_, h.lab, h.wf⟩
  have := h.root l r hr
  cases r with
  | arr d t c => exact CR.drew this
  | gone => trivial
  | box xs =>
    rcases this with h1 | ⟨b, cur, e, k1, k2, k3, k4⟩
    · exact Or.inl h1
    · exact Or.inr ⟨b, cur, e, k1, k2, k3, k4.1, fun i x y hx hy => (k4.2 i x y hx hy).drew⟩
theorem Step.drew {F : Nat → Option Root} (h : RtR w home hd rt F) : Step w home hd rt F { w with drawn := d } home hd rt F :=
  ⟨h.drew, fun _ _ _ h => h.drew, fun _ h => h, rfl, rfl, rfl, Nat.le_refl _, fun _ _ h => ⟨rfl, h⟩, fun _ _ _ h => ⟨rfl, h⟩, fun _ _ r hr hne => ⟨rfl, r, hr, hne⟩⟩
theorem FrR.drew {N : Nat} {fr : Fr} {a : Act} (h : FrR ids w home hd N fr a) : FrR ids { w with drawn := d } home hd N fr a :=
  ⟨h.rel.drew, fun t av ht => by
    obtain ⟨v, h1, h2, h3⟩ := h.sl t av ht
    exact ⟨v, h1, AVR.step (Step.drew h.rel) h2 h3, h3⟩, h.sz, h.nd⟩
theorem FrR.see {N : Nat} {fr : Fr} {a : Act} (h : FrR ids w home hd N fr a) (b : List Nat) : FrR ids w home hd N (fr.see b) a :=
  ⟨h.rel, fun t av ht => by
    simp only [Fr.see] at ht
    split at ht
    · cases ht
    · exact h.sl t av ht, h.sz, h.nd⟩
end

/-! ### One operation, wherever it comes up -/
def Fr.execE (call : Nat → List Arg → Option Res) (fr : Fr) (o : POp) : Option Fr :=
  match act call (fr.see o.blind).ev (fr.see o.blind).tup fr.rt (o.dst.getD 0) o.op with
  | some (a, rt) => if a.ids.all (fun i => (rt i).isSome) then some ({ fr with rt }.out o.dst a) else none
  | none => none
def Fr.stepE (call : Nat → List Arg → Option Res) (fr : Fr) (o : POp) : Option Fr :=
  match o.g with
  | none => fr.execE call o
  | some (s, want) =>
    match (fr.see o.blind).sl s with
    | some (.v (.s (.c (.val (.bool b))))) => if b = want then fr.execE call o else some (fr.out o.dst .undef)
    | some .undef => some (fr.out o.dst .undef)
    | _ => none
def mOpD (P : Program) (N : Nat) (ops : Array Oper) (o : Oper) (p : POp) : Bool := mDst N o.dst p.dst && mG ops o.guard p.g && mAny ids P o.op p.op
section
variable {ids} {P : Program} {w : World} {home : Home} {hd : Lb → Value} {N : Nat} {fr fr' : Fr} {a : Act} {call : Nat → List Arg → Option Res} {ops : Array Oper}
theorem execE_ok (hcall : ∀ f args r, call f args = some r → SatG ids P (ids f) (shapeOf f) args r) (h : FrR ids w home hd N fr a) {o : Oper} {p : POp} (hd0 : mDst N o.dst p.dst = true) (hm : mAny ids P o.op p.op = true) (he : fr.execE call p = some fr') {next : Act → World → Prop} {Q : Exit → Act → World → Prop}
    (hn : ∀ a' w' home' hd', Grow w home hd fr.rt w' home' hd' fr'.rt → FrR ids w' home' hd' N fr' a' → (∀ i, (fr.rt i).isSome = true → (fr'.rt i).isSome = true) → next a' w') : o.wp P a w next Q := by
  obtain ⟨hdst, hlt⟩ := mDst_spec hd0
  unfold Fr.execE at he
  split at he
  · rename_i av rt' hact
    split at he
    · rename_i hids
      injection he with he
      subst he
      have hp : ∀ i ∈ av.ids, (rt' i).isSome = true := fun i hi => List.all_eq_true.1 hids i hi
      have hs := h.see p.blind
      have hok : OpOk ids P o a w home hd fr.rt av rt' := by
        have hev := hs.ev
        cases hpo : p.op with
        | call f qs =>
          rw [hpo] at hm hact
          exact ok_call h.rel hev hcall hm hact
        | callv f qs =>
          rw [hpo] at hm hact
          simp only [act] at hact
          split at hact
          · rename_i g caps hf
            exact ok_callv h.rel hev hcall hm hf hact
          · cases hact
        | _ =>
          rw [hpo] at hm hact
          refine act_ok h.rel hev hs.tp ?_ hact
          exact hm
      refine hok next Q (fun v w' home' hd' s hv => hn _ w' home' hd' ?_ ?_ ?_)
      · cases p.dst <;> exact s.grow
      · rw [← hdst]
        exact h.put s (fun t ht => hlt t ht) hv hp
      · intro i hi; cases p.dst <;> exact s.pres i hi
    · cases he
  · cases he
theorem stepE_ok (hcall : ∀ f args r, call f args = some r → SatG ids P (ids f) (shapeOf f) args r) (h : FrR ids w home hd N fr a) {o : Oper} {p : POp} (hm : mOpD ids P N ops o p = true) (he : fr.stepE call p = some fr') {next : Act → World → Prop} {Q : Exit → Act → World → Prop}
    (hn : ∀ a' w' home' hd', Grow w home hd fr.rt w' home' hd' fr'.rt → FrR ids w' home' hd' N fr' a' → (∀ i, (fr.rt i).isSome = true → (fr'.rt i).isSome = true) → next a' w') :
    if Region.wanted o (yielded ops a.tmps) then o.wp P a w next Q ∨ (o.asks P a w ∧ LetsOut Q) else next (a.put o.dst undef) w := by
  simp only [mOpD, Bool.and_eq_true] at hm
  obtain ⟨⟨h1, h2⟩, h3⟩ := hm
  have hput : fr' = fr.out p.dst .undef → next (a.put o.dst undef) w := by
    intro e
    obtain ⟨hdst, hlt⟩ := mDst_spec h1
    refine hn _ w home hd ?_ ?_ ?_
    · rw [e]; cases p.dst <;> exact Grow.refl
    · rw [e, hdst]
      have := h.put (Step.refl h.rel) (d := p.dst) (fun t ht => hlt t (by rw [hdst]; exact ht)) (av := .undef) (v := undef) rfl (fun i hi => by cases hi)
      exact this
    · intro i hi; rw [e]; cases p.dst <;> exact hi
  unfold Fr.stepE at he
  cases hg : o.guard with
  | none =>
    rw [hg] at h2
    cases hpg : p.g with
    | some x => rw [hpg] at h2; obtain ⟨j, b⟩ := x; cases h2
    | none =>
      rw [hpg] at he
      have hw : Region.wanted o (yielded ops a.tmps) = true := by unfold Region.wanted; rw [hg]
      rw [hw, if_pos rfl]
      exact Or.inl (execE_ok hcall h h1 h3 he hn)
  | some x =>
    obtain ⟨j, want⟩ := x
    rw [hg] at h2
    cases hpg : p.g with
    | none => rw [hpg] at h2; cases h2
    | some y =>
      obtain ⟨s, want'⟩ := y
      rw [hpg] at h2 he
      simp only [mG, Bool.and_eq_true, beq_iff_eq] at h2
      obtain ⟨rfl, hj⟩ := h2
      simp only at he
      split at he
      · rename_i b hs
        obtain ⟨v, e1, e2, _⟩ := (h.see p.blind).sl s _ hs
        have hv : v = .bool b := svR_val (hd := hd) (rt := fr.rt) e2
        have hy : yielded ops a.tmps j = some b := by
          unfold yielded
          rw [hj, Option.bind_some, e1, hv]
        have hw : Region.wanted o (yielded ops a.tmps) = (b == want) := by
          unfold Region.wanted
          rw [hg]
          simp only [hy]
          cases b <;> cases want <;> rfl
        rw [hw]
        split at he
        · rename_i hb
          subst hb
          rw [if_pos (by simp)]
          exact Or.inl (execE_ok hcall h h1 h3 he hn)
        · rename_i hb
          rw [if_neg (by simpa using hb)]
          injection he with he
          exact hput he.symm
      · rename_i hs
        obtain ⟨v, e1, e2, _⟩ := (h.see p.blind).sl s _ hs
        have hv : v = undef := e2
        have hy : yielded ops a.tmps j = none := by
          unfold yielded
          rw [hj, Option.bind_some, e1, hv]
          rfl
        have hw : Region.wanted o (yielded ops a.tmps) = false := by
          unfold Region.wanted
          rw [hg]
          simp only [hy]
          rfl
        rw [hw, if_neg (by simp)]
        injection he with he
        exact hput he.symm
      · cases he
end

/-! ### The order that is written, and any other -/
section
variable {call : Nat → List Arg → Option Res} {fr fr' F : Fr} {o : POp}
theorem out_sl (fr : Fr) (d : Option Nat) (av : AV) (t : Nat) : (fr.out d av).sl t = if d = some t then some av else fr.sl t := by
  cases d with
  | none => simp [Fr.out]
  | some s =>
    simp only [Fr.out, Fr.set, upd, Option.some.injEq]
    by_cases h : t = s
    · subst h; simp
    · rw [if_neg h, if_neg (fun e => h e.symm)]
theorem out_rt (fr : Fr) (d : Option Nat) (av : AV) : (fr.out d av).rt = fr.rt := by cases d <;> rfl
theorem out_ps (fr : Fr) (d : Option Nat) (av : AV) : (fr.out d av).ps = fr.ps := by cases d <;> rfl
theorem ev_eq {F fr : Fr} (h : F.sl = fr.sl) : F.ev = fr.ev := by funext x; cases x <;> simp only [Fr.ev, h]
theorem tup_eq {F fr : Fr} (h : F.sl = fr.sl) : F.tup = fr.tup := by funext x; simp only [Fr.tup, h]
theorem born_loud {o : POp} (h : o.born = true) : o.op.quiet = false := by
  simp only [POp.born, Bool.and_eq_true] at h
  obtain ⟨_, h⟩ := h
  cases ho : o.op <;> rw [ho] at h <;> first | rfl | cases h
theorem born_may {o : POp} (h : o.born = true) : o.g = none ∧ (∃ d, o.dst = some d) ∧ o.may = .no := by
  simp only [POp.born, Bool.and_eq_true] at h
  obtain ⟨⟨⟨h1, h2⟩, h3⟩, _⟩ := h
  refine ⟨by simpa using h1, Option.isSome_iff_exists.1 h2, ?_⟩
  cases hm : o.may <;> rw [hm] at h3 <;> first | rfl | cases h3
/-- What a step is like, in whatever frame it comes up. -/
def Like (D : Nat → Prop) (fr fr' F F' : Fr) (o : POp) : Prop := F'.ps = F.ps ∧ (o.op.quiet = true → F'.rt = F.rt) ∧
  (o.born = true → ∃ r, fr.rt (nid (o.dst.getD 0)) = none ∧ fr'.rt = upd fr.rt (nid (o.dst.getD 0)) r ∧ F'.rt = upd F.rt (nid (o.dst.getD 0)) r) ∧
  (o.op.quiet = false → o.born = false → ExtTo D fr.rt F.rt fr'.rt F'.rt) ∧ ∀ t, F'.sl t = if o.dst = some t then fr'.sl t else F.sl t
theorem execD_E {D : Nat → Prop} (hv : ∀ f qs, o.op ≠ .callv f qs) (h : fr.execD call o = some fr') (hsl : (F.see o.blind).sl = (fr.see o.blind).sl) (hq : o.op.quiet = true → Sub (mask o.hide fr.rt) F.rt ∧ ∀ i, (fr.rt i).isSome = true → (F.rt i).isSome = true)
    (hb : o.born = true → F.rt (nid (o.dst.getD 0)) = none) (hl : o.op.quiet = false → o.born = false → Ext D fr.rt F.rt ∧ ∀ j, j < 64 → ¬ D (nid (o.dst.getD 0) + j)) : ∃ F', F.execE call o = some F' ∧ Like D fr fr' F F' o := by
  have slots : ∀ {av : AV} {rt rt' : Rts} (t : Nat), (({ F with rt := rt' } : Fr).out o.dst av).sl t = if o.dst = some t then (({ fr with rt := rt } : Fr).out o.dst av).sl t else F.sl t := by
    intro av rt rt' t
    rw [out_sl, out_sl]
    by_cases hdt : o.dst = some t
    · simp [hdt]
    · simp [hdt]
  unfold Fr.execD at h
  unfold Fr.execE
  rw [ev_eq hsl, tup_eq hsl]
  split at h
  · rename_i hqq
    split at h
    · rename_i av rt' hact
      obtain ⟨e1, e2⟩ := act_mono hqq (hq hqq).1 hact
      split at h
      · rename_i hids
        injection h with h
        subst h
        rw [e2]
        subst e1
        have : av.ids.all (fun i => (F.rt i).isSome) = true := by
          rw [List.all_eq_true] at hids ⊢
          intro i hi
          exact (hq hqq).2 i (hids i hi)
        simp only [this, if_true]
        refine ⟨_, rfl, out_ps _ _ _, fun _ => out_rt _ _ _, fun hbb => ?_, fun hqf => ?_, fun t => slots t⟩
        · rw [born_loud hbb] at hqq; cases hqq
        · rw [hqf] at hqq; cases hqq
      · cases h
    · cases h
  · rename_i hqq
    have hqf : o.op.quiet = false := by simpa using hqq
    split at h
    · rename_i hmay
      split at h
      · rename_i av rt1 hact
        split at h
        · rename_i hids
          injection h with h
          subst h
          cases hbb : o.born with
          | true =>
            obtain ⟨_, _, hno⟩ := born_may hbb
            have ht : touch (fr.see o.blind).ev o.op = [] := by
              rw [hno] at hmay
              rw [List.eq_nil_iff_forall_not_mem]
              intro i hi
              have := List.all_eq_true.1 hmay i hi
              cases this
            obtain ⟨r, b1, b2, b3, b4⟩ := act_born hbb ht hact
            subst b2
            have e2 := b4 F.rt (hb hbb)
            rw [e2]
            have : av.ids.all (fun i => (upd F.rt (nid (o.dst.getD 0)) r i).isSome) = true := by
              rw [List.all_eq_true]
              intro i hi
              rw [b3 i hi, updF_same]; rfl
            simp only [this, if_true]
            exact ⟨_, rfl, out_ps _ _ _, fun h => (by rw [hqf] at h; cases h), fun _ => ⟨r, b1, by rw [out_rt], by rw [out_rt]⟩, fun _ h => (by cases hbb.symm.trans h), fun t => slots t⟩
          | false =>
            obtain ⟨hx, hd⟩ := hl hqf hbb
            obtain ⟨rt1', e2, e3⟩ := act_ext hx hd hv hact
            rw [e2]
            have : av.ids.all (fun i => (rt1' i).isSome) = true := by
              rw [List.all_eq_true] at hids ⊢
              intro i hi
              exact e3.1.is (hids i hi)
            simp only [this, if_true]
            exact ⟨_, rfl, out_ps _ _ _, fun h => (by rw [hqf] at h; cases h), fun h => (by cases hbb.symm.trans h), fun _ _ => by rw [out_rt, out_rt]; exact e3, fun t => slots t⟩
        · cases h
      · cases h
    · cases h
theorem stepD_E {D : Nat → Prop} (hv : ∀ f qs, o.op ≠ .callv f qs) (h : fr.stepD call o = some fr') (hsl : (F.see o.blind).sl = (fr.see o.blind).sl) (hq : o.op.quiet = true → Sub (mask o.hide fr.rt) F.rt ∧ ∀ i, (fr.rt i).isSome = true → (F.rt i).isSome = true)
    (hb : o.born = true → F.rt (nid (o.dst.getD 0)) = none) (hl : o.op.quiet = false → o.born = false → Ext D fr.rt F.rt ∧ ∀ j, j < 64 → ¬ D (nid (o.dst.getD 0) + j)) : ∃ F', F.stepE call o = some F' ∧ Like D fr fr' F F' o := by
  unfold Fr.stepD at h
  unfold Fr.stepE
  have hskip : ∀ x, o.g = some x → fr' = fr.out o.dst .undef → Like D fr fr' F (F.out o.dst .undef) o := by
    intro x hg e
    subst e
    refine ⟨out_ps _ _ _, fun _ => out_rt _ _ _, fun hbb => ?_, fun hqf hbf => ?_, fun t => ?_⟩
    · have := (born_may hbb).1
      rw [hg] at this; cases this
    · rw [out_rt, out_rt]
      exact ExtTo.refl (hl hqf hbf).1
    · rw [out_sl, out_sl]
      by_cases hdt : o.dst = some t
      · simp [hdt]
      · simp [hdt]
  rw [hsl]
  split at h
  · rename_i hg
    simp only [hg]
    exact execD_E hv h hsl hq hb hl
  · rename_i s want hg
    simp only [hg]
    split at h
    · rename_i b hb'
      simp only [hb']
      split at h
      · rename_i hbw
        rw [if_pos hbw]
        exact execD_E hv h hsl hq hb hl
      · rename_i hbw
        rw [if_neg hbw]
        injection h with h
        exact ⟨_, rfl, hskip _ hg h.symm⟩
    · rename_i hb'
      simp only [hb']
      injection h with h
      exact ⟨_, rfl, hskip _ hg h.symm⟩
    · cases h
/-- What is present stays present. -/
theorem stepD_pres (hv : ∀ f qs, o.op ≠ .callv f qs) (h : fr.stepD call o = some fr') {i : Nat} (hi : (fr.rt i).isSome = true) : (fr'.rt i).isSome = true := by
  have hE : Ext (fun _ => False) fr.rt fr.rt := ⟨fun _ h => h.elim, fun _ _ => rfl⟩
  have hex : ∀ {fr'}, fr.execD call o = some fr' → (fr'.rt i).isSome = true := by
    intro fr' h
    unfold Fr.execD at h
    split at h
    · split at h
      · split at h
        · injection h with h; subst h; rw [out_rt]; exact hi
        · cases h
      · cases h
    · split at h
      · split at h
        · rename_i hact
          split at h
          · injection h with h; subst h; rw [out_rt]
            obtain ⟨_, _, e⟩ := act_ext hE (fun _ _ h => h) hv hact
            exact e.2.2 i hi
          · cases h
        · cases h
      · cases h
  unfold Fr.stepD at h
  split at h
  · exact hex h
  · split at h
    · split at h
      · exact hex h
      · injection h with h; subst h; rw [out_rt]; exact hi
    · injection h with h; subst h; rw [out_rt]; exact hi
    · cases h
theorem stepD_born (h : fr.stepD call o = some fr') (hb : o.born = true) : ∃ r, fr.rt (nid (o.dst.getD 0)) = none ∧ fr'.rt = upd fr.rt (nid (o.dst.getD 0)) r := by
  obtain ⟨hg, _, hno⟩ := born_may hb
  have hqf := born_loud hb
  unfold Fr.stepD at h
  rw [hg] at h
  simp only [Fr.execD, hqf, Bool.false_eq_true, if_false] at h
  split at h
  · rename_i hmay
    split at h
    · rename_i av rt1 hact
      split at h
      · injection h with h
        subst h
        have ht : touch (fr.see o.blind).ev o.op = [] := by
          rw [hno] at hmay
          rw [List.eq_nil_iff_forall_not_mem]
          intro i hi
          have := List.all_eq_true.1 hmay i hi
          cases this
        obtain ⟨r, b1, b2, _⟩ := act_born hb ht hact
        exact ⟨r, b1, by rw [out_rt]; exact b2⟩
      · cases h
    · cases h
  · cases h
theorem stepD_sl (h : fr.stepD call o = some fr') {t : Nat} (ht : o.dst ≠ some t) : fr'.sl t = fr.sl t := by
  have hout : ∀ (fr : Fr) av, (fr.out o.dst av).sl t = fr.sl t := fun fr av => by rw [out_sl, if_neg ht]
  have hex : ∀ {fr'}, fr.execD call o = some fr' → fr'.sl t = fr.sl t := by
    intro fr' h
    unfold Fr.execD at h
    split at h
    · split at h
      · split at h
        · injection h with h; subst h; exact hout _ _
        · cases h
      · cases h
    · split at h
      · split at h
        · split at h
          · injection h with h; subst h; rw [hout]
          · cases h
        · cases h
      · cases h
  unfold Fr.stepD at h
  split at h
  · exact hex h
  · split at h
    · split at h
      · exact hex h
      · injection h with h; subst h; exact hout _ _
    · injection h with h; subst h; exact hout _ _
    · cases h
theorem stepD_rt (h : fr.stepD call o = some fr') (hq : o.op.quiet = true) : fr'.rt = fr.rt := by
  have hex : ∀ {fr'}, fr.execD call o = some fr' → fr'.rt = fr.rt := by
    intro fr' h
    unfold Fr.execD at h
    rw [if_pos hq] at h
    split at h
    · split at h
      · injection h with h; subst h; exact out_rt _ _ _
      · cases h
    · cases h
  unfold Fr.stepD at h
  split at h
  · exact hex h
  · split at h
    · split at h
      · exact hex h
      · injection h with h; subst h; exact out_rt _ _ _
    · injection h with h; subst h; exact out_rt _ _ _
    · cases h
theorem stepD_keeps (hv : ∀ f qs, o.op ≠ .callv f qs) (h : fr.stepD call o = some fr') : ∀ i r, fr.rt i = some r → o.may.hid i = false → fr'.rt i = some r := by
  cases hq : o.op.quiet with
  | true => rw [stepD_rt h hq]; exact fun _ _ h _ => h
  | false =>
    have hex : ∀ {fr'}, fr.execD call o = some fr' → ∀ i r, fr.rt i = some r → o.may.hid i = false → fr'.rt i = some r := by
      intro fr' h
      unfold Fr.execD at h
      rw [hq, if_neg (by simp)] at h
      split at h
      · rename_i hmay
        split at h
        · rename_i av rt' hact
          split at h
          · injection h with h; subst h
            intro i r hr hn
            rw [out_rt]
            refine act_local hv hact i r hr (fun hi => ?_)
            have := List.all_eq_true.1 hmay i hi
            rw [hn] at this
            cases this
          · cases h
        · cases h
      · cases h
    have hskip : ∀ av, ∀ i r, fr.rt i = some r → o.may.hid i = false → (fr.out o.dst av).rt i = some r := fun av i r hr _ => by rw [out_rt]; exact hr
    unfold Fr.stepD at h
    split at h
    · exact hex h
    · split at h
      · split at h
        · exact hex h
        · injection h with h; subst h; exact hskip _
      · injection h with h; subst h; exact hskip _
      · cases h
theorem stepD_ps (h : fr.stepD call o = some fr') : fr'.ps = fr.ps := by
  have hout : ∀ (fr : Fr) d av, (fr.out d av).ps = fr.ps := fun fr d av => by cases d <;> rfl
  have hex : ∀ {fr'}, fr.execD call o = some fr' → fr'.ps = fr.ps := by
    intro fr' h
    unfold Fr.execD at h
    split at h
    · split at h
      · split at h
        · injection h with h; subst h; exact hout _ _ _
        · cases h
      · cases h
    · split at h
      · split at h
        · split at h
          · injection h with h; subst h; rw [hout]
          · cases h
        · cases h
      · cases h
  unfold Fr.stepD at h
  split at h
  · exact hex h
  · split at h
    · split at h
      · exact hex h
      · injection h with h; subst h; exact hout _ _ _
    · injection h with h; subst h; exact hout _ _ _
    · cases h
/-- The frames on the way. -/
theorem stepsD_trace : ∀ {l : List (Nat × POp)} {fr fr' : Fr}, fr.stepsD call l = some fr' → ∃ C : Nat → Fr, C 0 = fr ∧ C l.length = fr' ∧ ∀ (k : Nat) q, l[k]? = some q → (C k).stepD call q.2 = some (C (k + 1))
  | [], fr, fr', h => by
    simp only [Fr.stepsD, Option.some.injEq] at h
    exact ⟨fun _ => fr, rfl, h, fun k q hk => by simp at hk⟩
  | o :: l, fr, fr', h => by
    simp only [Fr.stepsD] at h
    split at h
    · rename_i fr1 h1
      obtain ⟨C, c0, c1, c2⟩ := stepsD_trace h
      refine ⟨fun n => match n with | 0 => fr | n + 1 => C n, rfl, c1, fun k q hk => ?_⟩
      cases k with
      | zero =>
        simp only [List.getElem?_cons_zero, Option.some.injEq] at hk
        subst hk
        show fr.stepD call o.2 = some (C 0)
        rw [c0]; exact h1
      | succ k =>
        simp only [List.getElem?_cons_succ] at hk
        exact c2 k q hk
    · cases h
theorem stepsD_ps : ∀ {l : List (Nat × POp)} {fr fr' : Fr}, fr.stepsD call l = some fr' → fr'.ps = fr.ps
  | [], fr, fr', h => by simp only [Fr.stepsD, Option.some.injEq] at h; subst h; rfl
  | o :: l, fr, fr', h => by
    simp only [Fr.stepsD] at h
    split at h
    · rename_i fr1 h1
      exact (stepsD_ps h).trans (stepD_ps h1)
    · cases h
end
end Go.Proofs.YtecmolmlojehgaaGreat.T
namespace Go.Proofs.YtecmolmlojehgaaGreat.T
open Go
variable (ids : Nat → FuncId)

def inB : Option Nat → List Nat → Bool
  | some t, l => l.contains t
  | none, _ => true
def hideLe : Hide → Hide → Bool
  | .no, _ => true
  | _, .all => true
  | .ids sl l, .ids sl' l' => sl.all (fun s => sl'.contains s) && l.all (fun i => (Hide.ids sl' l').hid i)
  | _, _ => false
theorem hideLe_spec {m h : Hide} (hl : hideLe m h = true) {i : Nat} (hi : m.hid i = true) : h.hid i = true := by
  unfold hideLe at hl
  split at hl
  · cases hi
  · rfl
  · rename_i sl l sl' l'
    simp only [Bool.and_eq_true, List.all_eq_true] at hl
    obtain ⟨h1, h2⟩ := hl
    simp only [Hide.hid, Bool.or_eq_true] at hi
    rcases hi with hi | hi
    · exact h2 i (by simpa using hi)
    · obtain ⟨s, hs, hi⟩ := List.any_eq_true.1 hi
      simp only [Hide.hid, Bool.or_eq_true]
      refine Or.inr (List.any_eq_true.2 ⟨s, by simpa using h1 s hs, hi⟩)
  · cases hl
def ordB (i : Nat) (a b : Nat × POp) : Bool :=
  a.1 != b.1 && (a.2.dst.isNone || a.2.dst != b.2.dst) &&
    (!b.2.born || b.2.dst != some (a.2.dst.getD 0)) && (b.2.anc.contains i || (inB a.2.dst b.2.blind && inB b.2.dst a.2.blind && ((a.2.op.quiet && (b.2.op.quiet || hideLe b.2.may a.2.hide)) || b.2.born)))
def PO.isV : PO → Bool
  | .callv _ _ => true
  | _ => false
def edgeB (l : List (Nat × POp)) (k : Nat) (e : Edge) : Bool := !Region.binds .any e || (l.take k).any (fun q => q.1 == e.on)
def ancB (l : List (Nat × POp)) (k : Nat) (o : Oper) (p : Nat) : Bool :=
  decide (p < k) && o.after.toList.any (fun e => Region.binds .any e && (((l[p]?).map (·.1) == some e.on) || l.any (fun q => q.1 == e.on && q.2.anc.contains p)))
def oneB (P : Program) (N : Nat) (ops : Array Oper) (l : List (Nat × POp)) (k : Nat) (q : Nat × POp) : Bool :=
  match ops[q.1]? with
  | some o => mOpD ids P N ops o q.2 && !q.2.op.isV && o.after.toList.all (edgeB l k) && q.2.anc.all (ancB l k o)
  | none => false
def pairsB : Nat → List (Nat × POp) → List (Nat × POp) → Bool
  | _, _, [] => true
  | k, pre, b :: l => (pre.zipIdx.all (fun a => ordB a.2 a.1 b)) && pairsB (k + 1) (pre ++ [b]) l
def mD (P : Program) (N : Nat) (ops : Array Oper) (l : List (Nat × POp)) : Bool :=
  P.follows .mixedOrders && l.length == ops.size && (List.range ops.size).all (fun i => l.any (fun q => q.1 == i)) && l.zipIdx.all (fun q => oneB ids P N ops l q.2 q.1) && pairsB 0 [] l

structure Fits (P : Program) (N : Nat) (ops : Array Oper) (l : List (Nat × POp)) : Prop where
  mixed : P.follows .mixedOrders = true
  len : l.length = ops.size
  sur : ∀ i, i < ops.size → ∃ (k : Nat) (q : Nat × POp), l[k]? = some q ∧ q.1 = i
  op : ∀ (k : Nat) (q : Nat × POp), l[k]? = some q → ∃ o, ops[q.1]? = some o ∧ mOpD ids P N ops o q.2 = true ∧ (∀ f qs, q.2.op ≠ .callv f qs) ∧
    (∀ e ∈ o.after.toList, Region.binds .any e = true → ∃ (j : Nat) (q' : Nat × POp), j < k ∧ l[j]? = some q' ∧ q'.1 = e.on) ∧
    (∀ p ∈ q.2.anc, p < k ∧ ∃ e ∈ o.after.toList, Region.binds .any e = true ∧ ∃ (j : Nat) (q' : Nat × POp), l[j]? = some q' ∧ q'.1 = e.on ∧ (p = j ∨ p ∈ q'.2.anc))
  pair : ∀ (i j : Nat) (a b : Nat × POp), i < j → l[i]? = some a → l[j]? = some b → a.1 ≠ b.1 ∧ (∀ t, a.2.dst = some t → b.2.dst ≠ some t) ∧ (b.2.born = true → b.2.dst ≠ some (a.2.dst.getD 0)) ∧
    (i ∈ b.2.anc ∨ ((∀ t, a.2.dst = some t → t ∈ b.2.blind) ∧ (∀ t, b.2.dst = some t → t ∈ a.2.blind) ∧ ((a.2.op.quiet = true ∧ (b.2.op.quiet = true ∨ ∀ i, b.2.may.hid i = true → a.2.hide.hid i = true)) ∨ b.2.born = true)))
section
variable {ids} {P : Program} {N : Nat} {ops : Array Oper} {l : List (Nat × POp)} {call : Nat → List Arg → Option Res}
theorem inB_spec {d : Option Nat} {b : List Nat} (h : inB d b = true) : ∀ t, d = some t → t ∈ b := by
  intro t e; subst e; simpa [inB] using h
theorem ordB_spec {i : Nat} {a b : Nat × POp} (h : ordB i a b = true) : a.1 ≠ b.1 ∧ (∀ t, a.2.dst = some t → b.2.dst ≠ some t) ∧ (b.2.born = true → b.2.dst ≠ some (a.2.dst.getD 0)) ∧
    (i ∈ b.2.anc ∨ ((∀ t, a.2.dst = some t → t ∈ b.2.blind) ∧ (∀ t, b.2.dst = some t → t ∈ a.2.blind) ∧ ((a.2.op.quiet = true ∧ (b.2.op.quiet = true ∨ ∀ i, b.2.may.hid i = true → a.2.hide.hid i = true)) ∨ b.2.born = true))) := by
  simp only [ordB, Bool.and_eq_true, Bool.or_eq_true, bne_iff_ne, ne_eq, List.contains_eq_mem, decide_eq_true_eq, Bool.not_eq_true'] at h
  obtain ⟨⟨⟨h1, h2⟩, hn⟩, h3⟩ := h
  refine ⟨h1, fun t e e' => ?_, fun hb e => ?_, ?_⟩
  · rcases h2 with h2 | h2
    · rw [e] at h2; cases h2
    · exact h2 (e.trans e'.symm)
  · rcases hn with hn | hn
    · rw [hb] at hn; cases hn
    · exact hn e
  · rcases h3 with h3 | ⟨⟨h4, h5⟩, h6⟩
    · exact Or.inl h3
    · refine Or.inr ⟨inB_spec h4, inB_spec h5, ?_⟩
      rcases h6 with ⟨h3, h6⟩ | h6
      · refine Or.inl ⟨h3, ?_⟩
        rcases h6 with h6 | h6
        · exact Or.inl h6
        · exact Or.inr (fun i hi => hideLe_spec h6 hi)
      · exact Or.inr h6
theorem pairsB_spec : ∀ {rest pre : List (Nat × POp)} {k : Nat}, pairsB k pre rest = true → ∀ (i j : Nat) (a b : Nat × POp), i < pre.length + j → (pre ++ rest)[i]? = some a → rest[j]? = some b → ordB i a b = true
  | [], pre, k, _, i, j, a, b, _, _, hb => by simp at hb
  | c :: rest, pre, k, h, i, j, a, b, hij, ha, hb => by
    simp only [pairsB, Bool.and_eq_true] at h
    obtain ⟨h1, h2⟩ := h
    cases j with
    | zero =>
      simp only [List.getElem?_cons_zero, Option.some.injEq] at hb
      subst hb
      have hlt : i < pre.length := by omega
      rw [List.getElem?_append_left hlt] at ha
      have := List.all_eq_true.1 h1 (a, i) (by
        rw [List.mem_zipIdx_iff_getElem?]
        exact ha)
      exact this
    | succ j =>
      refine pairsB_spec h2 i j a b (by simp; omega) ?_ (by simpa using hb)
      simpa using ha
theorem mD_fits (h : mD ids P N ops l = true) : Fits ids P N ops l := by
  simp only [mD, Bool.and_eq_true, beq_iff_eq] at h
  obtain ⟨⟨⟨⟨h0, h1⟩, h2⟩, h3⟩, h4⟩ := h
  refine ⟨h0, h1, fun i hi => ?_, fun k q hk => ?_, fun i j a b hij ha hb => ?_⟩
  · have := List.all_eq_true.1 h2 i (List.mem_range.2 hi)
    obtain ⟨q, hq, e⟩ := List.any_eq_true.1 this
    obtain ⟨k, hk⟩ := List.mem_iff_getElem?.1 hq
    exact ⟨k, q, hk, by simpa using e⟩
  · have := List.all_eq_true.1 h3 (q, k) (by rw [List.mem_zipIdx_iff_getElem?]; exact hk)
    simp only [oneB] at this
    split at this
    · rename_i o ho
      simp only [Bool.and_eq_true, Bool.not_eq_true'] at this
      obtain ⟨⟨⟨k1, k2⟩, k3⟩, k4⟩ := this
      refine ⟨o, ho, k1, fun f qs e => ?_, fun e he hb => ?_, fun p hp => ?_⟩
      · rw [e] at k2; cases k2
      · have := List.all_eq_true.1 k3 e he
        simp only [edgeB, hb, Bool.not_true, Bool.false_or] at this
        obtain ⟨q', hq', e'⟩ := List.any_eq_true.1 this
        obtain ⟨j, hj⟩ := List.mem_iff_getElem?.1 hq'
        rw [List.getElem?_take] at hj
        split at hj
        · rename_i hjk
          exact ⟨j, q', hjk, hj, by simpa using e'⟩
        · cases hj
      · have := List.all_eq_true.1 k4 p hp
        simp only [ancB, Bool.and_eq_true, decide_eq_true_eq] at this
        obtain ⟨hpk, hany⟩ := this
        obtain ⟨e, he, hx⟩ := List.any_eq_true.1 hany
        simp only [Bool.and_eq_true, Bool.or_eq_true, beq_iff_eq] at hx
        obtain ⟨hb, hx⟩ := hx
        refine ⟨hpk, e, he, hb, ?_⟩
        rcases hx with hx | hx
        · rw [Option.map_eq_some_iff] at hx
          obtain ⟨q', hq', e'⟩ := hx
          exact ⟨p, q', hq', e', Or.inl rfl⟩
        · obtain ⟨q', hq', e'⟩ := List.any_eq_true.1 hx
          obtain ⟨j, hj⟩ := List.mem_iff_getElem?.1 hq'
          simp only [Bool.and_eq_true, beq_iff_eq, List.contains_eq_mem, decide_eq_true_eq] at e'
          exact ⟨j, q', hj, e'.1, Or.inr e'.2⟩
    · cases this
  · exact ordB_spec (pairsB_spec h4 i j a b (by simpa using hij) (by simpa using ha) hb)

/-! ### The way that is written -/
section
variable {C : Nat → Fr} (hF : Fits ids P N ops l) (hC : ∀ (k : Nat) q, l[k]? = some q → (C k).stepD call q.2 = some (C (k + 1)))
include hC in
theorem way_sl {t i : Nat} : ∀ j, i ≤ j → j ≤ l.length → (∀ (k : Nat) q, i ≤ k → k < j → l[k]? = some q → q.2.dst ≠ some t) → (C j).sl t = (C i).sl t := by
  intro j
  induction j with
  | zero => intro h _ _; have : i = 0 := by omega
            subst this; rfl
  | succ j ih =>
    intro h hj hn
    by_cases e : i = j + 1
    · subst e; rfl
    · have hlt : j < l.length := hj
      have hq := List.getElem?_eq_getElem hlt
      rw [stepD_sl (hC j _ hq) (hn j _ (by omega) (by omega) hq)]
      exact ih (by omega) (by omega) (fun k q h1 h2 => hn k q h1 (by omega))
include hC in
theorem way_rt {i : Nat} : ∀ j, i ≤ j → j ≤ l.length → (∀ (k : Nat) q, i ≤ k → k < j → l[k]? = some q → q.2.op.quiet = true) → (C j).rt = (C i).rt := by
  intro j
  induction j with
  | zero => intro h _ _; have : i = 0 := by omega
            subst this; rfl
  | succ j ih =>
    intro h hj hn
    by_cases e : i = j + 1
    · subst e; rfl
    · have hlt : j < l.length := hj
      have hq := List.getElem?_eq_getElem hlt
      rw [stepD_rt (hC j _ hq) (hn j _ (by omega) (by omega) hq)]
      exact ih (by omega) (by omega) (fun k q h1 h2 => hn k q h1 (by omega))
theorem mask_some {h : Hide} {rt : Rts} {i : Nat} {r : Root} (hm : mask h rt i = some r) : rt i = some r ∧ h.hid i = false := by
  cases h with
  | no => exact ⟨hm, rfl⟩
  | all => cases hm
  | ids a b =>
    simp only [mask] at hm
    split at hm
    · cases hm
    · rename_i hh
      exact ⟨hm, by simpa using hh⟩
include hF hC in
theorem way_keeps {h : Hide} {i : Nat} : ∀ j, i ≤ j → j ≤ l.length → (∀ (k : Nat) q, i ≤ k → k < j → l[k]? = some q → q.2.op.quiet = true ∨ ∀ x, q.2.may.hid x = true → h.hid x = true) → Sub (mask h (C i).rt) (C j).rt := by
  intro j
  induction j with
  | zero => intro hi _ _; have : i = 0 := by omega
            subst this; exact fun x r hx => (mask_some hx).1
  | succ j ih =>
    intro hi hj hn
    by_cases e : i = j + 1
    · subst e; exact fun x r hx => (mask_some hx).1
    · have hlt : j < l.length := hj
      have hq := List.getElem?_eq_getElem hlt
      have h1 := ih (by omega) (by omega) (fun k q h1 h2 => hn k q h1 (by omega))
      intro x r hx
      have hxr := h1 x r hx
      rcases hn j _ (by omega) (by omega) hq with h2 | h2
      · rw [stepD_rt (hC j _ hq) h2]; exact hxr
      · obtain ⟨_, _, _, hv, _⟩ := hF.op j _ hq
        refine stepD_keeps hv (hC j _ hq) x r hxr ?_
        cases hm : (l[j]'hlt).2.may.hid x with
        | false => rfl
        | true =>
          have := h2 x hm
          rw [(mask_some hx).2] at this
          cases this
include hF hC in
theorem way_wrote {t k j : Nat} {q : Nat × POp} (hk : l[k]? = some q) (hd : q.2.dst = some t) (hkj : k < j) (hj : j ≤ l.length) : (C j).sl t = (C l.length).sl t := by
  have hno : ∀ (k' : Nat) q', k + 1 ≤ k' → l[k']? = some q' → q'.2.dst ≠ some t := fun k' q' h1 h2 => (hF.pair k k' q q' (by omega) hk h2).2.1 t hd
  rw [way_sl hC j (i := k + 1) (by omega) hj (fun k' q' h1 _ h3 => hno k' q' h1 h3), way_sl hC l.length (i := k + 1) (by omega) (Nat.le_refl _) (fun k' q' h1 _ h3 => hno k' q' h1 h3)]
include hF in
theorem way_uniq {t i j : Nat} {a b : Nat × POp} (ha : l[i]? = some a) (hb : l[j]? = some b) (h1 : a.2.dst = some t) (h2 : b.2.dst = some t) : i = j := by
  rcases Nat.lt_trichotomy i j with h | h | h
  · exact absurd h2 ((hF.pair i j a b h ha hb).2.1 t h1)
  · exact h
  · exact absurd h1 ((hF.pair j i b a h hb ha).2.1 t h2)
include hF in
theorem way_inj {i j : Nat} {a b : Nat × POp} (ha : l[i]? = some a) (hb : l[j]? = some b) (h : a.1 = b.1) : i = j := by
  rcases Nat.lt_trichotomy i j with h' | h' | h'
  · exact absurd h ((hF.pair i j a b h' ha hb).1)
  · exact h'
  · exact absurd h.symm ((hF.pair j i b a h' hb ha).1)

/-! ### Stages -/
def Lst (listed : Array Bool) (i : Nat) : Prop := listed[i]? = some true
open Classical in
noncomputable def stSl (l : List (Nat × POp)) (C : Nat → Fr) (listed : Array Bool) (t : Nat) : Option AV :=
  if ∃ (k : Nat) (q : Nat × POp), l[k]? = some q ∧ Lst listed q.1 ∧ q.2.dst = some t then (C l.length).sl t else (C 0).sl t
noncomputable def stF (l : List (Nat × POp)) (C : Nat → Fr) (listed : Array Bool) (R : Rts) : Fr := { sl := stSl l C listed, rt := R, ps := (C 0).ps }
theorem stSl_in {listed : Array Bool} {k t : Nat} {q : Nat × POp} (h1 : l[k]? = some q) (h2 : Lst listed q.1) (h3 : q.2.dst = some t) : stSl l C listed t = (C l.length).sl t := by
  unfold stSl; rw [if_pos ⟨k, q, h1, h2, h3⟩]
theorem stSl_out {listed : Array Bool} {t : Nat} (h : ∀ (k : Nat) (q : Nat × POp), l[k]? = some q → Lst listed q.1 → q.2.dst ≠ some t) : stSl l C listed t = (C 0).sl t := by
  unfold stSl; rw [if_neg (fun ⟨k, q, h1, h2, h3⟩ => h k q h1 h2 h3)]
include hF hC in
theorem st_see {listed : Array Bool} {k : Nat} {R : Rts} {q : Nat × POp} (hk : l[k]? = some q) (hnl : ¬ Lst listed q.1) (hanc : ∀ p ∈ q.2.anc, ∀ q', l[p]? = some q' → Lst listed q'.1)
    (hdown : ∀ (j : Nat) q', l[j]? = some q' → Lst listed q'.1 → ∀ p ∈ q'.2.anc, ∀ q2, l[p]? = some q2 → Lst listed q2.1) : ((stF l C listed R).see q.2.blind).sl = ((C k).see q.2.blind).sl := by
  have hklt : k < l.length := (List.getElem?_eq_some_iff.1 hk).1
  funext t
  simp only [Fr.see, stF]
  split
  · rfl
  · rename_i hb
    have hb : t ∉ q.2.blind := by simpa using hb
    by_cases hw : ∃ (j : Nat) (q' : Nat × POp), l[j]? = some q' ∧ q'.2.dst = some t
    · obtain ⟨j, q', hj, hd⟩ := hw
      have huq : ∀ (i : Nat) (a : Nat × POp), l[i]? = some a → a.2.dst = some t → i = j := fun i a ha hd' => way_uniq hF ha hj hd' hd
      rcases Nat.lt_trichotomy j k with h | h | h
      · rcases (hF.pair j k q' q h hj hk).2.2.2 with hp | ⟨hp, _⟩
        · rw [stSl_in hj (hanc j hp q' hj) hd, way_wrote hF hC hj hd h (Nat.le_of_lt hklt)]
        · exact absurd (hp t hd) hb
      · subst h
        rw [hk] at hj; injection hj with hj; subst hj
        rw [stSl_out (fun i a ha hl hd' => by
          have := huq i a ha hd'
          subst this
          rw [hk] at ha; injection ha with ha; subst ha
          exact hnl hl)]
        rw [way_sl hC j (i := 0) (Nat.zero_le _) (Nat.le_of_lt hklt) (fun i a _ h2 ha hd' => by
          have := huq i a ha hd'
          omega)]
      · rcases (hF.pair k j q q' h hk hj).2.2.2 with hp | ⟨_, hp, _⟩
        · rw [stSl_out (fun i a ha hl hd' => by
            have := huq i a ha hd'
            subst this
            rw [hj] at ha; injection ha with ha; subst ha
            exact hnl (hdown _ _ hj hl k hp q hk))]
          rw [way_sl hC k (i := 0) (Nat.zero_le _) (Nat.le_of_lt hklt) (fun i a _ h2 ha hd' => by
            have := huq i a ha hd'
            omega)]
        · exact absurd (hp t hd) hb
    · rw [stSl_out (fun i a ha _ hd => hw ⟨i, a, ha, hd⟩), way_sl hC k (i := 0) (Nat.zero_le _) (Nat.le_of_lt hklt) (fun i a _ _ ha hd => hw ⟨i, a, ha, hd⟩)]
theorem lst_set {listed : Array Bool} {i j : Nat} : Lst (listed.setIfInBounds i true) j → Lst listed j ∨ j = i := by
  intro h
  unfold Lst at h ⊢
  by_cases e : j = i
  · exact Or.inr e
  · rw [Array.getElem?_setIfInBounds_ne (Ne.symm e)] at h
    exact Or.inl h
theorem lst_old {listed : Array Bool} {i j : Nat} (h : Lst listed j) : Lst (listed.setIfInBounds i true) j := by
  unfold Lst at h ⊢
  by_cases e : j = i
  · subst e
    rw [Array.getElem?_setIfInBounds_self_of_lt (Array.getElem?_eq_some_iff.1 h).1]
  · rw [Array.getElem?_setIfInBounds_ne (Ne.symm e)]; exact h
theorem lst_new {listed : Array Bool} {i : Nat} (h : i < listed.size) : Lst (listed.setIfInBounds i true) i := by
  unfold Lst
  rw [Array.getElem?_setIfInBounds_self_of_lt h]
include hF hC in
theorem st_next {listed : Array Bool} {k : Nat} {R : Rts} {q : Nat × POp} (hk : l[k]? = some q) (hsz : q.1 < listed.size) {F' : Fr} (hps : (C 0).ps = F'.ps)
    (hsl : ∀ t, F'.sl t = if q.2.dst = some t then (C (k + 1)).sl t else (stF l C listed R).sl t) : F' = stF l C (listed.setIfInBounds q.1 true) F'.rt := by
  have hklt : k < l.length := (List.getElem?_eq_some_iff.1 hk).1
  have : F'.sl = stSl l C (listed.setIfInBounds q.1 true) := by
    funext t
    rw [hsl t]
    split
    · rename_i hd
      rw [stSl_in hk (lst_new hsz) hd, way_wrote hF hC hk hd (by omega) (by omega)]
    · rename_i hd
      show stSl l C listed t = _
      by_cases hw : ∃ (j : Nat) (q' : Nat × POp), l[j]? = some q' ∧ Lst listed q'.1 ∧ q'.2.dst = some t
      · obtain ⟨j, q', h1, h2, h3⟩ := hw
        rw [stSl_in h1 h2 h3, stSl_in h1 (lst_old h2) h3]
      · rw [stSl_out (fun j q' h1 h2 h3 => hw ⟨j, q', h1, h2, h3⟩), stSl_out (fun j q' h1 h2 h3 => ?_)]
        rcases lst_set h2 with h2 | h2
        · exact hw ⟨j, q', h1, h2, h3⟩
        · have := way_inj hF h1 hk h2
          subst this
          rw [hk] at h1; injection h1 with h1; subst h1
          exact hd h3
  cases F'
  simp only [stF] at *
  subst this hps
  rfl
theorem ready_spec {listed : Array Bool} {i : Nat} (hsz : listed.size = ops.size) : i ∈ Region.ready .any ops listed ↔ i < ops.size ∧ ¬ Lst listed i ∧ ∃ o, ops[i]? = some o ∧ ∀ e ∈ o.after.toList, Region.binds .any e = true → Lst listed e.on := by
  have hL : ∀ j, listed.getD j false = true ↔ Lst listed j := by
    intro j
    unfold Lst
    rw [Array.getD_eq_getD_getElem?]
    cases h : listed[j]? with
    | none => simp
    | some b => simp
  simp only [Region.ready, List.mem_filter, List.mem_range, Bool.and_eq_true, Bool.not_eq_true']
  refine and_congr_right (fun hi => and_congr ?_ ?_)
  · have hlt : i < listed.size := by rw [hsz]; exact hi
    unfold Lst
    rw [Array.getD_eq_getD_getElem?, Array.getElem?_eq_getElem hlt]
    simp
  · rw [Array.getElem?_eq_getElem hi]
    simp only [Option.map_some, Option.getD_some, Option.some.injEq, exists_eq_left']
    rw [Array.all_eq_true_iff_forall_mem]
    refine ⟨fun h e he hb => ?_, fun h e he => ?_⟩
    · have := h e (by simpa using he)
      rw [hb] at this
      simp only [Bool.not_true, Bool.false_or] at this
      exact (hL _).1 this
    · cases hb : Region.binds .any e with
      | false => rfl
      | true =>
        simp only [Bool.not_true, Bool.false_or]
        exact (hL _).2 (h e (by simpa using he) hb)
/-- The roots at a stage: those behind the operations that change roots, up to m, and what was born since. -/
def StR (l : List (Nat × POp)) (C : Nat → Fr) (listed : Array Bool) (m : Nat) (R : Rts) : Prop :=
  (∀ (k : Nat) (q : Nat × POp) (d : Nat), l[k]? = some q → q.2.born = true → Lst listed q.1 → m ≤ k → q.2.dst = some d → R (nid d) = (C (k + 1)).rt (nid d)) ∧
  ∀ i, (∀ (k : Nat) (q : Nat × POp) (d : Nat), l[k]? = some q → q.2.born = true → Lst listed q.1 → m ≤ k → q.2.dst = some d → i ≠ nid d) → R i = (C m).rt i
/-- What is born from k on. -/
def Late (l : List (Nat × POp)) (listed : Array Bool) (k i : Nat) : Prop := ∃ (j : Nat) (q : Nat × POp) (d : Nat), l[j]? = some q ∧ q.2.born = true ∧ Lst listed q.1 ∧ k ≤ j ∧ q.2.dst = some d ∧ i = nid d
theorem nid_inj {a b : Nat} (h : nid a = nid b) : a = b := by unfold nid at h; omega
include hF hC in
theorem way_pres {i x : Nat} (hx : ((C i).rt x).isSome = true) : ∀ j, i ≤ j → j ≤ l.length → ((C j).rt x).isSome = true := by
  intro j
  induction j with
  | zero => intro h _; have : i = 0 := by omega
            subst this; exact hx
  | succ j ih =>
    intro h hj
    by_cases e : i = j + 1
    · subst e; exact hx
    · have hlt : j < l.length := hj
      have hq := List.getElem?_eq_getElem hlt
      obtain ⟨_, _, _, hv, _⟩ := hF.op j _ hq
      exact stepD_pres hv (hC j _ hq) (ih (by omega) (by omega))
include hC in
theorem way_born {k d : Nat} {q : Nat × POp} (hk : l[k]? = some q) (hb : q.2.born = true) (hd : q.2.dst = some d) : ∃ r, (C k).rt (nid d) = none ∧ (C (k + 1)).rt = upd (C k).rt (nid d) r := by
  have := stepD_born (hC k q hk) hb
  rw [hd] at this
  exact this
include hC in
theorem way_still {i x : Nat} : ∀ j, i ≤ j → j ≤ l.length → (∀ (k : Nat) q, i ≤ k → k < j → l[k]? = some q → q.2.op.quiet = true ∨ (q.2.born = true ∧ ∀ d, q.2.dst = some d → x ≠ nid d)) → (C j).rt x = (C i).rt x := by
  intro j
  induction j with
  | zero => intro h _ _; have : i = 0 := by omega
            subst this; rfl
  | succ j ih =>
    intro h hj hn
    by_cases e : i = j + 1
    · subst e; rfl
    · have hlt : j < l.length := hj
      have hq := List.getElem?_eq_getElem hlt
      rw [← ih (by omega) (by omega) (fun k q h1 h2 => hn k q h1 (by omega))]
      rcases hn j _ (by omega) (by omega) hq with h1 | ⟨h1, h2⟩
      · rw [stepD_rt (hC j _ hq) h1]
      · obtain ⟨_, ⟨d, hd⟩, _⟩ := born_may h1
        obtain ⟨r, _, e2⟩ := way_born hC hq h1 hd
        rw [e2, updF_ne _ _ (h2 d hd)]
include hF hC in
theorem stage_ext {listed : Array Bool} {m k : Nat} {R : Rts} (hR : StR l C listed m R) (hmk : m ≤ k) (hkl : k ≤ l.length) (hall : ∀ (j : Nat) q, l[j]? = some q → m ≤ j → j < k → q.2.op.quiet = false → q.2.born = true ∧ Lst listed q.1) : Ext (Late l listed k) (C k).rt R := by
  refine ⟨?_, fun i hi => ?_⟩
  · rintro i ⟨j, q, d, h1, h2, _, h4, h5, rfl⟩
    obtain ⟨r, e, _⟩ := way_born hC h1 h2 h5
    cases hx : (C k).rt (nid d) with
    | none => rfl
    | some y =>
      have := way_pres hF hC (i := k) (x := nid d) (by rw [hx]; rfl) j h4 (Nat.le_of_lt (List.getElem?_eq_some_iff.1 h1).1)
      rw [e] at this; cases this
  · by_cases hw : ∃ (j : Nat) (q : Nat × POp) (d : Nat), l[j]? = some q ∧ q.2.born = true ∧ Lst listed q.1 ∧ m ≤ j ∧ q.2.dst = some d ∧ i = nid d
    · obtain ⟨j, q, d, h1, h2, h3, h4, h5, rfl⟩ := hw
      have hjk : j < k := Nat.lt_of_not_le (fun e => hi ⟨j, q, d, h1, h2, h3, e, h5, rfl⟩)
      rw [hR.1 j q d h1 h2 h3 h4 h5]
      refine (way_still hC k (i := j + 1) hjk hkl (fun k' q' g1 g2 g3 => ?_)).symm
      cases hq : q'.2.op.quiet with
      | true => exact Or.inl rfl
      | false =>
        obtain ⟨b1, _⟩ := hall k' q' g3 (by omega) g2 hq
        refine Or.inr ⟨b1, fun d' hd' e => ?_⟩
        have := nid_inj e
        subst this
        have := way_uniq hF h1 g3 h5 hd'
        omega
    · rw [hR.2 i (fun j q d h1 h2 h3 h4 h5 e => hw ⟨j, q, d, h1, h2, h3, h4, h5, e⟩)]
      refine (way_still hC k (i := m) hmk hkl (fun k' q' g1 g2 g3 => ?_)).symm
      cases hq : q'.2.op.quiet with
      | true => exact Or.inl rfl
      | false =>
        obtain ⟨b1, b2⟩ := hall k' q' g3 g1 g2 hq
        exact Or.inr ⟨b1, fun d' hd' e => hw ⟨k', q', d', g3, b1, b2, g1, hd', e⟩⟩
structure Inv (w0 : World) (home0 : Home) (hd0 : Lb → Value) (l : List (Nat × POp)) (C : Nat → Fr) (listed : Array Bool) (a : Act) (w : World) (home : Home) (hd : Lb → Value) (m : Nat) (R : Rts) : Prop where
  down : ∀ (j : Nat) q', l[j]? = some q' → Lst listed q'.1 → ∀ p ∈ q'.2.anc, ∀ q2, l[p]? = some q2 → Lst listed q2.1
  le : m ≤ l.length
  loud : ∀ (k : Nat) q, l[k]? = some q → q.2.op.quiet = false → q.2.born = false → (Lst listed q.1 ↔ k < m)
  birth : ∀ (k : Nat) q, l[k]? = some q → q.2.born = true → k < m → Lst listed q.1
  st : StR l C listed m R
  fr : FrR ids w home hd N (stF l C listed R) a
  grow : Grow w0 home0 hd0 (C 0).rt w home hd R
include hF hC in
theorem any_ok (hcall : ∀ f args r, call f args = some r → SatG ids P (ids f) (shapeOf f) args r) {w0 : World} {home0 : Home} {hd0 : Lb → Value} {Q : Exit → Act → World → Prop}
    (hQ : ∀ a' w' home' hd', Grow w0 home0 hd0 (C 0).rt w' home' hd' (C l.length).rt → FrR ids w' home' hd' N (stF l C (Array.replicate ops.size true) (C l.length).rt) a' → Q .normal a' w') :
    ∀ (fuel : Nat) (listed : Array Bool) (a : Act) (w : World) (home : Home) (hd : Lb → Value) (m : Nat) (R : Rts), listed.size = ops.size → listed.toList.count false ≤ fuel → Inv (ids := ids) (N := N) w0 home0 hd0 l C listed a w home hd m R → wpAny P .any ops Q fuel listed a w := by
  have hdone : ∀ (listed : Array Bool) (a : Act) (w : World) (home : Home) (hd : Lb → Value) (m : Nat) (R : Rts), listed.size = ops.size → Inv (ids := ids) (N := N) w0 home0 hd0 l C listed a w home hd m R → Region.ready .any ops listed = [] → Q .normal a w := by
    intro listed a w home hd m R hsz hI hr
    have hall : ∀ (k : Nat) q, l[k]? = some q → Lst listed q.1 := by
      intro k
      induction k using Nat.strongRecOn with
      | ind k ih =>
        intro q hk
        by_cases hl : Lst listed q.1
        · exact hl
        · exfalso
          obtain ⟨o, ho, _, _, he, _⟩ := hF.op k q hk
          have : q.1 ∈ Region.ready .any ops listed := (ready_spec hsz).2 ⟨(Array.getElem?_eq_some_iff.1 ho).1, hl, o, ho, fun e hee hb => by
            obtain ⟨j, q', h1, h2, h3⟩ := he e hee hb
            rw [← h3]
            exact ih j h1 q' h2⟩
          rw [hr] at this
          cases this
    have hlt : listed = Array.replicate ops.size true := by
      apply Array.ext_getElem?
      intro i
      by_cases hi : i < ops.size
      · obtain ⟨k, q, hk, rfl⟩ := hF.sur i hi
        have h := hall k q hk
        unfold Lst at h
        rw [h]
        simp [hi]
      · rw [Array.getElem?_eq_none (by omega), Array.getElem?_eq_none (by simp; omega)]
    subst hlt
    have hx := stage_ext hF hC hI.st hI.le (Nat.le_refl _) (fun j q h1 h2 h3 h4 => by
      refine ⟨?_, hall j q h1⟩
      cases hb : q.2.born with
      | true => rfl
      | false =>
        have := (hI.loud j q h1 h4 hb).1 (hall j q h1)
        omega)
    have hR : R = (C l.length).rt := by
      funext i
      refine hx.2 i ?_
      rintro ⟨j, q, d, h1, _, _, h4, _⟩
      have := (List.getElem?_eq_some_iff.1 h1).1
      omega
    rw [hR] at hI
    exact hQ a w home hd hI.grow hI.fr
  intro fuel
  induction fuel with
  | zero =>
    intro listed a w home hd m R hsz hc hI
    have hr : Region.ready .any ops listed = [] := by
      rw [List.eq_nil_iff_forall_not_mem]
      intro i hi
      obtain ⟨h1, h2, _⟩ := (ready_spec hsz).1 hi
      have h0 : listed.toList.count false = 0 := by omega
      rw [List.count_eq_zero] at h0
      have hlt : i < listed.size := by rw [hsz]; exact h1
      apply h2
      unfold Lst
      rw [Array.getElem?_eq_getElem hlt]
      cases hb : listed[i] with
      | true => rfl
      | false => exact absurd (by rw [← hb]; simp) h0
    exact ⟨hr, hdone listed a w home hd m R hsz hI hr⟩
  | succ fuel ih =>
    intro listed a w home hd m R hsz hc hI
    refine ⟨hdone listed a w home hd m R hsz hI, fun i hi => ?_⟩
    obtain ⟨h1, h2, o, ho, he⟩ := (ready_spec hsz).1 hi
    obtain ⟨k, q, hk, rfl⟩ := hF.sur i h1
    have hklt : k < l.length := (List.getElem?_eq_some_iff.1 hk).1
    obtain ⟨o', ho', hm, hv, hedge, hancs⟩ := hF.op k q hk
    rw [ho] at ho'; injection ho' with ho'; subst ho'
    have hanc : ∀ p ∈ q.2.anc, ∀ q', l[p]? = some q' → Lst listed q'.1 := by
      intro p hp q' hq'
      obtain ⟨_, e, hee, hb, j, q2, hj, e2, h⟩ := hancs p hp
      have hl := he e hee hb
      rw [← e2] at hl
      rcases h with h | h
      · subst h
        rw [hj] at hq'; injection hq' with hq'; subst hq'
        exact hl
      · exact hI.down j q2 hj hl p h q' hq'
    have hlt : q.1 < listed.size := by rw [hsz]; exact h1
    have hcnt : (listed.setIfInBounds q.1 true).toList.count false ≤ fuel := by
      have hfalse : listed[q.1]? = some false := by
        rw [Array.getElem?_eq_getElem hlt]
        cases hb : listed[q.1] with
        | false => rfl
        | true => exact absurd (by unfold Lst; rw [Array.getElem?_eq_getElem hlt, hb]) h2
      rw [Array.toList_setIfInBounds, List.count_set (by simpa using hlt)]
      have : listed.toList[q.1]'(by simpa using hlt) = false := by
        rw [Array.getElem?_eq_some_iff] at hfalse
        obtain ⟨_, hf⟩ := hfalse
        simpa using hf
      simp [this] at hc ⊢
      omega
    have hsee := st_see (R := R) hF hC hk h2 hanc hI.down
    have hloudlt : q.2.born = false → ∀ (j : Nat) q', l[j]? = some q' → q'.2.op.quiet = false → j < k → Lst listed q'.1 := by
      intro hqb j q' hj hq' hjk
      rcases (hF.pair j k q' q hjk hj hk).2.2.2 with hp | ⟨_, _, ⟨hp, _⟩ | hp⟩
      · exact hanc j hp q' hj
      · rw [hq'] at hp; cases hp
      · rw [hqb] at hp; cases hp
    have hup : q.2.born = false → m ≤ k → Ext (Late l listed k) (C k).rt R := fun hqb hmk => stage_ext hF hC hI.st hmk (Nat.le_of_lt hklt) (fun j q' g1 g2 g3 g4 => by
      have hl := hloudlt hqb j q' g1 g4 g3
      refine ⟨?_, hl⟩
      cases hb : q'.2.born with
      | true => rfl
      | false =>
        have := (hI.loud j q' g1 g4 hb).1 hl
        omega)
    have hdn : Ext (Late l listed m) (C m).rt R := stage_ext hF hC hI.st (Nat.le_refl _) hI.le (fun j q' _ g2 g3 _ => by omega)
    have hqb : q.2.op.quiet = true → q.2.born = false := fun hqq => by
      cases hb : q.2.born with
      | false => rfl
      | true => rw [born_loud hb] at hqq; cases hqq
    have hqpres : q.2.op.quiet = true → ∀ i, ((C k).rt i).isSome = true → ((stF l C listed R).rt i).isSome = true := by
      intro hqq i hi
      show (R i).isSome = true
      rcases Nat.le_total k m with hkm | hkm
      · exact hdn.is (way_pres hF hC hi m hkm hI.le)
      · exact (hup (hqb hqq) hkm).is hi
    have hqsub : q.2.op.quiet = true → Sub (mask q.2.hide (C k).rt) (stF l C listed R).rt := by
      intro hqq
      show Sub _ R
      rcases Nat.le_total k m with hkm | hkm
      · have h1 := way_keeps hF hC (h := q.2.hide) (i := k) m hkm hI.le (fun j q' h3 h4 hj => by
          cases hq' : q'.2.op.quiet with
          | true => exact Or.inl rfl
          | false =>
            refine Or.inr ?_
            cases hb : q'.2.born with
            | true =>
              rw [(born_may hb).2.2]
              intro x hx; cases hx
            | false =>
              have hjl := (hI.loud j q' hj hq' hb).2 h4
              have hne : k ≠ j := fun e => by subst e; rw [hk] at hj; injection hj with hj; subst hj; rw [hqq] at hq'; cases hq'
              rcases (hF.pair k j q q' (by omega) hk hj).2.2.2 with hp | ⟨_, _, ⟨_, hp⟩ | hp⟩
              · exact absurd (hI.down j q' hj hjl k hp q hk) h2
              · rcases hp with hp | hp
                · rw [hq'] at hp; cases hp
                · exact hp
              · rw [hb] at hp; cases hp)
        exact fun x r hx => hdn.sub x r (h1 x r hx)
      · exact fun x r hx => (hup (hqb hqq) hkm).sub x r (mask_some hx).1
    have hbm : q.2.born = true → m ≤ k := fun hb => Nat.le_of_not_lt (fun h => h2 (hI.birth k q hk hb h))
    have hne : ∀ (j : Nat) q' d, l[j]? = some q' → Lst listed q'.1 → q'.2.dst = some d → q.2.dst ≠ some d := by
      intro j q' d g1 g2 g3 e
      have := way_uniq hF g1 hk g3 e
      subst this
      rw [hk] at g1; injection g1 with g1; subst g1
      exact h2 g2
    have hbn : q.2.born = true → (stF l C listed R).rt (nid (q.2.dst.getD 0)) = none := by
      intro hb
      obtain ⟨_, ⟨d, hd⟩, _⟩ := born_may hb
      rw [hd]
      show R (nid d) = none
      rw [hI.st.2 (nid d) (fun j q' d' g1 g2 g3 _ g5 e => hne j q' d' g1 g3 g5 (by rw [hd, nid_inj e]))]
      obtain ⟨r, e, _⟩ := way_born hC hk hb hd
      cases hx : (C m).rt (nid d) with
      | none => rfl
      | some y =>
        have := way_pres hF hC (i := m) (x := nid d) (by rw [hx]; rfl) k (hbm hb) (Nat.le_of_lt hklt)
        rw [e] at this; cases this
    have hmk : q.2.op.quiet = false → q.2.born = false → m ≤ k := fun hqf hbf => Nat.le_of_not_lt (fun h => h2 ((hI.loud k q hk hqf hbf).2 h))
    have hhv : q.2.op.quiet = false → q.2.born = false → Ext (Late l listed k) (C k).rt (stF l C listed R).rt ∧ ∀ j, j < 64 → ¬ Late l listed k (nid (q.2.dst.getD 0) + j) := by
      intro hqf hbf
      refine ⟨hup hbf (hmk hqf hbf), ?_⟩
      rintro j hj ⟨j2, q', d, g1, g2, g3, g4, g5, g6⟩
      have hne2 : k ≠ j2 := fun e => by subst e; rw [hk] at g1; injection g1 with g1; subst g1; rw [hbf] at g2; cases g2
      have := (hF.pair k j2 q q' (by omega) hk g1).2.2.1 g2
      apply this
      rw [g5]
      congr 1
      unfold nid at g6
      omega
    obtain ⟨F', hF', hps, l1, l2, l3, hsl⟩ := stepD_E (D := Late l listed k) hv (hC k q hk) hsee (fun hqq => ⟨hqsub hqq, hqpres hqq⟩) hbn hhv
    unfold wpOp
    rw [ho]
    simp only []
    refine stepE_ok hcall hI.fr hm hF' (fun a' w' home' hd' g hf hpr => ?_)
    have hnext := st_next hF hC (R := R) hk hlt (F' := F') (by rw [hps]; rfl) hsl
    have hold : ∀ (j : Nat) q', l[j]? = some q' → Lst (listed.setIfInBounds q.1 true) q'.1 → Lst listed q'.1 ∨ (j = k ∧ q' = q) := by
      intro j q' hj hl
      rcases lst_set hl with hl | hl
      · exact Or.inl hl
      · have := way_inj hF hj hk hl
        subst this
        rw [hk] at hj; injection hj with hj
        exact Or.inr ⟨rfl, hj.symm⟩
    obtain ⟨m', e2, e3, e4, e5⟩ : ∃ m', m' ≤ l.length ∧ (∀ (j : Nat) q', l[j]? = some q' → q'.2.op.quiet = false → q'.2.born = false → (Lst (listed.setIfInBounds q.1 true) q'.1 ↔ j < m')) ∧ (∀ (j : Nat) q', l[j]? = some q' → q'.2.born = true → j < m' → Lst (listed.setIfInBounds q.1 true) q'.1) ∧ StR l C (listed.setIfInBounds q.1 true) m' F'.rt := by
      cases hqq : q.2.op.quiet with
      | true =>
        have hR : F'.rt = R := l1 hqq
        refine ⟨m, hI.le, fun j q' hj hq' hb' => ?_, fun j q' hj hb' hjm => lst_old (hI.birth j q' hj hb' hjm), ?_⟩
        · rw [← hI.loud j q' hj hq' hb']
          refine ⟨fun h => ?_, lst_old⟩
          rcases hold j q' hj h with h | ⟨_, rfl⟩
          · exact h
          · rw [hqq] at hq'; cases hq'
        · rw [hR]
          refine ⟨fun k' q' d g1 g2 g3 g4 g5 => ?_, fun i hi => hI.st.2 i (fun k' q' d g1 g2 g3 g4 g5 => hi k' q' d g1 g2 (lst_old g3) g4 g5)⟩
          rcases hold k' q' g1 g3 with h | ⟨_, rfl⟩
          · exact hI.st.1 k' q' d g1 g2 h g4 g5
          · rw [born_loud g2] at hqq; cases hqq
      | false =>
        cases hbb : q.2.born with
        | true =>
          obtain ⟨_, ⟨d, hd⟩, _⟩ := born_may hbb
          obtain ⟨r, b1, b2, b3⟩ := l2 hbb
          rw [hd] at b1 b2 b3
          simp only [Option.getD_some] at b1 b2 b3
          have b3 : F'.rt = upd R (nid d) r := b3
          refine ⟨m, hI.le, fun j q' hj hq' hb' => ?_, fun j q' hj hb' hjm => lst_old (hI.birth j q' hj hb' hjm), ?_⟩
          · rw [← hI.loud j q' hj hq' hb']
            refine ⟨fun h => ?_, lst_old⟩
            rcases hold j q' hj h with h | ⟨_, rfl⟩
            · exact h
            · rw [hbb] at hb'; cases hb'
          · rw [b3]
            refine ⟨fun k' q' d' g1 g2 g3 g4 g5 => ?_, fun i hi => ?_⟩
            · rcases hold k' q' g1 g3 with h | ⟨rfl, rfl⟩
              · have hdd : nid d' ≠ nid d := fun e => hne k' q' d' g1 h g5 (by rw [hd, nid_inj e])
                rw [updF_ne _ _ hdd]
                exact hI.st.1 k' q' d' g1 g2 h g4 g5
              · rw [hd] at g5
                injection g5 with g5
                subst g5
                rw [b2, updF_same, updF_same]
            · rw [updF_ne _ _ (hi k q d hk hbb (lst_new hlt) (hbm hbb) hd)]
              exact hI.st.2 i (fun k' q' d' g1 g2 g3 g4 g5 => hi k' q' d' g1 g2 (lst_old g3) g4 g5)
        | false =>
          have hmk1 := hmk hqq hbb
          obtain ⟨x1, x2, _⟩ := l3 hqq hbb
          have x2 : ∀ i, Late l listed k i → F'.rt i = R i := x2
          refine ⟨k + 1, hklt, fun j q' hj hq' hb' => ⟨fun h => ?_, fun h => ?_⟩, fun j q' hj hb' hjk => ?_, fun k' q' d' g1 g2 g3 g4 g5 => ?_, fun i hi => ?_⟩
          · rcases hold j q' hj h with h | ⟨h, _⟩
            · have := (hI.loud j q' hj hq' hb').1 h
              omega
            · omega
          · by_cases e : j = k
            · subst e
              rw [hk] at hj; injection hj with hj; subst hj
              exact lst_new hlt
            · exact lst_old (hloudlt hbb j q' hj hq' (by omega))
          · have hjne : j ≠ k := fun e => by subst e; rw [hk] at hj; injection hj with hj; subst hj; rw [hbb] at hb'; cases hb'
            exact lst_old (hloudlt hbb j q' hj (born_loud hb') (by omega))
          · rcases hold k' q' g1 g3 with h | ⟨h, _⟩
            · rw [x2 _ ⟨k', q', d', g1, g2, h, by omega, g5, rfl⟩]
              exact hI.st.1 k' q' d' g1 g2 h (by omega) g5
            · omega
          · refine x1.2 i ?_
            rintro ⟨j, q', d', g1, g2, g3, g4, g5, g6⟩
            have hjne : j ≠ k := fun e => by subst e; rw [hk] at g1; injection g1 with g1; subst g1; rw [hbb] at g2; cases g2
            exact hi j q' d' g1 g2 (lst_old g3) (by omega) g5 g6
    refine ih _ a' w' home' hd' m' F'.rt (by simpa using hsz) hcnt ⟨fun j q' hj hl p hp q2 hq2 => ?_, e2, e3, e4, e5, ?_, hI.grow.trans g⟩
    · rcases hold j q' hj hl with hl | ⟨_, rfl⟩
      · exact lst_old (hI.down j q' hj hl p hp q2 hq2)
      · exact lst_old (hanc p hp q2 hq2)
    · rw [← hnext]; exact hf
end
theorem stepsD_ok (hcall : ∀ f args r, call f args = some r → SatG ids P (ids f) (shapeOf f) args r) {id : Nat} {w : World} {home : Home} {hd : Lb → Value} {fr fr' : Fr} {a : Act} {Q : Exit → Act → World → Prop} (h : FrR ids w home hd N fr a) (hm : mD ids P N ops l = true) (he : fr.stepsD call l = some fr')
    (hq : ∀ a' w' home' hd', Grow w home hd fr.rt w' home' hd' fr'.rt → FrR ids w' home' hd' N fr' a' → Q .normal a' w') : (Code.region id ops true).wp P Q a w := by
  have hF := mD_fits hm
  obtain ⟨C, c0, c1, hC⟩ := stepsD_trace he
  refine wp_region_any hF.mixed ?_
  have hnone : ∀ i, ¬ Lst (Array.replicate ops.size false) i := by
    intro i hi
    unfold Lst at hi
    rw [Array.getElem?_replicate] at hi
    split at hi <;> cases hi
  have hps : ∀ j, j ≤ l.length → (C j).ps = (C 0).ps := by
    intro j
    induction j with
    | zero => intro _; rfl
    | succ j ih =>
      intro hj
      have hlt : j < l.length := hj
      have hs := hC j _ (List.getElem?_eq_getElem hlt)
      rw [← ih (by omega)]
      exact stepD_ps hs
  refine any_ok hF hC hcall (w0 := w) (home0 := home) (hd0 := hd) (fun a' w' home' hd' g hf => ?_) ops.size _ a _ home hd 0 fr.rt (by simp) (by simp) ⟨fun j q' hj hl => absurd hl (hnone _), Nat.zero_le _, fun k q hk hqq _ => ⟨fun hl => absurd hl (hnone _), fun h => absurd h (Nat.not_lt_zero _)⟩, fun k q hk hb h => absurd h (Nat.not_lt_zero _), ⟨fun k q d _ _ h => absurd h (hnone _), fun i _ => by rw [c0]⟩, ?_, ?_⟩
  · rw [c0, c1] at g
    refine hq a' w' home' hd' g ?_
    have : stF l C (Array.replicate ops.size true) (C l.length).rt = fr' := by
      have e : stSl l C (Array.replicate ops.size true) = fr'.sl := by
        funext t
        by_cases hw : ∃ (j : Nat) (q' : Nat × POp), l[j]? = some q' ∧ q'.2.dst = some t
        · obtain ⟨j, q', hj, hd'⟩ := hw
          obtain ⟨o, ho, _⟩ := hF.op j q' hj
          rw [stSl_in hj (by unfold Lst; simp [(Array.getElem?_eq_some_iff.1 ho).1]) hd', c1]
        · rw [stSl_out (fun i b hb _ hd' => hw ⟨i, b, hb, hd'⟩), ← c1]
          exact (way_sl hC l.length (i := 0) (Nat.zero_le _) (Nat.le_refl _) (fun i b _ _ hb hd' => hw ⟨i, b, hb, hd'⟩)).symm
      have e2 : (C 0).ps = fr'.ps := by rw [← c1]; exact (hps _ (Nat.le_refl _)).symm
      simp only [stF, e, c1, e2]
    rw [← this]; exact hf
  · have : stF l C (Array.replicate ops.size false) fr.rt = fr := by
      have e : stSl l C (Array.replicate ops.size false) = fr.sl := by
        funext t
        rw [stSl_out (fun i b hb hl _ => hnone _ hl), c0]
      simp only [stF, e, c0]
    rw [this]
    exact h.drew
  · rw [c0]
    exact (Step.drew h.rel).grow
end
end Go.Proofs.YtecmolmlojehgaaGreat.T
namespace Go.Proofs.YtecmolmlojehgaaGreat.T
open Go
variable (ids : Nat → FuncId)

def exOf : Ex → Exit
  | .normal => .normal
  | .exit i => .exit i
  | .ret => .ret
def mC (P : Program) (N : Nat) : Code → PC → Bool
  | .skip, .skip => true
  | .region _ ops draw, .ops l _ => !draw && all2 (mOp ids P N ops) ops.toList l
  | .region _ ops draw, .dops l _ => draw && mD ids P N ops l
  | .seq a b, .seq a' b' => mC P N a a' && mC P N b b'
  | .cond c a b, .cond c' a' b' => mOpd ids c c' && mC P N a a' && mC P N b b'
  | .block i c, .block i' c' => i == i' && mC P N c c'
  | .loop c, .loop _ c' => mC P N c c'
  | .exit i, .exit i' => i == i'
  | .ret, .ret => true
  | _, _ => false
section
variable {ids} {P : Program} {N : Nat} {call : Nat → List Arg → Option Res}
theorem step_ps {fr fr' : Fr} {o : POp} (h : fr.step call o = some fr') : fr'.ps = fr.ps := by
  have hout : ∀ (fr : Fr) d av, (fr.out d av).ps = fr.ps := fun fr d av => by cases d <;> rfl
  have hex : ∀ {fr'}, fr.exec call o = some fr' → fr'.ps = fr.ps := by
    intro fr' h
    unfold Fr.exec at h
    split at h
    · split at h
      · injection h with h; subst h; rw [hout]
      · cases h
    · cases h
  unfold Fr.step at h
  split at h
  · exact hex h
  · split at h
    · split at h
      · exact hex h
      · injection h with h; subst h; exact hout _ _ _
    · injection h with h; subst h; exact hout _ _ _
    · cases h
theorem steps_ps : ∀ {l : List POp} {fr fr' : Fr}, fr.steps call l = some fr' → fr'.ps = fr.ps
  | [], fr, fr', h => by simp only [Fr.steps, Option.some.injEq] at h; subst h; rfl
  | o :: l, fr, fr', h => by
    simp only [Fr.steps] at h
    split at h
    · rename_i fr1 h1
      exact (steps_ps h).trans (step_ps h1)
    · cases h
theorem runC_ps : ∀ (pc : PC) {n : Nat} {fr fr' : Fr} {e : Ex}, runC call n pc fr = some (e, fr') → fr'.ps = fr.ps
  | .skip, n, fr, fr', e, h => by simp only [runC, Option.some.injEq, Prod.mk.injEq] at h; obtain ⟨_, rfl⟩ := h; rfl
  | .exit i, n, fr, fr', e, h => by simp only [runC, Option.some.injEq, Prod.mk.injEq] at h; obtain ⟨_, rfl⟩ := h; rfl
  | .ret, n, fr, fr', e, h => by simp only [runC, Option.some.injEq, Prod.mk.injEq] at h; obtain ⟨_, rfl⟩ := h; rfl
  | .dops l k, n, fr, fr', e, h => by
    simp only [runC, Option.map_eq_some_iff, Prod.mk.injEq] at h
    obtain ⟨fr1, h1, _, rfl⟩ := h
    have := stepsD_ps h1
    exact this
  | .ops l k, n, fr, fr', e, h => by
    simp only [runC, Option.map_eq_some_iff, Prod.mk.injEq] at h
    obtain ⟨fr1, h1, _, rfl⟩ := h
    have := steps_ps h1
    exact this
  | .seq a b, n, fr, fr', e, h => by
    simp only [runC] at h
    split at h
    · rename_i fr1 h1
      exact (runC_ps b h).trans (runC_ps a h1)
    · exact runC_ps a h
  | .cond c a b, n, fr, fr', e, h => by
    simp only [runC] at h
    split at h
    · split at h
      · exact runC_ps a h
      · exact runC_ps b h
    · cases h
  | .block i c, n, fr, fr', e, h => by
    simp only [runC] at h
    split at h
    · rename_i j fr1 h1
      split at h
      · simp only [Option.some.injEq, Prod.mk.injEq] at h; obtain ⟨_, rfl⟩ := h; exact runC_ps c h1
      · simp only [Option.some.injEq, Prod.mk.injEq] at h; obtain ⟨_, rfl⟩ := h; exact runC_ps c h1
    · exact runC_ps c h
  | .loop live c, n, fr, fr', e, h => by
    simp only [runC] at h
    have key : ∀ (k : Nat) (fr : Fr), iter (fun fr => runC call n c (fr.canon live)) k fr = some (e, fr') → fr'.ps = fr.ps := by
      intro k
      induction k with
      | zero => intro fr h; cases h
      | succ k ih =>
        intro fr h
        simp only [iter] at h
        split at h
        · rename_i fr1 h1
          have e1 : fr1.ps = (fr.canon live).ps := runC_ps c h1
          exact (ih fr1 h).trans e1
        · have e1 : fr'.ps = (fr.canon live).ps := runC_ps c h
          exact e1
    exact key n fr h
theorem runC_ok (hcall : ∀ f args r, call f args = some r → SatG ids P (ids f) (shapeOf f) args r) : ∀ (pc : PC) {code : Code} {n : Nat} {fr fr' : Fr} {e : Ex} {w : World} {home : Home} {hd : Lb → Value} {a : Act} {Q : Exit → Act → World → Prop}, mC ids P N code pc = true → runC call n pc fr = some (e, fr') →
    FrR ids w home hd N fr a → (∀ a' w' home' hd', Grow w home hd fr.rt w' home' hd' fr'.rt → FrR ids w' home' hd' N fr' a' → Q (exOf e) a' w') → code.wp P Q a w
  | .skip, code, n, fr, fr', e, w, home, hd, a, Q, hm, h, hf, hq => by
    cases code <;> simp only [mC, Bool.false_eq_true] at hm
    simp only [runC, Option.some.injEq, Prod.mk.injEq] at h
    obtain ⟨rfl, rfl⟩ := h
    exact wp_skip (hq a w home hd Grow.refl hf)
  | .exit i, code, n, fr, fr', e, w, home, hd, a, Q, hm, h, hf, hq => by
    cases code <;> simp only [mC, Bool.false_eq_true] at hm
    have hi := eq_of_beq hm
    subst hi
    simp only [runC, Option.some.injEq, Prod.mk.injEq] at h
    obtain ⟨rfl, rfl⟩ := h
    exact wp_exit (hq a w home hd Grow.refl hf)
  | .ret, code, n, fr, fr', e, w, home, hd, a, Q, hm, h, hf, hq => by
    cases code <;> simp only [mC, Bool.false_eq_true] at hm
    simp only [runC, Option.some.injEq, Prod.mk.injEq] at h
    obtain ⟨rfl, rfl⟩ := h
    exact wp_ret (hq a w home hd Grow.refl hf)
  | .dops l k, code, n, fr, fr', e, w, home, hd, a, Q, hm, h, hf, hq => by
    cases code with
    | region id ops draw =>
      simp only [mC, Bool.and_eq_true] at hm
      obtain ⟨rfl, hm⟩ := hm
      simp only [runC, Option.map_eq_some_iff, Prod.mk.injEq] at h
      obtain ⟨fr1, h1, rfl, rfl⟩ := h
      refine stepsD_ok hcall hf hm h1 (fun a' w' home' hd' g hf' => ?_)
      refine hq a' w' _ hd' (g.trans ?_) (keep_ok hf' k)
      rw [keep_rt]; exact keep_grow _
    | _ => simp only [mC, Bool.false_eq_true] at hm
  | .ops l k, code, n, fr, fr', e, w, home, hd, a, Q, hm, h, hf, hq => by
    cases code with
    | region id ops draw =>
      simp only [mC, Bool.and_eq_true, Bool.not_eq_true'] at hm
      obtain ⟨rfl, hm⟩ := hm
      simp only [runC, Option.map_eq_some_iff, Prod.mk.injEq] at h
      obtain ⟨fr1, h1, rfl, rfl⟩ := h
      obtain ⟨m1, m2⟩ := all2_iff hm
      refine wp_region ?_
      have hsz : ops.size = l.length := by rw [← m1]; simp
      rw [List.range_eq_range', hsz]
      refine steps_ok hcall hf (fun j p hp => ?_) h1 (fun a' w' home' hd' g hf' => ?_)
      · have hlt : j < ops.toList.length := by rw [m1]; exact (List.getElem?_eq_some_iff.1 hp).1
        refine ⟨ops.toList[j], ?_, m2 j _ p (List.getElem?_eq_getElem hlt) hp⟩
        rw [Nat.zero_add, ← Array.getElem?_toList]
        exact List.getElem?_eq_getElem hlt
      · refine hq a' w' _ hd' (g.trans ?_) (keep_ok hf' k)
        rw [keep_rt]; exact keep_grow _
    | _ => simp only [mC, Bool.false_eq_true] at hm
  | .seq x y, code, n, fr, fr', e, w, home, hd, a, Q, hm, h, hf, hq => by
    cases code <;> simp only [mC, Bool.false_eq_true, Bool.and_eq_true] at hm
    obtain ⟨m1, m2⟩ := hm
    simp only [runC] at h
    split at h
    · rename_i fr1 h1
      refine wp_seq (runC_ok hcall x m1 h1 hf (fun a' w' home' hd' g hf' => ?_))
      exact runC_ok hcall y m2 h hf' (fun a2 w2 home2 hd2 g2 hf2 => hq a2 w2 home2 hd2 (g.trans g2) hf2)
    · rename_i hne
      refine wp_seq (runC_ok hcall x m1 h hf (fun a' w' home' hd' g hf' => ?_))
      have := hq a' w' home' hd' g hf'
      cases e with
      | normal => exact absurd h (hne fr')
      | exit i => exact this
      | ret => exact this
  | .cond c x y, code, n, fr, fr', e, w, home, hd, a, Q, hm, h, hf, hq => by
    cases code <;> simp only [mC, Bool.false_eq_true, Bool.and_eq_true] at hm
    obtain ⟨⟨m0, m1⟩, m2⟩ := hm
    simp only [runC] at h
    split at h
    · rename_i t ht
      have hv := (hf.ev.V m0 ht).1
      refine wp_cond hv ?_
      cases t with
      | true => exact runC_ok hcall x m1 (by simpa using h) hf hq
      | false => exact runC_ok hcall y m2 (by simpa using h) hf hq
    · cases h
  | .block i c, code, n, fr, fr', e, w, home, hd, a, Q, hm, h, hf, hq => by
    cases code <;> simp only [mC, Bool.false_eq_true, Bool.and_eq_true] at hm
    obtain ⟨m0, m1⟩ := hm
    have hi := eq_of_beq m0
    subst hi
    rename_i i c'
    simp only [runC] at h
    split at h
    · rename_i j fr1 h1
      refine wp_block (runC_ok hcall c m1 h1 hf (fun a' w' home' hd' g hf' => ?_))
      simp only [exOf, Exit.inBlock]
      split at h
      · rename_i hj
        simp only [Option.some.injEq, Prod.mk.injEq] at h
        obtain ⟨rfl, rfl⟩ := h
        rw [if_pos hj]
        exact hq a' w' home' hd' g hf'
      · rename_i hj
        simp only [Option.some.injEq, Prod.mk.injEq] at h
        obtain ⟨rfl, rfl⟩ := h
        rw [if_neg hj]
        exact hq a' w' home' hd' g hf'
    · rename_i hne
      refine wp_block (runC_ok hcall c m1 h hf (fun a' w' home' hd' g hf' => ?_))
      have := hq a' w' home' hd' g hf'
      cases e with
      | normal => exact this
      | exit j => exact absurd h (hne j fr')
      | ret => exact this
  | .loop live c, code, n, fr, fr', e, w, home, hd, a, Q, hm, h, hf, hq => by
    cases code <;> simp only [mC, Bool.false_eq_true] at hm
    rename_i c'
    simp only [runC] at h
    have key : ∀ (k : Nat) (fr : Fr) (w : World) (home : Home) (hd : Lb → Value) (a : Act), iter (fun fr => runC call n c (fr.canon live)) k fr = some (e, fr') → FrR ids w home hd N fr a →
        (∀ a' w' home' hd', Grow w home hd fr.rt w' home' hd' fr'.rt → FrR ids w' home' hd' N fr' a' → Q (exOf e) a' w') → Code.rounds P c' Q k a w := by
      intro k
      induction k with
      | zero => intro fr w home hd a h; cases h
      | succ k ih =>
        intro fr w home hd a h hf hq
        rw [rounds_succ]
        obtain ⟨home0, hd0, g0, hf0⟩ := canon_ok hf live
        simp only [iter] at h
        split at h
        · rename_i fr1 h1
          refine runC_ok hcall c hm h1 hf0 (fun a' w' home' hd' g hf' => ?_)
          exact ih fr1 w' home' hd' a' h hf' (fun a2 w2 home2 hd2 g2 hf2 => hq a2 w2 home2 hd2 ((g0.trans g).trans g2) hf2)
        · rename_i hne
          refine runC_ok hcall c hm h hf0 (fun a' w' home' hd' g hf' => ?_)
          have := hq a' w' home' hd' (g0.trans g) hf'
          cases e with
          | normal => exact absurd h (hne fr')
          | exit i => exact this
          | ret => exact this
    exact wp_loop_rounds n (key n fr w home hd a h hf hq)
end
end Go.Proofs.YtecmolmlojehgaaGreat.T
namespace Go.Proofs.YtecmolmlojehgaaGreat.T
open Go
variable (ids : Nat → FuncId)

def mRes (P : Program) : ResultVar → PR → Bool
  | .tmp t, .t n => t == n
  | .cell t ty, .cell n agg sz => t == n && aggIs P ty agg && elemIs P sz ty
  | _, _ => false
def resOne (tmps : Array Value) : ResultVar → Sem Value
  | .tmp t => pure (tmps.getD t undef)
  | .cell b t => do loadVar t (← asAddr (tmps.getD b undef))
theorem results_eq (fn : Func) (tmps : Array Value) : results fn tmps = (do
    let vs ← fn.results.mapM (resOne tmps)
    pure (if h : vs.size = 1 then vs[0] else .tuple vs)) := by
  unfold results
  congr 1
section
variable {ids} {P : Program} {w : World} {home : Home} {hd : Lb → Value} {N : Nat} {fr : Fr} {a : Act} {rt rt1 : Rts}
/-- A variable's cells, read. -/
theorem load_pb (old : RtR w home hd rt F0) {id off n : Nat} {v : Value} (hv : SVR w home hd rt (.pb id off) v) {ys : List SV} (hl : load rt n (.pb id off) = some ys) :
    ∃ b, v = .pointer (some ⟨b, off, none⟩) ∧ ys.length = n ∧ (∀ (j : Nat) y, ys[j]? = some y → ∃ u, w.cell? ⟨b, off + j, none⟩ = some u ∧ SVR w home hd rt y u ∧ ∀ i ∈ y.ids, (rt i).isSome = true) := by
  simp only [load] at hl
  split at hl
  · rename_i xs hrt
    obtain ⟨g1, g2⟩ := seg_get hl
    obtain ⟨b, cur, e, k1, k2, k3, k4⟩ := RR.box (old.root (.r id) _ hrt)
    obtain ⟨b', k5, k6⟩ := hv.2 xs hrt
    rw [k1] at k5
    injection k5 with k5; injection k5 with k5; injection k5 with k5
    subst k5
    refine ⟨b, k6, g1, fun j y hy => ?_⟩
    have hx := g2 j y hy
    have hlt : off + j < cur.toList.length := by rw [← k4.1]; exact (List.getElem?_eq_some_iff.1 hx).1
    refine ⟨cur.toList[off + j], ?_, k4.2 _ y _ hx (List.getElem?_eq_getElem hlt), fun i hi => old.wf (.r id) _ hrt i (by simp only [Root.ids, List.mem_flatMap]; exact ⟨y, List.mem_of_getElem? hx, hi⟩)⟩
    rw [cell_row k3, ← Array.getElem?_toList]
    exact List.getElem?_eq_getElem hlt
  · cases hl
theorem mkAgg_ids {agg : Bool} {ys : List SV} {r : A1} (h : mkAgg agg ys = some r) (hp : ∀ y ∈ ys, ∀ i ∈ y.ids, (rt i).isSome = true) : ∀ i ∈ r.ids, (rt i).isSome = true := by
  unfold mkAgg at h
  split at h
  · injection h with h; subst h
    intro i hi
    simp only [A1.ids, List.mem_flatMap] at hi
    obtain ⟨y, h1, h2⟩ := hi
    exact hp y h1 i h2
  · split at h
    · injection h with h; subst h
      exact fun i hi => hp _ (List.mem_singleton.2 rfl) i hi
    · cases h
/-- The results, as the machine gives them. -/
theorem results_ok (h : FrR ids w home hd N fr a) {fn : Func} {rs : List PR} (hm : all2 (mRes P) fn.results.toList rs = true) {as : List A1} (hr : mapO (resAt fr.sl fr.rt) rs = some as) :
    ∃ us : List Value, (results fn a.tmps).run P w = .ok (retV us) w ∧ F2 (A1R ids w home hd fr.rt) as us ∧ ∀ x ∈ as, ∀ i ∈ x.ids, (fr.rt i).isSome = true := by
  have one : ∀ (rv : ResultVar) (p : PR) (x : A1), mRes P rv p = true → resAt fr.sl fr.rt p = some x → ∃ u, (resOne a.tmps rv).run P w = .ok u w ∧ A1R ids w home hd fr.rt x u ∧ ∀ i ∈ x.ids, (fr.rt i).isSome = true := by
    intro rv p x hm hx
    cases rv with
    | tmp t =>
      cases p with
      | cell _ _ _ => cases hm
      | t n =>
        have ht : t = n := eq_of_beq hm
        subst ht
        simp only [resAt] at hx
        split at hx
        · rename_i y hy
          injection hx with hx
          subst hx
          obtain ⟨v, e1, e2, e3⟩ := h.sl t _ hy
          exact ⟨v, by simp [resOne, e1], e2, e3⟩
        · cases hx
    | cell t ty =>
      cases p with
      | t n => cases hm
      | cell n agg sz =>
        simp only [mRes, Bool.and_eq_true] at hm
        obtain ⟨⟨h1, h2⟩, h3⟩ := hm
        have ht : t = n := eq_of_beq h1
        subst ht
        simp only [resAt] at hx
        split at hx
        · rename_i id off hy
          split at hx
          · rename_i ys hl
            obtain ⟨v, e1, e2, e3⟩ := h.sl t _ hy
            obtain ⟨b, e4, e5, e6⟩ := load_pb h.rel e2 hl
            obtain ⟨u, e7, e8⟩ := run_loadVar' (ids := ids) (P := P) h2 h3 e5 (fun j y hj => ⟨_, (e6 j y hj).choose_spec.1, (e6 j y hj).choose_spec.2.1⟩) hx
            refine ⟨u, ?_, e8, mkAgg_ids hx (fun y hy i hi => ?_)⟩
            · simp [resOne, e1, e4, asAddr, e7]
            · obtain ⟨j, hj⟩ := List.getElem?_of_mem hy
              obtain ⟨_, _, _, e9⟩ := e6 j y hj
              exact e9 i hi
          · cases hx
        · cases hx
  have many : ∀ (rvs : List ResultVar) (ps : List PR) (as : List A1), all2 (mRes P) rvs ps = true → mapO (resAt fr.sl fr.rt) ps = some as → ∃ us : List Value,
      (rvs.mapM (resOne a.tmps)).run P w = .ok us w ∧ F2 (A1R ids w home hd fr.rt) as us ∧ ∀ x ∈ as, ∀ i ∈ x.ids, (fr.rt i).isSome = true := by
    intro rvs
    induction rvs with
    | nil =>
      intro ps as hm hr
      cases ps with
      | cons _ _ => cases hm
      | nil =>
        simp only [mapO, Option.some.injEq] at hr
        subst hr
        exact ⟨[], rfl, ⟨rfl, fun i x y hx => by simp at hx⟩, fun x hx => by cases hx⟩
    | cons rv rvs ih =>
      intro ps as hm hr
      cases ps with
      | nil => cases hm
      | cons p ps =>
        simp only [all2, Bool.and_eq_true] at hm
        simp only [mapO] at hr
        split at hr
        · rename_i y hy
          split at hr
          · rename_i ys hys
            injection hr with hr
            subst hr
            obtain ⟨u, g1, g2, g3⟩ := one rv p y hm.1 hy
            obtain ⟨us, k1, k2, k3⟩ := ih ps ys hm.2 hys
            refine ⟨u :: us, ?_, ⟨by simp [k2.1], fun i x z hx hz => ?_⟩, fun x hx i hi => ?_⟩
            · rw [List.mapM_cons]
              simp only [Sem.run_bind, g1, Result.andThen_ok, k1, Sem.run_pure]
            · cases i with
              | zero => simp at hx hz; subst hx hz; exact g2
              | succ i => exact k2.2 i x z (by simpa using hx) (by simpa using hz)
            · rcases List.mem_cons.1 hx with rfl | hx
              · exact g3 i hi
              · exact k3 x hx i hi
          · cases hr
        · cases hr
  obtain ⟨us, k1, k2, k3⟩ := many fn.results.toList rs as hm hr
  refine ⟨us, ?_, k2, k3⟩
  rw [results_eq, Array.mapM_eq_mapM_toList]
  simp only [Sem.run_bind, Sem.run_map, k1, Result.andThen_ok, Sem.run_pure]
  congr 1
  match us with
  | [] => rfl
  | [u] => rfl
  | u :: v :: us => simp [retV]
end
end Go.Proofs.YtecmolmlojehgaaGreat.T
