/- A loop's head: what is owned is numbered anew. Drawn regions: operations that change no root, and what the others leave as it was. Drawn regions: what an operation leaves as it was. Drawn regions: roots that an operation does not meet make no difference to it. Drawn regions: whatever order the operations come up in, the frame behind them is the same. -/
import Derived.Test.YtecmolmlojehgaaGreatMH
namespace Go.Proofs.YtecmolmlojehgaaGreat.T
open Go
variable (ids : Nat → FuncId)

theorem renId_mem {m : List Nat} {i j : Nat} (h : renId m i = some j) : i ∈ m ∧ (i < 64000 → j = i) ∧ (¬ i < 64000 → ∃ k, m[k]? = some i ∧ j = 1000000 + k) := by
  unfold renId at h
  split at h
  · rename_i k hk
    have hk' : List.findIdx? (fun x => x == i) m = some k := hk
    rw [List.findIdx?_eq_some_iff_getElem] at hk'
    obtain ⟨hlt, h1, _⟩ := hk'
    have h1 : m[k] = i := by simpa using h1
    injection h with h
    refine ⟨by rw [← h1]; exact List.getElem_mem hlt, fun hi => by rw [if_pos hi] at h; exact h.symm, fun hi => ⟨k, by rw [List.getElem?_eq_getElem hlt, h1], by rw [if_neg hi] at h; exact h.symm⟩⟩
  · cases h
theorem renId_some {m : List Nat} {i : Nat} (h : i ∈ m) : ∃ j, renId m i = some j := by
  unfold renId
  have := (List.isSome_idxOf? (l := m) (a := i)).2 h
  obtain ⟨k, hk⟩ := Option.isSome_iff_exists.1 this
  rw [hk]
  exact ⟨_, rfl⟩
theorem renId_inj {m : List Nat} {i i' j : Nat} (h : renId m i = some j) (h' : renId m i' = some j) : i = i' := by
  obtain ⟨_, a1, a2⟩ := renId_mem h
  obtain ⟨_, b1, b2⟩ := renId_mem h'
  by_cases hi : i < 64000
  · have e1 := a1 hi
    by_cases hi' : i' < 64000
    · have e2 := b1 hi'; omega
    · obtain ⟨k, _, e2⟩ := b2 hi'; omega
  · obtain ⟨k, e1, e2⟩ := a2 hi
    by_cases hi' : i' < 64000
    · have e3 := b1 hi'; omega
    · obtain ⟨k', e3, e4⟩ := b2 hi'
      have : k = k' := by omega
      subst this
      rw [e1] at e3
      injection e3
def invId (m : List Nat) (j : Nat) : Option Nat := m.find? (fun i => renId m i == some j)
theorem invId_some {m : List Nat} {i j : Nat} (h : invId m j = some i) : i ∈ m ∧ renId m i = some j := by
  unfold invId at h
  have h1 := List.find?_some h
  exact ⟨List.mem_of_find?_eq_some h, by simpa using h1⟩
theorem invId_ren {m : List Nat} {i j : Nat} (h : renId m i = some j) : invId m j = some i := by
  obtain ⟨hm, _⟩ := renId_mem h
  cases hf : invId m j with
  | none =>
    unfold invId at hf
    rw [List.find?_eq_none] at hf
    exact absurd (by simpa using h) (hf i hm)
  | some i' => rw [renId_inj (invId_some hf).2 h]
def renRt (m : List Nat) (rt : Rts) : Rts := fun j =>
  match invId m j with
  | some i => (rt i).map (·.ren m)
  | none => none
def renHome (m : List Nat) (home : Home) : Home := fun b =>
  match home b with
  | some (.r i, q) => (renId m i).map (fun j => (.r j, q))
  | y => y
def renHd (m : List Nat) (hd : Lb → Value) : Lb → Value
  | .r j =>
    match invId m j with
    | some i => hd (.r i)
    | none => undef
  | l => hd l
section
variable {ids} {P : Program} {w : World} {home : Home} {hd : Lb → Value} {N : Nat} {fr fr' : Fr} {a : Act} {m : List Nat} {rt : Rts}
theorem renRt_at {i j : Nat} (h : renId m i = some j) : renRt m rt j = (rt i).map (·.ren m) := by simp only [renRt, invId_ren h]
theorem renHd_at {i j : Nat} (h : renId m i = some j) : renHd m hd (.r j) = hd (.r i) := by simp only [renHd, invId_ren h]
theorem renHome_none {b : Nat} (h : home b = none) : renHome m home b = none := by simp [renHome, h]
theorem renHome_x {b : Nat} {q : Path} (h : home b = some (.x, q)) : renHome m home b = some (.x, q) := by simp [renHome, h]
theorem renHome_r {b i j : Nat} {q : Path} (h : home b = some (.r i, q)) (hr : renId m i = some j) : renHome m home b = some (.r j, q) := by simp [renHome, h, hr]
theorem SVR.ren {F : Nat → Option Root} (old : RtR w home hd rt F) {x : SV} {v : Value} (h : SVR w home hd rt x v) : SVR w (renHome m home) (renHd m hd) (renRt m rt) (x.ren m) v := by
  have hn : ∀ b, b < w.heap.size → home b = none → w.heap[b]? = w.heap[b]? ∧ renHome m home b = none := fun b _ hb => ⟨rfl, renHome_none hb⟩
  have hole : SVR w (renHome m home) (renHd m hd) (renRt m rt) (.c .hole) v := CR.hole h.one
  have harr : ∀ {i j : Nat} {d t : Bool} {c : C}, renId m i = some j → renRt m rt j = some (.arr d t c) → rt i = some (.arr d t c) := by
    intro i j d t c hij hr
    rw [renRt_at hij, Option.map_eq_some_iff] at hr
    obtain ⟨r, h1, h2⟩ := hr
    cases r with
    | arr d' t' c' => rw [h1, ← h2]; rfl
    | box xs => cases h2
    | gone => cases h2
  cases x with
  | c c => exact h.imm old rfl hn
  | nil k => exact h.imm old rfl hn
  | pm cs off => exact h.imm old rfl hn
  | ref id p off len =>
    simp only [SV.ren]
    split
    · rename_i j hj
      refine ⟨h.1, fun d t c hr ht c' u hg hu sz n tot hs => ?_⟩
      rw [renHd_at hj] at hu
      exact h.2 d t c (harr hj hr) ht c' u hg hu sz n tot hs
    · exact hole
  | pe id p k off =>
    simp only [SV.ren]
    split
    · rename_i j hj
      refine ⟨h.1, fun d t c hr ht c' u hg hu sz n tot hs hi => ?_⟩
      rw [renHd_at hj] at hu
      exact h.2 d t c (harr hj hr) ht c' u hg hu sz n tot hs hi
    · exact hole
  | pb id off =>
    simp only [SV.ren]
    split
    · rename_i j hj
      refine ⟨h.1, fun ys hr => ?_⟩
      rw [renRt_at hj, Option.map_eq_some_iff] at hr
      obtain ⟨r, h1, h2⟩ := hr
      cases r with
      | box xs => rw [renHd_at hj]; exact h.2 xs h1
      | arr d' t' c' => cases h2
      | gone => cases h2
    · exact hole
theorem A1R.ren {F : Nat → Option Root} (old : RtR w home hd rt F) {x : A1} {v : Value} (h : A1R ids w home hd rt x v) : A1R ids w (renHome m home) (renHd m hd) (renRt m rt) (x.ren m) v := by
  cases x with
  | s x => exact SVR.ren old h
  | agg xs =>
    obtain ⟨vs, e1, e2⟩ := h
    exact ⟨vs, e1, e2.map (fun x y _ h => SVR.ren old h)⟩
  | fn f xs =>
    obtain ⟨vs, e1, e2⟩ := h
    exact ⟨vs, e1, e2.map (fun x y _ h => SVR.ren old h)⟩
theorem AVR.ren {F : Nat → Option Root} (old : RtR w home hd rt F) {x : AV} {v : Value} (h : AVR ids w home hd rt x v) : AVR ids w (renHome m home) (renHd m hd) (renRt m rt) (x.ren m) v := by
  cases x with
  | v a => exact A1R.ren old h
  | tup as =>
    obtain ⟨vs, e1, e2⟩ := h
    exact ⟨vs, e1, e2.map (fun x y _ h => A1R.ren old h)⟩
  | undef => exact h
theorem SV.ren_ids {x : SV} (h : ∀ i ∈ x.ids, (rt i).isSome = true) : ∀ j ∈ (x.ren m).ids, (renRt m rt j).isSome = true := by
  intro j hj
  have key : ∀ {i : Nat}, renId m i = some j → (rt i).isSome = true → (renRt m rt j).isSome = true := by
    intro i hi hr
    rw [renRt_at hi, Option.isSome_map]; exact hr
  cases x with
  | c c => cases hj
  | nil k => cases hj
  | pm cs off => cases hj
  | ref id p off len =>
    simp only [SV.ren] at hj
    split at hj
    · rename_i k hk
      simp only [SV.ids, List.mem_singleton] at hj; subst hj
      exact key hk (h id (by simp [SV.ids]))
    · cases hj
  | pe id p k off =>
    simp only [SV.ren] at hj
    split at hj
    · rename_i k hk
      simp only [SV.ids, List.mem_singleton] at hj; subst hj
      exact key hk (h id (by simp [SV.ids]))
    · cases hj
  | pb id off =>
    simp only [SV.ren] at hj
    split at hj
    · rename_i k hk
      simp only [SV.ids, List.mem_singleton] at hj; subst hj
      exact key hk (h id (by simp [SV.ids]))
    · cases hj
theorem A1.ren_ids {x : A1} (h : ∀ i ∈ x.ids, (rt i).isSome = true) : ∀ j ∈ (x.ren m).ids, (renRt m rt j).isSome = true := by
  intro j hj
  cases x with
  | s x => exact SV.ren_ids h j hj
  | agg xs =>
    simp only [A1.ren, A1.ids, List.mem_flatMap, List.mem_map] at hj
    obtain ⟨y, ⟨x, hx, rfl⟩, h2⟩ := hj
    exact SV.ren_ids (fun i hi => h i (by simp only [A1.ids, List.mem_flatMap]; exact ⟨x, hx, hi⟩)) j h2
  | fn f xs =>
    simp only [A1.ren, A1.ids, List.mem_flatMap, List.mem_map] at hj
    obtain ⟨y, ⟨x, hx, rfl⟩, h2⟩ := hj
    exact SV.ren_ids (fun i hi => h i (by simp only [A1.ids, List.mem_flatMap]; exact ⟨x, hx, hi⟩)) j h2
theorem AV.ren_ids {x : AV} (h : ∀ i ∈ x.ids, (rt i).isSome = true) : ∀ j ∈ (x.ren m).ids, (renRt m rt j).isSome = true := by
  intro j hj
  cases x with
  | v a => exact A1.ren_ids h j hj
  | tup as =>
    simp only [AV.ren, AV.ids, List.mem_flatMap, List.mem_map] at hj
    obtain ⟨y, ⟨x, hx, rfl⟩, h2⟩ := hj
    exact A1.ren_ids (fun i hi => h i (by simp only [AV.ids, List.mem_flatMap]; exact ⟨x, hx, hi⟩)) j h2
  | undef => cases hj
theorem renRt_inv {j : Nat} {r : Root} (h : renRt m rt j = some r) : ∃ i r0, renId m i = some j ∧ rt i = some r0 ∧ r = r0.ren m := by
  unfold renRt at h
  split at h
  · rename_i i hi
    rw [Option.map_eq_some_iff] at h
    obtain ⟨r0, h1, h2⟩ := h
    exact ⟨i, r0, (invId_some hi).2, h1, h2.symm⟩
  · cases h
theorem ren_rel (old : RtR w home hd rt F0) (hin : ∀ i, (rt i).isSome = true → i ∈ m) : RtR w (renHome m home) (renHd m hd) (renRt m rt) F0 := by
  refine ⟨fun l r hr => ?_, fun b l p hb => ?_, fun l r hr => ?_⟩
  · cases l with
    | x => simp only [ext, Option.some.injEq] at hr; subst hr; exact Or.inl rfl
    | t k => cases hr
    | r j =>
      obtain ⟨i, r0, h1, h2, rfl⟩ := renRt_inv (show renRt m rt j = some r from hr)
      have hold := old.root (.r i) r0 h2
      cases r0 with
      | gone => trivial
      | arr d t c =>
        have hold : CR w home (arrTg d (.r i)) c (hd (.r i)) := hold
        show CR w _ (arrTg d (.r j)) c (renHd m hd (.r j))
        rw [renHd_at h1]
        refine hold.move (fun q b _ hl => ⟨rfl, ?_⟩) ?_
        · rcases arrTg_exts d (.r i) q with h3 | h3
          · have h4 : ((arrTg d (.r j)).exts q).lab = none := by
              cases d with
              | true => simp [arrTg, Tg.exts_own, Tg.lab] at h3
              | false => cases q with
                | nil => simp [arrTg, Tg.exts, Tg.lab] at h3
                | cons x q => simp [arrTg, Tg.exts_top, Tg.lab]
            rw [h3] at hl; rw [h4]; exact renHome_none hl
          · have h4 : ((arrTg d (.r j)).exts q).lab = some (.r j, q) := by
              cases d with
              | true => simp [arrTg, Tg.exts_own, Tg.lab]
              | false => cases q with
                | nil => simp [arrTg, Tg.exts, Tg.lab]
                | cons x q => simp [arrTg, Tg.exts_top, Tg.lab] at h3
            rw [h3] at hl; rw [h4]; exact renHome_r hl h1
        · cases d with
          | true => exact Ok.own _ _ _
          | false => exact Ok.top _ _
      | box xs =>
        obtain ⟨b, cur, e1, k1, k2, k3, k4⟩ := RR.box hold
        exact Or.inr ⟨b, cur, e1, by rw [renHd_at h1]; exact k1, renHome_r k2 h1, k3, k4.map (fun x y _ h => SVR.ren old h)⟩
  · cases hh : home b with
    | none => rw [renHome_none hh] at hb; cases hb
    | some y =>
      obtain ⟨l0, q0⟩ := y
      obtain ⟨h3, r, h4, h5⟩ := old.lab b l0 q0 hh
      refine ⟨h3, ?_⟩
      cases l0 with
      | x =>
        rw [renHome_x hh] at hb; injection hb with hb; injection hb with e1 e2; subst e1
        exact ⟨.box [], rfl, by simp⟩
      | t k => cases h4
      | r i =>
        have h4' : rt i = some r := h4
        obtain ⟨j, hj⟩ := renId_some (hin i (by rw [h4']; rfl))
        rw [renHome_r hh hj] at hb; injection hb with hb; injection hb with e1 e2; subst e1
        refine ⟨r.ren m, by show renRt m rt j = _; rw [renRt_at hj, h4']; rfl, ?_⟩
        cases r with
        | gone => exact absurd rfl h5
        | arr d t c => simp [Root.ren]
        | box xs => simp [Root.ren]
  · cases l with
    | x => simp only [ext, Option.some.injEq] at hr; subst hr; intro i hi; simp [Root.ids] at hi
    | t k => cases hr
    | r j =>
      obtain ⟨i, r0, h1, h2, rfl⟩ := renRt_inv (show renRt m rt j = some r from hr)
      intro k hk
      cases r0 with
      | gone => cases hk
      | arr d t c => cases hk
      | box xs =>
        simp only [Root.ren, Root.ids, List.mem_flatMap, List.mem_map] at hk
        obtain ⟨y, ⟨x, hx, rfl⟩, h3⟩ := hk
        exact SV.ren_ids (fun i' hi' => old.wf (.r i) _ h2 i' (by simp only [Root.ids, List.mem_flatMap]; exact ⟨x, hx, hi'⟩)) k h3
theorem ren_grow : Grow w home hd rt w (renHome m home) (renHd m hd) (renRt m rt) := by
  refine ⟨rfl, rfl, rfl, Nat.le_refl _, fun b _ h => ⟨rfl, renHome_none h⟩, fun b q _ h => ⟨rfl, renHome_x h⟩, fun j hj r hr hne => ?_⟩
  obtain ⟨i, r0, h1, h2, rfl⟩ := renRt_inv hr
  have hij : i = j := by
    obtain ⟨_, a1, a2⟩ := renId_mem h1
    by_cases hi : i < 64000
    · exact (a1 hi).symm
    · obtain ⟨k, _, e⟩ := a2 hi; omega
  subst hij
  refine ⟨renHd_at h1, r0, h2, fun e => ?_⟩
  subst e
  exact hne rfl
theorem asl_ren {β : Type} (g : Nat → Option β) (h : Nat → β → Root) (f : Nat → Nat) (m : List Nat) (j : Nat) (hinj : ∀ i i', i ∈ m → i' ∈ m → f i = f i' → i = i') :
    (∀ i, i ∈ m → f i = j → asl (m.filterMap (fun i => (g i).map (fun r => (f i, h i r)))) j = (g i).map (h i)) ∧ ((∀ i, i ∈ m → f i ≠ j) → asl (m.filterMap (fun i => (g i).map (fun r => (f i, h i r)))) j = none) := by
  induction m with
  | nil => exact ⟨fun i hi => (by cases hi), fun _ => rfl⟩
  | cons x m ih =>
    obtain ⟨ih1, ih2⟩ := ih (fun i i' hi hi' e => hinj i i' (List.mem_cons_of_mem _ hi) (List.mem_cons_of_mem _ hi') e)
    rw [List.filterMap_cons]
    cases hg : g x with
    | none =>
      simp only [Option.map_none]
      refine ⟨fun i hi hf => ?_, fun hn => ih2 (fun i hi => hn i (List.mem_cons_of_mem _ hi))⟩
      by_cases him : i ∈ m
      · exact ih1 i him hf
      · have hix : i = x := by
          rcases List.mem_cons.1 hi with e | e
          · exact e
          · exact absurd e him
        subst hix
        rw [hg, Option.map_none]
        refine ih2 (fun i' hi' e => ?_)
        have := hinj i i' (List.mem_cons_self ..) (List.mem_cons_of_mem _ hi') (by rw [hf, e])
        subst this
        exact him hi'
    | some r =>
      simp only [Option.map_some]
      refine ⟨fun i hi hf => ?_, fun hn => ?_⟩
      · simp only [asl, lookup_cons]
        by_cases hfx : f x = j
        · have : i = x := hinj i x hi (List.mem_cons_self ..) (by rw [hf, hfx])
          subst this
          rw [if_pos hfx.symm, hg]; rfl
        · rw [if_neg (fun e => hfx e.symm)]
          have him : i ∈ m := by
            rcases List.mem_cons.1 hi with e | e
            · subst e; exact absurd hf hfx
            · exact e
          exact ih1 i him hf
      · simp only [asl, lookup_cons]
        rw [if_neg (fun e => hn x (List.mem_cons_self ..) e.symm)]
        exact ih2 (fun i hi => hn i (List.mem_cons_of_mem _ hi))
theorem canon_rt (fr : Fr) (live : List Nat) : (fr.canon live).rt = renRt (fr.meets live) (keepRt fr.rt (fr.meets live)) := by
  funext j
  have hinj : ∀ i i', i ∈ fr.meets live → i' ∈ fr.meets live → (renId (fr.meets live) i).getD 0 = (renId (fr.meets live) i').getD 0 → i = i' := by
    intro i i' hi hi' e
    obtain ⟨k, hk⟩ := renId_some hi
    obtain ⟨k', hk'⟩ := renId_some hi'
    rw [hk, hk', Option.getD_some, Option.getD_some] at e
    subst e
    exact renId_inj hk hk'
  obtain ⟨h1, h2⟩ := asl_ren (fun i => (cut fr.rt (fr.meets live) i).bind (·.tidy (cut fr.rt (fr.meets live)))) (fun _ r => r.ren (fr.meets live)) (fun i => (renId (fr.meets live) i).getD 0) (fr.meets live) j hinj
  show asl _ j = _
  cases hi : invId (fr.meets live) j with
  | none =>
    have e : renRt (fr.meets live) (keepRt fr.rt (fr.meets live)) j = none := by simp only [renRt, hi]
    rw [e]
    refine h2 (fun i him hf => ?_)
    obtain ⟨k, hk⟩ := renId_some him
    rw [hk, Option.getD_some] at hf
    subst hf
    rw [invId_ren hk] at hi; cases hi
  | some i =>
    obtain ⟨g1, g2⟩ := invId_some hi
    rw [renRt_at g2]
    have := h1 i g1 (by rw [g2]; rfl)
    refine this.trans ?_
    have e : cut fr.rt (fr.meets live) i = fr.rt i := by simp [cut, g1]
    simp only [e, keepRt, g1, if_true]
theorem canon_sl (fr : Fr) (live : List Nat) (t : Nat) : (fr.canon live).sl t = ((fr.keep live).sl t).map (·.ren (fr.meets live)) := by
  rw [keep_sl]
  have := asl_filterMap (fun s => (fr.sl s).map (fun a => (a.tidy (cut fr.rt (fr.meets live))).ren (fr.meets live))) live t
  have e : (fr.canon live).sl t = asl (live.filterMap (fun s => ((fr.sl s).map (fun a => (a.tidy (cut fr.rt (fr.meets live))).ren (fr.meets live))).map (fun r => (s, r)))) t := by
    simp only [Fr.canon]
    congr 2
    funext s
    cases fr.sl s <;> rfl
  rw [e, this]
  split
  · cases fr.sl t <;> rfl
  · rfl
theorem canon_ok (h : FrR ids w home hd N fr a) (live : List Nat) : ∃ home' hd', Grow w home hd fr.rt w home' hd' (fr.canon live).rt ∧ FrR ids w home' hd' N (fr.canon live) a := by
  have hk := keep_ok h live
  have hin : ∀ i, ((fr.keep live).rt i).isSome = true → i ∈ fr.meets live := by
    intro i hi
    rw [keep_rt] at hi
    simp only [keepRt] at hi
    split at hi
    · assumption
    · cases hi
  refine ⟨renHome (fr.meets live) (keepHome home (keepRt fr.rt (fr.meets live))), renHd (fr.meets live) hd, ?_, ?_⟩
  · rw [canon_rt]
    exact (keep_grow (fr.meets live)).trans ren_grow
  · have hrt : (fr.canon live).rt = renRt (fr.meets live) (fr.keep live).rt := by rw [canon_rt, keep_rt]
    refine ⟨by rw [hrt]; exact ren_rel hk.rel hin, fun t av ht => ?_, h.sz, h.nd⟩
    rw [canon_sl, Option.map_eq_some_iff] at ht
    obtain ⟨av0, h1, rfl⟩ := ht
    obtain ⟨v, h2, h3, h4⟩ := hk.sl t av0 h1
    rw [hrt]
    exact ⟨v, h2, AVR.ren hk.rel h3, AV.ren_ids h4⟩
end
end Go.Proofs.YtecmolmlojehgaaGreat.T
namespace Go.Proofs.YtecmolmlojehgaaGreat.T
open Go

def Sub (rt rt' : Rts) : Prop := ∀ i r, rt i = some r → rt' i = some r
section
variable {rt rt' rt1 : Rts} {call : Nat → List Arg → Option Res} {ev : Ev} {tp : Nat → Option (List A1)} {dst : Nat} {av : AV}
theorem rowAt_mono (hs : Sub rt rt') {id : Nat} {p : Path} {x : Bool × C} (h : rowAt rt id p = some x) : rowAt rt' id p = some x := by
  unfold rowAt at h ⊢
  split at h
  · rename_i d t c hr
    rw [hs id _ hr]
    exact h
  · cases h
theorem cont_mono (hs : Sub rt rt') {x : SV} {c : C} (h : cont rt x = some c) : cont rt' x = some c := by
  cases x with
  | c c0 => cases c0 <;> exact h
  | nil k => exact h
  | ref id p off len =>
    simp only [cont] at h ⊢
    split at h
    · rename_i d c' hr
      rw [rowAt_mono hs hr]
      exact h
    · cases h
  | pb id off => cases h
  | pe id p i off => cases h
  | pm cs off => cases h
theorem load_mono (hs : Sub rt rt') {n : Nat} {x : SV} {ys : List SV} (h : load rt n x = some ys) : load rt' n x = some ys := by
  cases x with
  | pb id off =>
    simp only [load] at h ⊢
    split at h
    · rename_i xs hr; rw [hs id _ hr]; exact h
    · cases h
  | pe id p i off =>
    simp only [load] at h ⊢
    split at h
    · rename_i d c' hr; rw [rowAt_mono hs hr]; exact h
    · cases h
  | pm cs off => exact h
  | c c => cases h
  | nil k => cases h
  | ref id p off len => cases h
theorem index_mono (hs : Sub rt rt') {sz : Nat} {x y : SV} {i : Int} (h : index rt sz x i = some y) : index rt' sz x i = some y := by
  cases x with
  | c c => exact h
  | ref id p off len =>
    simp only [index] at h ⊢
    split at h
    · rename_i d c' hr; rw [rowAt_mono hs hr]; exact h
    · cases h
  | nil k => cases h
  | pb id off => cases h
  | pe id p i off => cases h
  | pm cs off => cases h
theorem slice_mono (hs : Sub rt rt') {sz : Nat} {x y : SV} {l u : Option Int} (h : slice rt sz x l u = some y) : slice rt' sz x l u = some y := by
  cases x with
  | c c => cases c <;> exact h
  | nil k => exact h
  | ref id p off len =>
    simp only [slice] at h ⊢
    split at h
    · rename_i d c' hr; rw [rowAt_mono hs hr]; exact h
    · cases h
  | pb id off => cases h
  | pe id p i off => cases h
  | pm cs off => cases h
theorem map_rt {α : Type} {o : Option α} {f : α → AV} {rt rt1 rt' : Rts} {av : AV} (h : o.map (fun a => (f a, rt)) = some (av, rt1)) : rt1 = rt ∧ o.map (fun a => (f a, rt')) = some (av, rt') := by
  rw [Option.map_eq_some_iff] at h
  obtain ⟨a, rfl, h2⟩ := h
  injection h2 with h2 h3
  exact ⟨h3.symm, by rw [Option.map_some, h2]⟩
theorem act_mono {p : PO} (hq : p.quiet = true) (hs : Sub rt rt') (h : act call ev tp rt dst p = some (av, rt1)) : rt1 = rt ∧ act call ev tp rt' dst p = some (av, rt') := by
  cases p with
  | ld agg n x =>
    simp only [act] at h ⊢
    split at h
    · split at h
      · rename_i xs hl
        rw [load_mono hs hl]
        exact map_rt h
      · cases h
    · cases h
  | b2s x =>
    simp only [act] at h ⊢
    split at h
    · split at h
      · rename_i es sp hc
        rw [cont_mono hs hc]
        exact map_rt h
      · cases h
    · cases h
  | ia sz x i =>
    simp only [act] at h ⊢
    split at h
    · rw [Option.map_eq_some_iff] at h
      obtain ⟨y, h1, h2⟩ := h
      injection h2 with h2 h3
      rw [index_mono hs h1]
      exact ⟨h3.symm, by rw [Option.map_some, h2]⟩
    · cases h
  | slc sz x lo hi =>
    simp only [act] at h ⊢
    split at h
    · rw [Option.map_eq_some_iff] at h
      obtain ⟨y, h1, h2⟩ := h
      injection h2 with h2 h3
      rw [slice_mono hs h1]
      exact ⟨h3.symm, by rw [Option.map_some, h2]⟩
    · cases h
  | mv x => simp only [act] at h ⊢; exact map_rt h
  | mvt t => simp only [act] at h ⊢; exact map_rt h
  | conv k x => simp only [act] at h ⊢; exact map_rt h
  | mkf f caps => simp only [act] at h ⊢; exact map_rt h
  | _ =>
    first
      | (cases hq; done)
      | (simp only [act] at h ⊢
         repeat' split at h
         all_goals first
           | (cases h; done)
           | exact map_rt h
           | (injection h with h; injection h with h2 h3; subst h2 h3; exact ⟨rfl, by simp_all⟩)
           | (exact ⟨(map_rt (rt' := rt') h).1, by have := (map_rt (rt' := rt') h).2; simp_all⟩))
end
end Go.Proofs.YtecmolmlojehgaaGreat.T
namespace Go.Proofs.YtecmolmlojehgaaGreat.T
open Go

/-- What is present and not named stays. -/
def Keeps (l : List Nat) (rt rt1 : Rts) : Prop := ∀ i r, rt i = some r → i ∉ l → rt1 i = some r
section
variable {rt rt' rt1 rt2 : Rts} {call : Nat → List Arg → Option Res} {ev : Ev} {tp : Nat → Option (List A1)} {dst : Nat} {av : AV}
theorem Keeps.refl (l : List Nat) : Keeps l rt rt := fun _ _ h _ => h
theorem Keeps.trans {l l' : List Nat} (h : Keeps l rt rt1) (k : Keeps l' rt1 rt2) : Keeps (l ++ l') rt rt2 := fun i r hr hn => k i r (h i r hr (fun e => hn (List.mem_append_left _ e))) (fun e => hn (List.mem_append_right _ e))
theorem Keeps.mono {l l' : List Nat} (h : Keeps l rt rt1) (hl : ∀ i ∈ l, i ∈ l') : Keeps l' rt rt1 := fun i r hr hn => h i r hr (fun e => hn (hl i e))
theorem Keeps.upd (i : Nat) (r : Root) : Keeps [i] rt (upd rt i r) := fun j s hs hn => by
  have : j ≠ i := fun e => hn (by simp [e])
  rw [updF_ne _ _ this]; exact hs
theorem newRt_keeps {id : Nat} {r : Root} (h : newRt rt id r = some rt1) : Keeps [] rt rt1 := by
  obtain ⟨h1, _, _, rfl⟩ := newRt_spec h
  intro i s hs _
  have : i ≠ id := fun e => by subst e; rw [h1] at hs; cases hs
  rw [updF_ne _ _ this]; exact hs
theorem take_keeps {x : SV} {o : Ow} {c : C} (h : take rt x = some (o, c, rt1)) : Keeps x.ids rt rt1 := by
  cases x with
  | c c => simp only [take, Option.some.injEq, Prod.mk.injEq] at h; obtain ⟨_, _, rfl⟩ := h; exact Keeps.refl _
  | nil k => simp only [take, Option.some.injEq, Prod.mk.injEq] at h; obtain ⟨_, _, rfl⟩ := h; exact Keeps.refl _
  | pb id off => cases h
  | pe id p i off => cases h
  | pm cs off => cases h
  | ref id p off len =>
    cases p with
    | nil =>
      simp only [take] at h
      split at h
      · split at h
        · split at h
          · simp only [Option.some.injEq, Prod.mk.injEq] at h; obtain ⟨_, _, rfl⟩ := h; exact Keeps.upd _ _
          · cases h
        · cases h
      · cases h
    | cons y p =>
      simp only [take] at h
      split at h
      · split at h
        · split at h
          · split at h
            · simp only [Option.some.injEq, Prod.mk.injEq] at h; obtain ⟨_, _, rfl⟩ := h; exact Keeps.upd _ _
            · cases h
          · cases h
        · cases h
      · cases h
theorem takes_keeps : ∀ {xs : List SV} {rt rt1 : Rts} {l : List (Ow × C)}, takes rt xs = some (l, rt1) → Keeps (xs.flatMap (·.ids)) rt rt1
  | [], rt, rt1, l, h => by simp only [takes, Option.some.injEq, Prod.mk.injEq] at h; obtain ⟨_, rfl⟩ := h; exact Keeps.refl _
  | x :: xs, rt, rt1, l, h => by
    simp only [takes] at h
    split at h
    · rename_i o c rtm hm
      split at h
      · rename_i l' rtn hn
        simp only [Option.some.injEq, Prod.mk.injEq] at h
        obtain ⟨_, rfl⟩ := h
        exact ((take_keeps hm).trans (takes_keeps hn)).mono (fun i hi => by simpa using hi)
      · cases h
    · cases h
theorem idsS_eq {x : Opd} {s : SV} (h : evS ev x = some s) : idsS ev x = s.ids := by simp [idsS, h]
theorem idsC_eq {x : Opd} {xs : List SV} (h : evC ev x = some xs) : idsC ev x = xs.flatMap (·.ids) := by simp [idsC, h]
theorem store_keeps {xs : List SV} {p : SV} (h : store rt xs p = some rt1) : Keeps (p.ids ++ xs.flatMap (·.ids)) rt rt1 := by
  cases p with
  | pb id off =>
    simp only [store] at h
    split at h
    · split at h
      · split at h
        · injection h with h; subst h; exact (Keeps.upd _ _).mono (fun i hi => List.mem_append_left _ hi)
        · cases h
      · cases h
    · cases h
  | pe id p i off =>
    simp only [store] at h
    split at h
    · rename_i l rtm ht
      split at h
      · split at h
        · split at h
          · split at h
            · injection h with h; subst h
              exact ((takes_keeps ht).trans (Keeps.upd _ _)).mono (fun i hi => by
                rcases List.mem_append.1 hi with hi | hi
                · exact List.mem_append_right _ hi
                · exact List.mem_append_left _ hi)
            · cases h
          · cases h
        · cases h
      · cases h
    · cases h
  | c c => cases h
  | nil k => cases h
  | ref id p off len => cases h
  | pm cs off => cases h
theorem takesL_keeps {xs : List (List SV)} {l : List (List (Ow × C))} (h : takesL rt xs = some (l, rt1)) : Keeps (xs.flatten.flatMap (·.ids)) rt rt1 := takes_keeps (takesL_flat h).1
theorem source_keeps {k : K} {y : SV} {d : Bool} {c : C} (h : source rt k y = some (d, c, rt1)) : Keeps y.ids rt rt1 := by
  cases k with
  | fl sz =>
    simp only [source] at h
    split at h
    · split at h
      · simp only [Option.some.injEq, Prod.mk.injEq] at h; obtain ⟨_, _, rfl⟩ := h; exact Keeps.refl _
      · cases h
    · cases h
  | sl sz =>
    simp only [source] at h
    split at h
    · rename_i ht
      split at h
      · simp only [Option.some.injEq, Prod.mk.injEq] at h; obtain ⟨_, _, rfl⟩ := h; exact take_keeps (takeSl_spec ht).1
      · cases h
    · cases h
theorem append_keeps {id : Nat} {k : K} {bytes : Nat} {x y r : SV} (h : append rt id k bytes x y = some (r, rt1)) : Keeps (x.ids ++ y.ids) rt rt1 := by
  unfold append at h
  split at h
  · rename_i hs
    split at h
    · rename_i ht
      have h12 := (source_keeps hs).trans (take_keeps (takeSl_spec ht).1)
      have fin : ∀ {rt3 : Rts} {r0 : Root}, newRt _ id r0 = some rt3 → Keeps (x.ids ++ y.ids) rt rt3 := fun h3 => (h12.trans (newRt_keeps h3)).mono (fun i hi => by
        simp only [List.mem_append, List.not_mem_nil, or_false] at hi ⊢
        exact hi.symm)
      repeat' split at h
      all_goals first
        | (cases h; done)
        | (rw [Option.map_eq_some_iff] at h
           obtain ⟨rt3, h1, h2⟩ := h
           injection h2 with _ h2
           subst h2
           exact fin h1)
    · cases h
  · cases h
theorem cellRes_keeps {id : Nat} {x : RC} {y : SV} (h : cellRes rt id x = some (y, rt1)) : Keeps [] rt rt1 := by
  unfold cellRes at h
  split at h
  · simp only [Option.some.injEq, Prod.mk.injEq] at h; obtain ⟨_, rfl⟩ := h; exact Keeps.refl _
  · simp only [Option.some.injEq, Prod.mk.injEq] at h; obtain ⟨_, rfl⟩ := h; exact Keeps.refl _
  · split at h
    · rw [Option.map_eq_some_iff] at h
      obtain ⟨rt3, h1, h2⟩ := h
      injection h2 with _ h2
      subst h2
      exact newRt_keeps h1
    · cases h
theorem cellsRes_keeps : ∀ {xs : List RC} {rt rt1 : Rts} {id : Nat} {ys : List SV}, cellsRes rt id xs = some (ys, rt1) → Keeps [] rt rt1
  | [], rt, rt1, id, ys, h => by simp only [cellsRes, Option.some.injEq, Prod.mk.injEq] at h; obtain ⟨_, rfl⟩ := h; exact Keeps.refl _
  | x :: xs, rt, rt1, id, ys, h => by
    simp only [cellsRes] at h
    split at h
    · rename_i h1
      split at h
      · rename_i h2
        simp only [Option.some.injEq, Prod.mk.injEq] at h
        obtain ⟨_, rfl⟩ := h
        exact (cellRes_keeps h1).trans (cellsRes_keeps h2)
      · cases h
    · cases h
theorem back_keeps {ls : List Loc} {ms : List (Option Root)} (h : back rt ls ms = some rt1) (hd : Dist ls) : Keeps (ls.flatMap (fun l => match l with | some (id, _) => [id] | none => [])) rt rt1 := by
  intro i r hr hn
  rw [(back_spec (k := 0) h hd).1 i (fun j p e => hn (by
    rw [List.mem_flatMap]
    exact ⟨_, List.mem_of_getElem? e, by simp⟩))]
  exact hr
/-- Where what is handed over lies. -/
theorem argOf_loc {q : Bool × Opd} {g : Arg} {id : Nat} {p : Path} (h : argOf ev rt q = some (g, some (id, p))) : q.1 = true ∧ ∃ a, ev q.2 = some a ∧ id ∈ a.ids := by
  obtain ⟨a, ha, hcase⟩ := argOf_spec h
  rcases hcase with ⟨_, a', _, e⟩ | ⟨hq, id', p2, len, d, c', sz, n, tot, rfl, _, _, _, _, e⟩ | ⟨hq, id', xs, rfl, _, _, e⟩
  · injection e with _ e; cases e
  · injection e with _ e; injection e with e; injection e with e _; subst e
    exact ⟨hq, _, ha, by simp [A1.ids, SV.ids]⟩
  · injection e with _ e; injection e with e; injection e with e _; subst e
    exact ⟨hq, _, ha, by simp [A1.ids, SV.ids]⟩
theorem dist_of {qs : List (Bool × Opd)} {l : List (Arg × Loc)} (hl : mapO (argOf ev rt) qs = some l) (hap : apartB ev rt qs (l.map (·.2)) = true) : Dist (l.map (·.2)) := by
  obtain ⟨m1, m2⟩ := mapO_spec hl
  have hspec := apartB_spec hap (by rw [m1, List.length_map])
  intro i j id p p' h1 h2
  by_cases hij : i = j
  · subst hij
    rw [h1] at h2
    injection h2 with h2; injection h2 with h2; injection h2 with _ h2
    exact ⟨rfl, h2⟩
  · exfalso
    rw [List.getElem?_map, Option.map_eq_some_iff] at h2
    obtain ⟨⟨g, x⟩, k1, k2⟩ := h2
    simp only at k2
    subst k2
    have hlt : j < qs.length := by rw [m1]; exact (List.getElem?_eq_some_iff.1 k1).1
    obtain ⟨_, a, ha, hid⟩ := argOf_loc (m2 j _ _ (List.getElem?_eq_getElem hlt) k1)
    exact (argHas_spec (hspec i j id p _ hij h1 (List.getElem?_eq_getElem hlt)) ha id hid).1 rfl
theorem callR_keeps {f : Nat} {qs : List (Bool × Opd)} (h : callR call ev rt dst f qs = some (av, rt1)) : Keeps (qs.flatMap (fun q => if q.1 then (match ev q.2 with | some a => a.ids | none => []) else [])) rt rt1 := by
  unfold callR at h
  split at h
  · rename_i l hl
    split at h
    · split at h
      · rename_i hc
        simp only [Bool.and_eq_true] at hc
        split at h
        · rename_i rtb hb
          rw [Option.map_eq_some_iff] at h
          obtain ⟨⟨as, rt2⟩, h1, h2⟩ := h
          injection h2 with _ h2
          simp only at h2
          subst h2
          obtain ⟨ys, e1, _⟩ := valsRes_cells h1
          refine ((back_keeps hb (dist_of hl hc.1.2)).trans (cellsRes_keeps e1)).mono (fun i hi => ?_)
          simp only [List.append_nil, List.mem_flatMap, List.mem_map] at hi
          obtain ⟨x, ⟨⟨g, y⟩, hm, rfl⟩, hi⟩ := hi
          cases y with
          | none => cases hi
          | some z =>
            obtain ⟨id, p⟩ := z
            simp only [List.mem_singleton] at hi
            subst hi
            obtain ⟨m1, m2⟩ := mapO_spec hl
            obtain ⟨j, hj⟩ := List.getElem?_of_mem hm
            have hlt : j < qs.length := by rw [m1]; exact (List.getElem?_eq_some_iff.1 hj).1
            obtain ⟨hq, a, ha, hid⟩ := argOf_loc (m2 j _ _ (List.getElem?_eq_getElem hlt) hj)
            rw [List.mem_flatMap]
            exact ⟨qs[j], List.getElem_mem hlt, by rw [hq, ha]; exact hid⟩
        · cases h
      · cases h
    · cases h
  · cases h
theorem map_newRt {id : Nat} {r : Root} {f : Rts → AV} (h : (newRt rt id r).map (fun x => (f x, x)) = some (av, rt1)) : Keeps [] rt rt1 := by
  rw [Option.map_eq_some_iff] at h
  obtain ⟨rt3, h1, h2⟩ := h
  injection h2 with _ h2
  subst h2
  exact newRt_keeps h1
theorem act_local {p : PO} (hv : ∀ f qs, p ≠ .callv f qs) (h : act call ev tp rt dst p = some (av, rt1)) : Keeps (touch ev p) rt rt1 := by
  by_cases hq : p.quiet = true
  · rw [(act_mono hq (fun _ _ h => h) h).1]; exact Keeps.refl _
  · cases p with
    | mkn k => simp only [act] at h; exact map_newRt (f := fun _ => _) h
    | box x =>
      simp only [act] at h
      split at h
      · exact map_newRt (f := fun _ => _) h
      · cases h
    | alloc z => simp only [act] at h; exact map_newRt (f := fun _ => _) h
    | bs k parts =>
      simp only [act] at h
      split at h
      · rename_i l hl
        split at h
        · rename_i es rtm ht
          split at h
          · have h1 := map_newRt (f := fun _ => _) h
            refine ((takesL_keeps ht).trans h1).mono (fun i hi => ?_)
            simp only [List.append_nil, List.mem_flatMap, List.mem_flatten] at hi
            obtain ⟨x, ⟨y, hy, hxy⟩, hi⟩ := hi
            obtain ⟨m1, m2⟩ := mapO_spec hl
            obtain ⟨j, hj⟩ := List.getElem?_of_mem hy
            have hlt : j < parts.length := by rw [m1]; exact (List.getElem?_eq_some_iff.1 hj).1
            simp only [touch, List.mem_flatMap]
            exact ⟨parts[j], List.getElem_mem hlt, by rw [idsC_eq (m2 j _ y (List.getElem?_eq_getElem hlt) hj), List.mem_flatMap]; exact ⟨x, hxy, hi⟩⟩
          · cases h
        · cases h
      · cases h
    | st n x y =>
      simp only [act] at h
      split at h
      · rename_i q xs h1 h2
        split at h
        · rw [Option.map_eq_some_iff] at h
          obtain ⟨rt3, h3, h4⟩ := h
          injection h4 with _ h4
          subst h4
          simp only [touch, idsS_eq h1, idsC_eq h2]
          exact store_keeps h3
        · cases h
      · cases h
    | app k bytes x y =>
      simp only [act] at h
      split at h
      · rename_i q r h1 h2
        rw [Option.map_eq_some_iff] at h
        obtain ⟨⟨z, rt3⟩, h3, h4⟩ := h
        injection h4 with _ h4
        simp only at h4
        subst h4
        simp only [touch, idsS_eq h1, idsS_eq h2]
        exact append_keeps h3
      · cases h
    | call f qs => exact callR_keeps h
    | callv f qs => exact absurd rfl (hv f qs)
    | mks k bytes zero len cap =>
      simp only [act] at h
      repeat' split at h
      all_goals first
        | (cases h; done)
        | exact map_newRt (f := fun _ => _) h
    | _ => exact absurd rfl hq
end
end Go.Proofs.YtecmolmlojehgaaGreat.T
namespace Go.Proofs.YtecmolmlojehgaaGreat.T
open Go
/-- rt' is rt with some roots more. -/
def Ext (D : Nat → Prop) (rt rt' : Rts) : Prop := (∀ i, D i → rt i = none) ∧ ∀ i, ¬ D i → rt' i = rt i
/-- What was done to rt was done to rt'. -/
def ExtTo (D : Nat → Prop) (rt rt' rt1 rt1' : Rts) : Prop := Ext D rt1 rt1' ∧ (∀ i, D i → rt1' i = rt' i) ∧ ∀ i, (rt i).isSome = true → (rt1 i).isSome = true
section
variable {D : Nat → Prop} {rt rt' rt1 rt2 rt1' rt2' : Rts} {call : Nat → List Arg → Option Res} {ev : Ev} {tp : Nat → Option (List A1)} {dst : Nat} {av : AV}
theorem Ext.at (h : Ext D rt rt') {i : Nat} {r : Root} (hi : rt i = some r) : ¬ D i ∧ rt' i = some r := by
  have : ¬ D i := fun e => by rw [h.1 i e] at hi; cases hi
  exact ⟨this, (h.2 i this).trans hi⟩
theorem Ext.sub (h : Ext D rt rt') : Sub rt rt' := fun _ _ hi => (h.at hi).2
theorem Ext.is (h : Ext D rt rt') {i : Nat} (hi : (rt i).isSome = true) : (rt' i).isSome = true := by
  obtain ⟨r, hr⟩ := Option.isSome_iff_exists.1 hi
  rw [(h.at hr).2]; rfl
theorem ExtTo.refl (h : Ext D rt rt') : ExtTo D rt rt' rt rt' := ⟨h, fun _ _ => rfl, fun _ h => h⟩
theorem ExtTo.trans (h : ExtTo D rt rt' rt1 rt1') (k : ExtTo D rt1 rt1' rt2 rt2') : ExtTo D rt rt' rt2 rt2' := ⟨k.1, fun i hi => (k.2.1 i hi).trans (h.2.1 i hi), fun i hi => k.2.2 i (h.2.2 i hi)⟩
theorem ExtTo.upd (h : Ext D rt rt') {i : Nat} (hi : ¬ D i) (r : Root) : ExtTo D rt rt' (upd rt i r) (upd rt' i r) := by
  refine ⟨⟨fun j hj => ?_, fun j hj => ?_⟩, fun j hj => ?_, fun j hj => ?_⟩
  · have : j ≠ i := fun e => hi (e ▸ hj)
    rw [updF_ne _ _ this]; exact h.1 j hj
  · by_cases e : j = i
    · subst e; rw [updF_same, updF_same]
    · rw [updF_ne _ _ e, updF_ne _ _ e]; exact h.2 j hj
  · have : j ≠ i := fun e => hi (e ▸ hj)
    exact updF_ne _ _ this
  · by_cases e : j = i
    · subst e; rw [updF_same]; rfl
    · rw [updF_ne _ _ e]; exact hj
theorem take_ext (h : Ext D rt rt') {x : SV} {o : Ow} {c : C} (ht : take rt x = some (o, c, rt1)) : ∃ rt1', take rt' x = some (o, c, rt1') ∧ ExtTo D rt rt' rt1 rt1' := by
  cases x with
  | c c => simp only [take, Option.some.injEq, Prod.mk.injEq] at ht; obtain ⟨rfl, rfl, rfl⟩ := ht; exact ⟨rt', rfl, .refl h⟩
  | nil k => simp only [take, Option.some.injEq, Prod.mk.injEq] at ht; obtain ⟨rfl, rfl, rfl⟩ := ht; exact ⟨rt', rfl, .refl h⟩
  | pb id off => cases ht
  | pe id p i off => cases ht
  | pm cs off => cases ht
  | ref id p off len =>
    cases p with
    | nil =>
      simp only [take] at ht ⊢
      split at ht
      · rename_i d t c0 hr
        obtain ⟨hn, hr'⟩ := h.at hr
        split at ht
        · rename_i a b tot hs
          split at ht
          · rename_i hc
            simp only [Option.some.injEq, Prod.mk.injEq] at ht
            obtain ⟨rfl, rfl, rfl⟩ := ht
            exact ⟨_, by simp only [hr', hs, if_pos hc], .upd h hn _⟩
          · cases ht
        · cases ht
      · cases ht
    | cons y p =>
      simp only [take] at ht ⊢
      split at ht
      · rename_i c0 hr
        obtain ⟨hn, hr'⟩ := h.at hr
        split at ht
        · rename_i c1 hg
          split at ht
          · rename_i a b tot hs
            split at ht
            · rename_i hc
              simp only [Option.some.injEq, Prod.mk.injEq] at ht
              obtain ⟨rfl, rfl, rfl⟩ := ht
              exact ⟨_, by simp only [hr', hg, hs, if_pos hc], .upd h hn _⟩
            · cases ht
          · cases ht
        · cases ht
      · cases ht
theorem takes_ext : ∀ {xs : List SV} {rt rt' rt1 : Rts} {l : List (Ow × C)}, Ext D rt rt' → takes rt xs = some (l, rt1) → ∃ rt1', takes rt' xs = some (l, rt1') ∧ ExtTo D rt rt' rt1 rt1'
  | [], rt, rt', rt1, l, h, ht => by simp only [takes, Option.some.injEq, Prod.mk.injEq] at ht; obtain ⟨rfl, rfl⟩ := ht; exact ⟨rt', rfl, .refl h⟩
  | x :: xs, rt, rt', rt1, l, h, ht => by
    simp only [takes] at ht ⊢
    split at ht
    · rename_i o c rta ha
      obtain ⟨ra, h1, h2⟩ := take_ext h ha
      split at ht
      · rename_i l2 rtb hb
        obtain ⟨rb, h3, h4⟩ := takes_ext h2.1 hb
        simp only [Option.some.injEq, Prod.mk.injEq] at ht
        obtain ⟨rfl, rfl⟩ := ht
        exact ⟨rb, by simp only [h1, h3], h2.trans h4⟩
      · cases ht
    · cases ht
theorem takesL_ext : ∀ {xs : List (List SV)} {rt rt' rt1 : Rts} {l : List (List (Ow × C))}, Ext D rt rt' → takesL rt xs = some (l, rt1) → ∃ rt1', takesL rt' xs = some (l, rt1') ∧ ExtTo D rt rt' rt1 rt1'
  | [], rt, rt', rt1, l, h, ht => by simp only [takesL, Option.some.injEq, Prod.mk.injEq] at ht; obtain ⟨rfl, rfl⟩ := ht; exact ⟨rt', rfl, .refl h⟩
  | x :: xs, rt, rt', rt1, l, h, ht => by
    simp only [takesL] at ht ⊢
    split at ht
    · rename_i o rta ha
      obtain ⟨ra, h1, h2⟩ := takes_ext h ha
      split at ht
      · rename_i l2 rtb hb
        obtain ⟨rb, h3, h4⟩ := takesL_ext h2.1 hb
        simp only [Option.some.injEq, Prod.mk.injEq] at ht
        obtain ⟨rfl, rfl⟩ := ht
        exact ⟨rb, by simp only [h1, h3], h2.trans h4⟩
      · cases ht
    · cases ht
theorem newRt_ext (h : Ext D rt rt') {id : Nat} {r : Root} (hid : ¬ D id) (hn : newRt rt id r = some rt1) : ∃ rt1', newRt rt' id r = some rt1' ∧ ExtTo D rt rt' rt1 rt1' := by
  obtain ⟨h1, h2, h3, rfl⟩ := newRt_spec hn
  refine ⟨upd rt' id r, ?_, .upd h hid r⟩
  unfold newRt
  rw [if_pos]
  simp only [Bool.and_eq_true, decide_eq_true_eq, List.all_eq_true]
  exact ⟨⟨by rw [h.2 id hid, h1]; rfl, h2⟩, fun i hi => h.is (h3 i hi)⟩
theorem store_ext (h : Ext D rt rt') {xs : List SV} {p : SV} (hs : store rt xs p = some rt1) : ∃ rt1', store rt' xs p = some rt1' ∧ ExtTo D rt rt' rt1 rt1' := by
  cases p with
  | pb id off =>
    simp only [store] at hs ⊢
    split at hs
    · rename_i ys hr
      obtain ⟨hn, hr'⟩ := h.at hr
      split at hs
      · rename_i zs hz
        split at hs
        · rename_i hc
          injection hs with hs
          subst hs
          refine ⟨_, ?_, .upd h hn _⟩
          simp only [hr', hz]
          rw [if_pos]
          rw [List.all_eq_true] at hc ⊢
          intro x hx
          have := hc x hx
          rw [List.all_eq_true] at this ⊢
          exact fun i hi => h.is (this i hi)
        · cases hs
      · cases hs
    · cases hs
  | pe id p i off =>
    simp only [store] at hs ⊢
    split at hs
    · rename_i l rta ha
      obtain ⟨ra, h1, h2⟩ := takes_ext h ha
      split at hs
      · rename_i d t c hr
        obtain ⟨hn, hr'⟩ := h2.1.at hr
        split at hs
        · rename_i hc
          split at hs
          · rename_i c' hg
            split at hs
            · rename_i c2 hc2
              injection hs with hs
              subst hs
              exact ⟨_, by simp only [h1, hr', if_pos hc, hg, hc2], h2.trans (.upd h2.1 hn _)⟩
            · cases hs
          · cases hs
        · cases hs
      · cases hs
    · cases hs
  | c c => cases hs
  | nil k => cases hs
  | ref id p off len => cases hs
  | pm cs off => cases hs
theorem takeSl_ext (h : Ext D rt rt') {x : SV} {o : Ow} {c : C} (ht : takeSl rt x = some (o, c, rt1)) : ∃ rt1', takeSl rt' x = some (o, c, rt1') ∧ ExtTo D rt rt' rt1 rt1' := by
  obtain ⟨h1, h2⟩ := takeSl_spec ht
  obtain ⟨ra, h3, h4⟩ := take_ext h h1
  refine ⟨ra, ?_, h4⟩
  unfold takeSl
  rw [h3]
  rcases h2 with ⟨sz, es, sp, rfl⟩ | ⟨sz, es, sp, rfl⟩ <;> rfl
theorem source_ext (h : Ext D rt rt') {k : K} {y : SV} {d : Bool} {c : C} (hs : source rt k y = some (d, c, rt1)) : ∃ rt1', source rt' k y = some (d, c, rt1') ∧ ExtTo D rt rt' rt1 rt1' := by
  cases k with
  | fl sz =>
    simp only [source] at hs ⊢
    split at hs
    · rename_i sz' es sp hc
      rw [cont_mono h.sub hc]
      split at hs
      · rename_i e
        simp only [Option.some.injEq, Prod.mk.injEq] at hs
        obtain ⟨rfl, rfl, rfl⟩ := hs
        exact ⟨rt', by simp only [if_pos e], .refl h⟩
      · cases hs
    · cases hs
  | sl sz =>
    simp only [source] at hs ⊢
    split at hs
    · rename_i o sz' es sp rta ht
      obtain ⟨ra, h1, h2⟩ := takeSl_ext h ht
      rw [h1]
      split at hs
      · rename_i e
        simp only [Option.some.injEq, Prod.mk.injEq] at hs
        obtain ⟨rfl, rfl, rfl⟩ := hs
        exact ⟨ra, by simp only [if_pos e], h2⟩
      · cases hs
    · cases hs
theorem append_ext (h : Ext D rt rt') {id : Nat} {k : K} {bytes : Nat} {x y r : SV} (hid : ¬ D id) (ha : append rt id k bytes x y = some (r, rt1)) : ∃ rt1', append rt' id k bytes x y = some (r, rt1') ∧ ExtTo D rt rt' rt1 rt1' := by
  unfold append at ha ⊢
  split at ha
  · rename_i dy cy rta hs
    obtain ⟨ra, h1, h2⟩ := source_ext h hs
    split at ha
    · rename_i ox cx rtb ht
      obtain ⟨rb, h3, h4⟩ := takeSl_ext h2.1 ht
      simp only [h1, h3]
      split at ha
      · split at ha
        · rename_i hc
          rw [Option.map_eq_some_iff] at ha
          obtain ⟨rtc, e1, e2⟩ := ha
          injection e2 with e2 e3
          subst e3
          obtain ⟨rc, h5, h6⟩ := newRt_ext h4.1 hid e1
          exact ⟨rc, by simp only [if_pos hc, h5, Option.map_some, e2], (h2.trans h4).trans h6⟩
        · cases ha
      · split at ha
        · rename_i hc
          rw [Option.map_eq_some_iff] at ha
          obtain ⟨rtc, e1, e2⟩ := ha
          injection e2 with e2 e3
          subst e3
          obtain ⟨rc, h5, h6⟩ := newRt_ext h4.1 hid e1
          exact ⟨rc, by simp only [if_pos hc, h5, Option.map_some, e2], (h2.trans h4).trans h6⟩
        · cases ha
      · cases ha
    · cases ha
  · cases ha
/-! ### Calls -/
theorem mapO_mono {α β : Type} {f g : α → Option β} : ∀ {xs : List α} {ys : List β}, (∀ x ∈ xs, ∀ y, f x = some y → g x = some y) → mapO f xs = some ys → mapO g xs = some ys
  | [], ys, _, h => h
  | x :: xs, ys, hf, h => by
    simp only [mapO] at h ⊢
    split at h
    · rename_i y hy
      rw [hf x (by simp) y hy]
      split at h
      · rename_i zs hz
        rw [mapO_mono (fun x hx => hf x (by simp [hx])) hz]
        exact h
      · cases h
    · cases h
theorem snapC_mono (hs : Sub rt rt') {x : SV} {c : C} (h : snapC rt x = some c) : snapC rt' x = some c := by
  cases x with
  | ref id p off len => simp only [snapC] at h ⊢; exact cont_mono hs h
  | _ => exact h
theorem snap_mono (hs : Sub rt rt') {x y : SV} (h : snap rt x = some y) : snap rt' x = some y := by
  cases x with
  | c c => exact h
  | nil k => exact h
  | pm cs off => exact h
  | ref id p off len =>
    simp only [snap, Option.map_eq_some_iff] at h ⊢
    obtain ⟨c, h1, h2⟩ := h
    exact ⟨c, cont_mono hs h1, h2⟩
  | pb id off =>
    simp only [snap] at h ⊢
    split at h
    · rename_i xs hr
      rw [hs id _ hr]
      simp only [Option.map_eq_some_iff] at h ⊢
      obtain ⟨cs, h1, h2⟩ := h
      exact ⟨cs, mapO_mono (fun x _ y hy => snapC_mono hs hy) h1, h2⟩
    · cases h
  | pe id p i off =>
    simp only [snap] at h ⊢
    split at h
    · rename_i d c hr
      rw [rowAt_mono hs hr]
      exact h
    · cases h
theorem snap1_mono (hs : Sub rt rt') {x y : A1} (h : snap1 rt x = some y) : snap1 rt' x = some y := by
  cases x with
  | s x =>
    simp only [snap1, Option.map_eq_some_iff] at h ⊢
    obtain ⟨c, h1, h2⟩ := h
    exact ⟨c, snap_mono hs h1, h2⟩
  | agg xs =>
    simp only [snap1, Option.map_eq_some_iff] at h ⊢
    obtain ⟨c, h1, h2⟩ := h
    exact ⟨c, mapO_mono (fun x _ y hy => snap_mono hs hy) h1, h2⟩
  | fn f xs =>
    simp only [snap1, Option.map_eq_some_iff] at h ⊢
    obtain ⟨c, h1, h2⟩ := h
    exact ⟨c, mapO_mono (fun x _ y hy => snap_mono hs hy) h1, h2⟩
theorem argOf_mono (hs : Sub rt rt') {q : Bool × Opd} {r : Arg × Loc} (h : argOf ev rt q = some r) : argOf ev rt' q = some r := by
  unfold argOf at h ⊢
  split at h
  · rename_i a ha
    split at h
    · rename_i hq
      simp only [if_pos hq]
      split at h
      · split at h
        · rename_i hr
          simp only [rowAt_mono hs hr]
          exact h
        · cases h
      · split at h
        · rename_i hr
          simp only [hs _ _ hr]
          exact h
        · cases h
      · cases h
    · rename_i hq
      simp only [if_neg hq]
      rw [Option.map_eq_some_iff] at h ⊢
      obtain ⟨a', h1, h2⟩ := h
      exact ⟨a', snap1_mono hs h1, h2⟩
  · cases h
theorem rowAt_is {id : Nat} {p : Path} {x : Bool × C} (h : rowAt rt id p = some x) : (rt id).isSome = true := by
  unfold rowAt at h
  split at h
  · rename_i hr; rw [hr]; rfl
  · cases h
theorem snap_is {x y : SV} (h : snap rt x = some y) : ∀ i ∈ x.ids, (rt i).isSome = true := by
  cases x with
  | c c => intro i hi; cases hi
  | nil k => intro i hi; cases hi
  | pm cs off => intro i hi; cases hi
  | ref id p off len =>
    simp only [snap, Option.map_eq_some_iff, cont] at h
    obtain ⟨c, h1, _⟩ := h
    intro i hi
    simp only [SV.ids, List.mem_singleton] at hi
    subst hi
    split at h1
    · rename_i hr; exact rowAt_is hr
    · cases h1
  | pb id off =>
    simp only [snap] at h
    intro i hi
    simp only [SV.ids, List.mem_singleton] at hi
    subst hi
    split at h
    · rename_i hr; rw [hr]; rfl
    · cases h
  | pe id p j off =>
    simp only [snap] at h
    intro i hi
    simp only [SV.ids, List.mem_singleton] at hi
    subst hi
    split at h
    · rename_i hr; exact rowAt_is hr
    · cases h
theorem mapO_is {xs ys : List SV} (h : mapO (snap rt) xs = some ys) : ∀ i ∈ xs.flatMap (·.ids), (rt i).isSome = true := by
  obtain ⟨h1, h2⟩ := mapO_spec h
  intro i hi
  obtain ⟨x, hx, hi⟩ := List.mem_flatMap.1 hi
  obtain ⟨j, hj⟩ := List.getElem?_of_mem hx
  have hlt : j < ys.length := by rw [← h1]; exact (List.getElem?_eq_some_iff.1 hj).1
  exact snap_is (h2 j x _ hj (List.getElem?_eq_getElem hlt)) i hi
theorem argOf_is {q : Bool × Opd} {r : Arg × Loc} (h : argOf ev rt q = some r) {a : A1} (ha : ev q.2 = some a) : ∀ i ∈ a.ids, (rt i).isSome = true := by
  obtain ⟨a', e, hcase⟩ := argOf_spec h
  rw [ha] at e
  injection e with e
  subst e
  rcases hcase with ⟨_, b, hb, _⟩ | ⟨_, id, p, len, d, c', sz, n, tot, rfl, hr, _⟩ | ⟨_, id, xs, rfl, hr, _⟩
  · cases a with
    | s x =>
      simp only [snap1, Option.map_eq_some_iff] at hb
      obtain ⟨y, h1, _⟩ := hb
      exact snap_is h1
    | agg xs =>
      simp only [snap1, Option.map_eq_some_iff] at hb
      obtain ⟨y, h1, _⟩ := hb
      exact mapO_is h1
    | fn f xs =>
      simp only [snap1, Option.map_eq_some_iff] at hb
      obtain ⟨y, h1, _⟩ := hb
      exact mapO_is h1
  · intro i hi
    simp only [A1.ids, SV.ids, List.mem_singleton] at hi
    subst hi
    exact rowAt_is hr
  · intro i hi
    simp only [A1.ids, SV.ids, List.mem_singleton] at hi
    subst hi
    rw [hr]; rfl
theorem argHas_ext (h : Ext D rt rt') {q : Bool × Opd} (hp : ∀ a, ev q.2 = some a → ∀ i ∈ a.ids, (rt i).isSome = true) (id : Nat) : argHas ev rt' id q = argHas ev rt id q := by
  unfold argHas
  cases ha : ev q.2 with
  | none => rfl
  | some a =>
    simp only []
    have : ∀ i ∈ a.ids, rt' i = rt i := fun i hi => by
      obtain ⟨r, hr⟩ := Option.isSome_iff_exists.1 (hp a ha i hi)
      rw [hr]; exact (h.at hr).2
    rw [Bool.eq_iff_iff, List.any_eq_true, List.any_eq_true]
    constructor
    · rintro ⟨i, hi, hx⟩; exact ⟨i, hi, by rw [this i hi] at hx; exact hx⟩
    · rintro ⟨i, hi, hx⟩; exact ⟨i, hi, by rw [this i hi]; exact hx⟩
theorem apartB_ext (h : Ext D rt rt') : ∀ {qs : List (Bool × Opd)} {ls : List (Option (Nat × Path))}, (∀ q ∈ qs, ∀ a, ev q.2 = some a → ∀ i ∈ a.ids, (rt i).isSome = true) → apartB ev rt' qs ls = apartB ev rt qs ls
  | [], ls, _ => by cases ls <;> rfl
  | q :: qs, [], _ => rfl
  | q :: qs, some (id, p) :: ls, hp => by
    have ih := apartB_ext h (qs := qs) (ls := ls) (fun q' hq => hp q' (List.mem_cons_of_mem _ hq))
    have h0 := fun id => argHas_ext h (hp q (by simp)) id
    have e1 : qs.all (fun q => !argHas ev rt' id q) = qs.all (fun q => !argHas ev rt id q) := by
      rw [Bool.eq_iff_iff, List.all_eq_true, List.all_eq_true]
      constructor
      · intro hx q' hq'; rw [← argHas_ext h (hp q' (by simp [hq'])) id]; exact hx q' hq'
      · intro hx q' hq'; rw [argHas_ext h (hp q' (by simp [hq'])) id]; exact hx q' hq'
    simp only [apartB, ih, e1, h0]
  | q :: qs, none :: ls, hp => by
    have ih := apartB_ext h (qs := qs) (ls := ls) (fun q' hq => hp q' (List.mem_cons_of_mem _ hq))
    have h0 := fun id => argHas_ext h (hp q (by simp)) id
    simp only [apartB, ih, h0]
theorem back_ext : ∀ {ls : List (Option (Nat × Path))} {ms : List (Option Root)} {rt rt' rt1 : Rts}, Ext D rt rt' → back rt ls ms = some rt1 → ∃ rt1', back rt' ls ms = some rt1' ∧ ExtTo D rt rt' rt1 rt1'
  | [], ms, rt, rt', rt1, h, hb => by
    cases ms with
    | nil => simp only [back, Option.some.injEq] at hb; subst hb; exact ⟨rt', rfl, .refl h⟩
    | cons m ms => cases hb
  | none :: ls, ms, rt, rt', rt1, h, hb => by
    have hb' : back rt ls ms = some rt1 := by cases ms <;> simpa only [back] using hb
    obtain ⟨r1, h1, h2⟩ := back_ext h hb'
    exact ⟨r1, by cases ms <;> simpa only [back] using h1, h2⟩
  | some (id, p) :: ls, [], rt, rt', rt1, h, hb => by simp only [back] at hb; cases hb
  | some (id, p) :: ls, m :: ms, rt, rt', rt1, h, hb => by
    have fin : ∀ {X : Root}, ¬ D id → back (upd rt id X) ls ms = some rt1 → ∃ rt1', back (upd rt' id X) ls ms = some rt1' ∧ ExtTo D rt rt' rt1 rt1' := by
      intro X hn hb
      have h0 := ExtTo.upd h hn X
      obtain ⟨r1, h1, h2⟩ := back_ext h0.1 hb
      exact ⟨r1, h1, h0.trans h2⟩
    simp only [back] at hb ⊢
    split at hb
    · rename_i hr
      obtain ⟨hn, hr'⟩ := h.at hr
      simp only [hr']
      split at hb
      · rename_i hc
        simp only [hc.1, hc.2, and_self, if_true]
        split at hb
        · rename_i c' hg
          split at hb
          · rename_i sz n t1 sz2 n2 tot2 hs1 hs2
            split at hb
            · rename_i he
              simp only [if_pos he]
              exact fin hn hb
            · cases hb
          · cases hb
        · cases hb
      · cases hb
    · rename_i hr
      obtain ⟨hn, hr'⟩ := h.at hr
      simp only [hr']
      split at hb
      · exact fin hn hb
      · split at hb
        · rename_i he
          simp only [if_pos he]
          exact fin hn hb
        · cases hb
    · rename_i hr
      obtain ⟨hn, hr'⟩ := h.at hr
      simp only [hr']
      split at hb
      · rename_i he
        simp only [if_pos he]
        exact fin hn hb
      · cases hb
    · cases hb
theorem cellRes_ext (h : Ext D rt rt') {id : Nat} {x : RC} {y : SV} (hid : ¬ D id) (hc : cellRes rt id x = some (y, rt1)) : ∃ rt1', cellRes rt' id x = some (y, rt1') ∧ ExtTo D rt rt' rt1 rt1' := by
  unfold cellRes at hc ⊢
  split at hc
  · simp only [Option.some.injEq, Prod.mk.injEq] at hc; obtain ⟨rfl, rfl⟩ := hc; exact ⟨rt', rfl, .refl h⟩
  · simp only [Option.some.injEq, Prod.mk.injEq] at hc; obtain ⟨rfl, rfl⟩ := hc; exact ⟨rt', rfl, .refl h⟩
  · split at hc
    · rename_i hs
      rw [Option.map_eq_some_iff] at hc
      obtain ⟨rtc, e1, e2⟩ := hc
      injection e2 with e2 e3
      subst e3
      obtain ⟨rc, h5, h6⟩ := newRt_ext h hid e1
      exact ⟨rc, by simp only [hs, h5, Option.map_some, e2], h6⟩
    · cases hc
theorem cellsRes_ext : ∀ {xs : List RC} {rt rt' rt1 : Rts} {id : Nat} {ys : List SV}, Ext D rt rt' → (∀ j, j < xs.length → ¬ D (id + j)) → cellsRes rt id xs = some (ys, rt1) → ∃ rt1', cellsRes rt' id xs = some (ys, rt1') ∧ ExtTo D rt rt' rt1 rt1'
  | [], rt, rt', rt1, id, ys, h, _, hc => by simp only [cellsRes, Option.some.injEq, Prod.mk.injEq] at hc; obtain ⟨rfl, rfl⟩ := hc; exact ⟨rt', rfl, .refl h⟩
  | x :: xs, rt, rt', rt1, id, ys, h, hid, hc => by
    simp only [cellsRes] at hc ⊢
    split at hc
    · rename_i x1 rta ha
      obtain ⟨ra, h1, h2⟩ := cellRes_ext h (by simpa using hid 0 (by simp)) ha
      split at hc
      · rename_i xs1 rtb hb
        obtain ⟨rb, h3, h4⟩ := cellsRes_ext h2.1 (fun j hj => by rw [show id + 1 + j = id + (j + 1) by omega]; exact hid (j + 1) (by simpa using hj)) hb
        simp only [Option.some.injEq, Prod.mk.injEq] at hc
        obtain ⟨rfl, rfl⟩ := hc
        exact ⟨rb, by simp only [h1, h3], h2.trans h4⟩
      · cases hc
    · cases hc
theorem valRes_ext (h : Ext D rt rt') {id : Nat} {x : RV} {y : A1} (hid : ∀ j, j < x.n → ¬ D (id + j)) (hc : valRes rt id x = some (y, rt1)) : ∃ rt1', valRes rt' id x = some (y, rt1') ∧ ExtTo D rt rt' rt1 rt1' := by
  cases x with
  | s x =>
    simp only [valRes, Option.map_eq_some_iff] at hc
    obtain ⟨⟨z, rtc⟩, e1, e2⟩ := hc
    simp only [Prod.mk.injEq] at e2
    obtain ⟨rfl, rfl⟩ := e2
    obtain ⟨rc, h5, h6⟩ := cellRes_ext h (by simpa using hid 0 (by simp [RV.n])) e1
    exact ⟨rc, by simp only [valRes, h5, Option.map_some], h6⟩
  | agg xs =>
    simp only [valRes, Option.map_eq_some_iff] at hc
    obtain ⟨⟨z, rtc⟩, e1, e2⟩ := hc
    simp only [Prod.mk.injEq] at e2
    obtain ⟨rfl, rfl⟩ := e2
    obtain ⟨rc, h5, h6⟩ := cellsRes_ext h hid e1
    exact ⟨rc, by simp only [valRes, h5, Option.map_some], h6⟩
theorem valsRes_ext : ∀ {rs : List RV} {rt rt' rt1 : Rts} {id : Nat} {as : List A1}, Ext D rt rt' → (∀ j, j < (rs.map (·.n)).sum → ¬ D (id + j)) → valsRes rt id rs = some (as, rt1) → ∃ rt1', valsRes rt' id rs = some (as, rt1') ∧ ExtTo D rt rt' rt1 rt1'
  | [], rt, rt', rt1, id, as, h, _, hc => by simp only [valsRes, Option.some.injEq, Prod.mk.injEq] at hc; obtain ⟨rfl, rfl⟩ := hc; exact ⟨rt', rfl, .refl h⟩
  | r :: rs, rt, rt', rt1, id, as, h, hid, hc => by
    simp only [List.map_cons, List.sum_cons] at hid
    simp only [valsRes] at hc ⊢
    split at hc
    · rename_i x1 rta ha
      obtain ⟨ra, h1, h2⟩ := valRes_ext h (fun j hj => hid j (by omega)) ha
      split at hc
      · rename_i xs1 rtb hb
        obtain ⟨rb, h3, h4⟩ := valsRes_ext h2.1 (fun j hj => by rw [Nat.add_assoc]; exact hid _ (by omega)) hb
        simp only [Option.some.injEq, Prod.mk.injEq] at hc
        obtain ⟨rfl, rfl⟩ := hc
        exact ⟨rb, by simp only [h1, h3], h2.trans h4⟩
      · cases hc
    · cases hc
theorem callR_ext (h : Ext D rt rt') {f : Nat} {qs : List (Bool × Opd)} (hid : ∀ j, j < 64 → ¬ D (nid dst + j)) (hc : callR call ev rt dst f qs = some (av, rt1)) : ∃ rt1', callR call ev rt' dst f qs = some (av, rt1') ∧ ExtTo D rt rt' rt1 rt1' := by
  unfold callR at hc ⊢
  split at hc
  · rename_i l hl
    have hl' := mapO_mono (g := argOf ev rt') (fun q _ r hr => argOf_mono h.sub hr) hl
    simp only [hl']
    split at hc
    · rename_i r hr
      split at hc
      · rename_i hcond
        simp only [Bool.and_eq_true, decide_eq_true_eq] at hcond
        have hpres : ∀ q ∈ qs, ∀ a, ev q.2 = some a → ∀ i ∈ a.ids, (rt i).isSome = true := by
          intro q hq a ha
          obtain ⟨m1, m2⟩ := mapO_spec hl
          obtain ⟨j, hj⟩ := List.getElem?_of_mem hq
          have hlt : j < l.length := by rw [← m1]; exact (List.getElem?_eq_some_iff.1 hj).1
          exact argOf_is (m2 j q _ hj (List.getElem?_eq_getElem hlt)) ha
        have hap : apartB ev rt' qs (l.map (·.2)) = apartB ev rt qs (l.map (·.2)) := apartB_ext h hpres
        rw [if_pos (by simp only [Bool.and_eq_true, decide_eq_true_eq, hap]; exact hcond)]
        split at hc
        · rename_i rta ha
          obtain ⟨ra, h1, h2⟩ := back_ext h ha
          simp only [h1]
          rw [Option.map_eq_some_iff] at hc
          obtain ⟨⟨as, rtb⟩, e1, e2⟩ := hc
          injection e2 with e2 e3
          simp only at e2 e3
          subst e3
          obtain ⟨rb, h3, h4⟩ := valsRes_ext h2.1 (fun j hj => hid j (by omega)) e1
          exact ⟨rb, by simp only [h3, Option.map_some, e2], h2.trans h4⟩
        · cases hc
      · cases hc
    · cases hc
  · cases hc
theorem map_newRt_ext (h : Ext D rt rt') {id : Nat} {r : Root} {a : AV} (hid : ¬ D id) (hm : (newRt rt id r).map (fun x => (a, x)) = some (av, rt1)) : ∃ rt1', (newRt rt' id r).map (fun x => (a, x)) = some (av, rt1') ∧ ExtTo D rt rt' rt1 rt1' := by
  rw [Option.map_eq_some_iff] at hm
  obtain ⟨rtc, e1, e2⟩ := hm
  injection e2 with e2 e3
  subst e3
  obtain ⟨rc, h5, h6⟩ := newRt_ext h hid e1
  exact ⟨rc, by rw [h5, Option.map_some, e2], h6⟩
/-- Roots that are not met make no difference. -/
theorem act_ext {p : PO} (h : Ext D rt rt') (hid : ∀ j, j < 64 → ¬ D (nid dst + j)) (hv : ∀ f qs, p ≠ .callv f qs) (ha : act call ev tp rt dst p = some (av, rt1)) : ∃ rt1', act call ev tp rt' dst p = some (av, rt1') ∧ ExtTo D rt rt' rt1 rt1' := by
  have hid0 : ¬ D (nid dst) := by simpa using hid 0 (by decide)
  by_cases hq : p.quiet = true
  · obtain ⟨rfl, h2⟩ := act_mono hq h.sub ha
    exact ⟨rt', h2, .refl h⟩
  · cases p with
    | mkn k => simp only [act] at ha ⊢; exact map_newRt_ext h hid0 ha
    | box x =>
      simp only [act] at ha ⊢
      split at ha
      · exact map_newRt_ext h hid0 ha
      · cases ha
    | alloc z => simp only [act] at ha ⊢; exact map_newRt_ext h hid0 ha
    | bs k parts =>
      simp only [act] at ha ⊢
      split at ha
      · rename_i l hl
        split at ha
        · rename_i es rta ht
          obtain ⟨ra, h1, h2⟩ := takesL_ext h ht
          simp only [h1]
          split at ha
          · obtain ⟨rc, h3, h4⟩ := map_newRt_ext h2.1 hid0 ha
            exact ⟨rc, h3, h2.trans h4⟩
          · cases ha
        · cases ha
      · cases ha
    | st n x y =>
      simp only [act] at ha ⊢
      split at ha
      · split at ha
        · rename_i hn
          rw [Option.map_eq_some_iff] at ha
          obtain ⟨rtc, e1, e2⟩ := ha
          injection e2 with e2 e3
          subst e2 e3
          obtain ⟨rc, h5, h6⟩ := store_ext h e1
          exact ⟨rc, by rw [if_pos hn, h5, Option.map_some], h6⟩
        · cases ha
      · cases ha
    | app k bytes x y =>
      simp only [act] at ha ⊢
      split at ha
      · rw [Option.map_eq_some_iff] at ha
        obtain ⟨⟨z, rtc⟩, e1, e2⟩ := ha
        injection e2 with e2 e3
        simp only at e2 e3
        subst e2 e3
        obtain ⟨rc, h5, h6⟩ := append_ext h hid0 e1
        exact ⟨rc, by rw [h5, Option.map_some], h6⟩
      · cases ha
    | call f qs => exact callR_ext h hid ha
    | callv f qs => exact absurd rfl (hv f qs)
    | mks k bytes zero len cap =>
      simp only [act] at ha ⊢
      split at ha
      · split at ha
        · rename_i hc
          simp only [if_pos hc]
          split at ha
          · split at ha
            · split at ha
              · rename_i hz
                simp only [if_pos hz]
                exact map_newRt_ext h hid0 ha
              · cases ha
            · cases ha
          · split at ha
            · rename_i hz
              simp only [if_pos hz]
              exact map_newRt_ext h hid0 ha
            · cases ha
        · cases ha
      · cases ha
    | _ => exact absurd rfl hq
/-! ### What only adds a root -/
def POp.born (o : POp) : Bool :=
  o.g.isNone && o.dst.isSome && (match o.may with | .no => true | _ => false) && (match o.op with | .alloc z => z.all (fun x => x.ids.isEmpty) | .mkn _ => true | .mks _ _ _ _ _ => true | .bs _ _ => true | _ => false)
theorem take_free {x : SV} {o : Ow} {c : C} (h : take rt x = some (o, c, rt1)) (hx : x.ids = []) : rt1 = rt ∧ ∀ rt', take rt' x = some (o, c, rt') := by
  cases x with
  | c c => simp only [take, Option.some.injEq, Prod.mk.injEq] at h; obtain ⟨rfl, rfl, rfl⟩ := h; exact ⟨rfl, fun _ => rfl⟩
  | nil k => simp only [take, Option.some.injEq, Prod.mk.injEq] at h; obtain ⟨rfl, rfl, rfl⟩ := h; exact ⟨rfl, fun _ => rfl⟩
  | ref id p off len => cases hx
  | pb id off => cases hx
  | pe id p i off => cases hx
  | pm cs off => cases h
theorem takes_free : ∀ {xs : List SV} {rt rt1 : Rts} {l : List (Ow × C)}, takes rt xs = some (l, rt1) → xs.flatMap (·.ids) = [] → rt1 = rt ∧ ∀ rt', takes rt' xs = some (l, rt')
  | [], rt, rt1, l, h, _ => by simp only [takes, Option.some.injEq, Prod.mk.injEq] at h; obtain ⟨rfl, rfl⟩ := h; exact ⟨rfl, fun _ => rfl⟩
  | x :: xs, rt, rt1, l, h, hx => by
    simp only [List.flatMap_cons, List.append_eq_nil_iff] at hx
    simp only [takes] at h ⊢
    split at h
    · rename_i o c rta ha
      obtain ⟨rfl, h1⟩ := take_free ha hx.1
      split at h
      · rename_i l2 rtb hb
        obtain ⟨rfl, h2⟩ := takes_free hb hx.2
        simp only [Option.some.injEq, Prod.mk.injEq] at h
        obtain ⟨rfl, rfl⟩ := h
        exact ⟨rfl, fun rt' => by simp only [h1, h2]⟩
      · cases h
    · cases h
theorem takesL_free : ∀ {xs : List (List SV)} {rt rt1 : Rts} {l : List (List (Ow × C))}, takesL rt xs = some (l, rt1) → xs.flatten.flatMap (·.ids) = [] → rt1 = rt ∧ ∀ rt', takesL rt' xs = some (l, rt')
  | [], rt, rt1, l, h, _ => by simp only [takesL, Option.some.injEq, Prod.mk.injEq] at h; obtain ⟨rfl, rfl⟩ := h; exact ⟨rfl, fun _ => rfl⟩
  | x :: xs, rt, rt1, l, h, hx => by
    simp only [List.flatten_cons, List.flatMap_append, List.append_eq_nil_iff] at hx
    simp only [takesL] at h ⊢
    split at h
    · rename_i o rta ha
      obtain ⟨rfl, h1⟩ := takes_free ha hx.1
      split at h
      · rename_i l2 rtb hb
        obtain ⟨rfl, h2⟩ := takesL_free hb hx.2
        simp only [Option.some.injEq, Prod.mk.injEq] at h
        obtain ⟨rfl, rfl⟩ := h
        exact ⟨rfl, fun rt' => by simp only [h1, h2]⟩
      · cases h
    · cases h
theorem map_newRt_born {id : Nat} {r : Root} {a : AV} (hr : r.ids = []) (hi : ∀ i ∈ a.ids, i = id) (hm : (newRt rt id r).map (fun x => (a, x)) = some (av, rt1)) : rt id = none ∧ rt1 = upd rt id r ∧ (∀ i ∈ av.ids, i = id) ∧ ∀ rt', rt' id = none → (newRt rt' id r).map (fun x => (a, x)) = some (av, upd rt' id r) := by
  rw [Option.map_eq_some_iff] at hm
  obtain ⟨rtc, e1, e2⟩ := hm
  injection e2 with e2 e3
  subst e3
  obtain ⟨h1, h2, _, rfl⟩ := newRt_spec e1
  refine ⟨h1, rfl, by rw [← e2]; exact hi, fun rt' h' => ?_⟩
  have : newRt rt' id r = some (upd rt' id r) := by
    unfold newRt
    rw [if_pos]
    simp only [Bool.and_eq_true, decide_eq_true_eq, List.all_eq_true, hr, h', Option.isNone_none]
    exact ⟨⟨trivial, h2⟩, fun i hi => by cases hi⟩
  rw [this, Option.map_some, e2]
theorem act_born {o : POp} (hb : o.born = true) (ht : touch ev o.op = []) (ha : act call ev tp rt dst o.op = some (av, rt1)) : ∃ r, rt (nid dst) = none ∧ rt1 = upd rt (nid dst) r ∧ (∀ i ∈ av.ids, i = nid dst) ∧ ∀ rt', rt' (nid dst) = none → act call ev tp rt' dst o.op = some (av, upd rt' (nid dst) r) := by
  have hid1 : ∀ n, ∀ i ∈ (AV.sv (.ref (nid dst) [] 0 n)).ids, i = nid dst := fun n i hi => by simpa [AV.ids, A1.ids, SV.ids] using hi
  have hid2 : ∀ i ∈ (AV.sv (.pb (nid dst) 0)).ids, i = nid dst := fun i hi => by simpa [AV.ids, A1.ids, SV.ids] using hi
  simp only [POp.born, Bool.and_eq_true] at hb
  obtain ⟨_, hb⟩ := hb
  cases hp : o.op with
  | mkn k => rw [hp] at ha; simp only [act] at ha ⊢; exact ⟨_, map_newRt_born rfl (hid1 _) ha⟩
  | alloc z =>
    rw [hp] at ha hb
    simp only [act] at ha ⊢
    refine ⟨_, map_newRt_born ?_ hid2 ha⟩
    simp only [List.all_eq_true, List.isEmpty_iff] at hb
    simp only [Root.ids, List.flatMap_eq_nil_iff]
    exact hb
  | mks k bytes zero len cap =>
    rw [hp] at ha
    simp only [act] at ha ⊢
    split at ha
    · split at ha
      · rename_i hc
        simp only [if_pos hc]
        split at ha
        · split at ha
          · split at ha
            · rename_i hz
              simp only [if_pos hz]
              exact ⟨_, map_newRt_born rfl (hid1 _) ha⟩
            · cases ha
          · cases ha
        · split at ha
          · rename_i hz
            simp only [if_pos hz]
            exact ⟨_, map_newRt_born rfl (hid1 _) ha⟩
          · cases ha
      · cases ha
    · cases ha
  | bs k parts =>
    rw [hp] at ha ht
    simp only [act] at ha ⊢
    split at ha
    · rename_i l hl
      split at ha
      · rename_i es rta htk
        have hnil : l.flatten.flatMap (·.ids) = [] := by
          rw [List.flatMap_eq_nil_iff]
          intro x hx
          obtain ⟨y, hy, hxy⟩ := List.mem_flatten.1 hx
          obtain ⟨m1, m2⟩ := mapO_spec hl
          obtain ⟨j, hj⟩ := List.getElem?_of_mem hy
          have hlt : j < parts.length := by rw [m1]; exact (List.getElem?_eq_some_iff.1 hj).1
          simp only [touch, List.flatMap_eq_nil_iff] at ht
          have := ht parts[j] (List.getElem_mem hlt)
          rw [idsC_eq (m2 j _ y (List.getElem?_eq_getElem hlt) hj), List.flatMap_eq_nil_iff] at this
          exact this x hxy
        obtain ⟨rfl, hfree⟩ := takesL_free htk hnil
        split at ha
        · rename_i d c hbs
          obtain ⟨h1, h2, h0, h3⟩ := map_newRt_born rfl (hid1 _) ha
          exact ⟨_, h1, h2, h0, fun rt' h' => by simp only [hfree, hbs]; exact h3 rt' h'⟩
        · cases ha
      · cases ha
    · cases ha
  | _ => rw [hp] at hb; cases hb
end
end Go.Proofs.YtecmolmlojehgaaGreat.T
namespace Go.Proofs.YtecmolmlojehgaaGreat.T
open Go
variable (ids : Nat → FuncId)

/-! ### A drawn number is no part of memory -/
section
variable {ids} {w : World} {home : Home} {hd : Lb → Value} {rt : Rts} {d : Nat}
theorem hdAt_drew : ∀ (p : Path) (c : C) (u : Value), hdAt { w with drawn := d } c u p = hdAt w c u p
  | [], c, u => by cases c <;> rfl
  | (i, j) :: p, c, u => by
    cases c <;> simp only [hdAt, hdAt_drew p] <;> rfl
theorem CR.drew {t : Tg} {c : C} {u : Value} (h : CR w home t c u) : CR { w with drawn := d } home t c u := h.move (fun _ _ _ hl => ⟨rfl, hl⟩) (Ok.refl _)
theorem SVR.drew {x : SV} {v : Value} (h : SVR w home hd rt x v) : SVR { w with drawn := d } home hd rt x v := by
  cases x with
  | c c => exact CR.drew h
  | nil k => exact h
  | ref id p off n => exact ⟨h.1, fun d t c h1 h2 c' u h3 h4 => h.2 d t c h1 h2 c' u h3 (by rw [hdAt_drew] at h4; exact h4)⟩
  | pb id off => exact h
  | pe id p i off => exact ⟨h.1, fun d t c h1 h2 c' u h3 h4 => h.2 d t c h1 h2 c' u h3 (by rw [hdAt_drew] at h4; exact h4)⟩
  | pm cs off =>
    obtain ⟨b, o, e, h⟩ := h
    refine ⟨b, o, e, fun j c hc => ?_⟩
    obtain ⟨h1, u, h2, h3⟩ := h j c hc
    exact ⟨h1, u, h2, h3.drew⟩
theorem RtR.drew {F : Nat → Option Root} (h : RtR w home hd rt F) : RtR { w with drawn := d } home hd rt F := by
  refine ⟨fun l r hr => ?_, h.lab, h.wf⟩
  have := h.root l r hr
  cases r with
  | arr d t c => exact CR.drew this
  | gone => trivial
  | box xs =>
    rcases this with h1 | ⟨b, cur, e, k1, k2, k3, k4⟩
    · exact Or.inl h1
    · exact Or.inr ⟨b, cur, e, k1, k2, k3, k4.1, fun i x y hx hy => (k4.2 i x y hx hy).drew⟩
theorem Step.drew {F : Nat → Option Root} (h : RtR w home hd rt F) : Step w home hd rt F { w with drawn := d } home hd rt F :=
  ⟨h.drew, fun _ _ _ h => h.drew, fun _ h => h, rfl, rfl, rfl, Nat.le_refl _, fun _ _ h => ⟨rfl, h⟩, fun _ _ _ h => ⟨rfl, h⟩, fun _ _ r hr hne => ⟨rfl, r, hr, hne⟩⟩
theorem FrR.drew {N : Nat} {fr : Fr} {a : Act} (h : FrR ids w home hd N fr a) : FrR ids { w with drawn := d } home hd N fr a :=
  ⟨h.rel.drew, fun t av ht => by
    obtain ⟨v, h1, h2, h3⟩ := h.sl t av ht
    exact ⟨v, h1, AVR.step (Step.drew h.rel) h2 h3, h3⟩, h.sz, h.nd⟩
theorem FrR.see {N : Nat} {fr : Fr} {a : Act} (h : FrR ids w home hd N fr a) (b : List Nat) : FrR ids w home hd N (fr.see b) a :=
  ⟨h.rel, fun t av ht => by
    simp only [Fr.see] at ht
    split at ht
    · cases ht
    · exact h.sl t av ht, h.sz, h.nd⟩
end

/-! ### One operation, wherever it comes up -/
def Fr.execE (call : Nat → List Arg → Option Res) (fr : Fr) (o : POp) : Option Fr :=
  match act call (fr.see o.blind).ev (fr.see o.blind).tup fr.rt (o.dst.getD 0) o.op with
  | some (a, rt) => if a.ids.all (fun i => (rt i).isSome) then some ({ fr with rt }.out o.dst a) else none
  | none => none
def Fr.stepE (call : Nat → List Arg → Option Res) (fr : Fr) (o : POp) : Option Fr :=
  match o.g with
  | none => fr.execE call o
  | some (s, want) =>
    match (fr.see o.blind).sl s with
    | some (.v (.s (.c (.val (.bool b))))) => if b = want then fr.execE call o else some (fr.out o.dst .undef)
    | some .undef => some (fr.out o.dst .undef)
    | _ => none
def mOpD (P : Program) (N : Nat) (ops : Array Oper) (o : Oper) (p : POp) : Bool := mDst N o.dst p.dst && mG ops o.guard p.g && mAny ids P o.op p.op
section
variable {ids} {P : Program} {w : World} {home : Home} {hd : Lb → Value} {N : Nat} {fr fr' : Fr} {a : Act} {call : Nat → List Arg → Option Res} {ops : Array Oper}
theorem execE_ok (hcall : ∀ f args r, call f args = some r → Sat ids P (ids f) args r) (h : FrR ids w home hd N fr a) {o : Oper} {p : POp} (hd0 : mDst N o.dst p.dst = true) (hm : mAny ids P o.op p.op = true) (he : fr.execE call p = some fr') {next : Act → World → Prop} {Q : Exit → Act → World → Prop}
    (hn : ∀ a' w' home' hd', Grow w home hd fr.rt w' home' hd' fr'.rt → FrR ids w' home' hd' N fr' a' → (∀ i, (fr.rt i).isSome = true → (fr'.rt i).isSome = true) → next a' w') : o.wp P a w next Q := by
  obtain ⟨hdst, hlt⟩ := mDst_spec hd0
  unfold Fr.execE at he
  split at he
  · rename_i av rt' hact
    split at he
    · rename_i hids
      injection he with he
      subst he
      have hp : ∀ i ∈ av.ids, (rt' i).isSome = true := fun i hi => List.all_eq_true.1 hids i hi
      have hs := h.see p.blind
      have hok : OpOk ids P o a w home hd fr.rt av rt' := by
        have hev := hs.ev
        cases hpo : p.op with
        | call f qs =>
          rw [hpo] at hm hact
          exact ok_call h.rel hev hcall hm hact
        | callv f qs =>
          rw [hpo] at hm hact
          simp only [act] at hact
          split at hact
          · rename_i g caps hf
            exact ok_callv h.rel hev hcall hm hf hact
          · cases hact
        | _ =>
          rw [hpo] at hm hact
          refine act_ok h.rel hev hs.tp ?_ hact
          exact hm
      refine hok next Q (fun v w' home' hd' s hv => hn _ w' home' hd' ?_ ?_ ?_)
      · cases p.dst <;> exact s.grow
      · rw [← hdst]
        exact h.put s (fun t ht => hlt t ht) hv hp
      · intro i hi; cases p.dst <;> exact s.pres i hi
    · cases he
  · cases he
theorem stepE_ok (hcall : ∀ f args r, call f args = some r → Sat ids P (ids f) args r) (h : FrR ids w home hd N fr a) {o : Oper} {p : POp} (hm : mOpD ids P N ops o p = true) (he : fr.stepE call p = some fr') {next : Act → World → Prop} {Q : Exit → Act → World → Prop}
    (hn : ∀ a' w' home' hd', Grow w home hd fr.rt w' home' hd' fr'.rt → FrR ids w' home' hd' N fr' a' → (∀ i, (fr.rt i).isSome = true → (fr'.rt i).isSome = true) → next a' w') :
    if Region.wanted o (yielded ops a.tmps) then o.wp P a w next Q ∨ (o.asks P a w ∧ LetsOut Q) else next (a.put o.dst undef) w := by
  simp only [mOpD, Bool.and_eq_true] at hm
  obtain ⟨⟨h1, h2⟩, h3⟩ := hm
  have hput : fr' = fr.out p.dst .undef → next (a.put o.dst undef) w := by
    intro e
    obtain ⟨hdst, hlt⟩ := mDst_spec h1
    refine hn _ w home hd ?_ ?_ ?_
    · rw [e]; cases p.dst <;> exact Grow.refl
    · rw [e, hdst]
      have := h.put (Step.refl h.rel) (d := p.dst) (fun t ht => hlt t (by rw [hdst]; exact ht)) (av := .undef) (v := undef) rfl (fun i hi => by cases hi)
      exact this
    · intro i hi; rw [e]; cases p.dst <;> exact hi
  unfold Fr.stepE at he
  cases hg : o.guard with
  | none =>
    rw [hg] at h2
    cases hpg : p.g with
    | some x => rw [hpg] at h2; obtain ⟨j, b⟩ := x; cases h2
    | none =>
      rw [hpg] at he
      have hw : Region.wanted o (yielded ops a.tmps) = true := by unfold Region.wanted; rw [hg]
      rw [hw, if_pos rfl]
      exact Or.inl (execE_ok hcall h h1 h3 he hn)
  | some x =>
    obtain ⟨j, want⟩ := x
    rw [hg] at h2
    cases hpg : p.g with
    | none => rw [hpg] at h2; cases h2
    | some y =>
      obtain ⟨s, want'⟩ := y
      rw [hpg] at h2 he
      simp only [mG, Bool.and_eq_true, beq_iff_eq] at h2
      obtain ⟨rfl, hj⟩ := h2
      simp only at he
      split at he
      · rename_i b hs
        obtain ⟨v, e1, e2, _⟩ := (h.see p.blind).sl s _ hs
        have hv : v = .bool b := svR_val (hd := hd) (rt := fr.rt) e2
        have hy : yielded ops a.tmps j = some b := by
          unfold yielded
          rw [hj, Option.bind_some, e1, hv]
        have hw : Region.wanted o (yielded ops a.tmps) = (b == want) := by
          unfold Region.wanted
          rw [hg]
          simp only [hy]
          cases b <;> cases want <;> rfl
        rw [hw]
        split at he
        · rename_i hb
          subst hb
          rw [if_pos (by simp)]
          exact Or.inl (execE_ok hcall h h1 h3 he hn)
        · rename_i hb
          rw [if_neg (by simpa using hb)]
          injection he with he
          exact hput he.symm
      · rename_i hs
        obtain ⟨v, e1, e2, _⟩ := (h.see p.blind).sl s _ hs
        have hv : v = undef := e2
        have hy : yielded ops a.tmps j = none := by
          unfold yielded
          rw [hj, Option.bind_some, e1, hv]
          rfl
        have hw : Region.wanted o (yielded ops a.tmps) = false := by
          unfold Region.wanted
          rw [hg]
          simp only [hy]
          rfl
        rw [hw, if_neg (by simp)]
        injection he with he
        exact hput he.symm
      · cases he
end

/-! ### The order that is written, and any other -/
section
variable {call : Nat → List Arg → Option Res} {fr fr' F : Fr} {o : POp}
theorem out_sl (fr : Fr) (d : Option Nat) (av : AV) (t : Nat) : (fr.out d av).sl t = if d = some t then some av else fr.sl t := by
  cases d with
  | none => simp [Fr.out]
  | some s =>
    simp only [Fr.out, Fr.set, upd, Option.some.injEq]
    by_cases h : t = s
    · subst h; simp
    · rw [if_neg h, if_neg (fun e => h e.symm)]
theorem out_rt (fr : Fr) (d : Option Nat) (av : AV) : (fr.out d av).rt = fr.rt := by cases d <;> rfl
theorem out_ps (fr : Fr) (d : Option Nat) (av : AV) : (fr.out d av).ps = fr.ps := by cases d <;> rfl
theorem ev_eq {F fr : Fr} (h : F.sl = fr.sl) : F.ev = fr.ev := by funext x; cases x <;> simp only [Fr.ev, h]
theorem tup_eq {F fr : Fr} (h : F.sl = fr.sl) : F.tup = fr.tup := by funext x; simp only [Fr.tup, h]
theorem born_loud {o : POp} (h : o.born = true) : o.op.quiet = false := by
  simp only [POp.born, Bool.and_eq_true] at h
  obtain ⟨_, h⟩ := h
  cases ho : o.op <;> rw [ho] at h <;> first | rfl | cases h
theorem born_may {o : POp} (h : o.born = true) : o.g = none ∧ (∃ d, o.dst = some d) ∧ o.may = .no := by
  simp only [POp.born, Bool.and_eq_true] at h
  obtain ⟨⟨⟨h1, h2⟩, h3⟩, _⟩ := h
  refine ⟨by simpa using h1, Option.isSome_iff_exists.1 h2, ?_⟩
  cases hm : o.may <;> rw [hm] at h3 <;> first | rfl | cases h3
/-- What a step is like, in whatever frame it comes up. -/
def Like (D : Nat → Prop) (fr fr' F F' : Fr) (o : POp) : Prop := F'.ps = F.ps ∧ (o.op.quiet = true → F'.rt = F.rt) ∧
  (o.born = true → ∃ r, fr.rt (nid (o.dst.getD 0)) = none ∧ fr'.rt = upd fr.rt (nid (o.dst.getD 0)) r ∧ F'.rt = upd F.rt (nid (o.dst.getD 0)) r) ∧
  (o.op.quiet = false → o.born = false → ExtTo D fr.rt F.rt fr'.rt F'.rt) ∧ ∀ t, F'.sl t = if o.dst = some t then fr'.sl t else F.sl t
theorem execD_E {D : Nat → Prop} (hv : ∀ f qs, o.op ≠ .callv f qs) (h : fr.execD call o = some fr') (hsl : (F.see o.blind).sl = (fr.see o.blind).sl) (hq : o.op.quiet = true → Sub (mask o.hide fr.rt) F.rt ∧ ∀ i, (fr.rt i).isSome = true → (F.rt i).isSome = true)
    (hb : o.born = true → F.rt (nid (o.dst.getD 0)) = none) (hl : o.op.quiet = false → o.born = false → Ext D fr.rt F.rt ∧ ∀ j, j < 64 → ¬ D (nid (o.dst.getD 0) + j)) : ∃ F', F.execE call o = some F' ∧ Like D fr fr' F F' o := by
  have slots : ∀ {av : AV} {rt rt' : Rts} (t : Nat), (({ F with rt := rt' } : Fr).out o.dst av).sl t = if o.dst = some t then (({ fr with rt := rt } : Fr).out o.dst av).sl t else F.sl t := by
    intro av rt rt' t
    rw [out_sl, out_sl]
    by_cases hdt : o.dst = some t
    · simp [hdt]
    · simp [hdt]
  unfold Fr.execD at h
  unfold Fr.execE
  rw [ev_eq hsl, tup_eq hsl]
  split at h
  · rename_i hqq
    split at h
    · rename_i av rt' hact
      obtain ⟨e1, e2⟩ := act_mono hqq (hq hqq).1 hact
      split at h
      · rename_i hids
        injection h with h
        subst h
        rw [e2]
        subst e1
        have : av.ids.all (fun i => (F.rt i).isSome) = true := by
          rw [List.all_eq_true] at hids ⊢
          intro i hi
          exact (hq hqq).2 i (hids i hi)
        simp only [this, if_true]
        refine ⟨_, rfl, out_ps _ _ _, fun _ => out_rt _ _ _, fun hbb => ?_, fun hqf => ?_, fun t => slots t⟩
        · rw [born_loud hbb] at hqq; cases hqq
        · rw [hqf] at hqq; cases hqq
      · cases h
    · cases h
  · rename_i hqq
    have hqf : o.op.quiet = false := by simpa using hqq
    split at h
    · rename_i hmay
      split at h
      · rename_i av rt1 hact
        split at h
        · rename_i hids
          injection h with h
          subst h
          cases hbb : o.born with
          | true =>
            obtain ⟨_, _, hno⟩ := born_may hbb
            have ht : touch (fr.see o.blind).ev o.op = [] := by
              rw [hno] at hmay
              rw [List.eq_nil_iff_forall_not_mem]
              intro i hi
              have := List.all_eq_true.1 hmay i hi
              cases this
            obtain ⟨r, b1, b2, b3, b4⟩ := act_born hbb ht hact
            subst b2
            have e2 := b4 F.rt (hb hbb)
            rw [e2]
            have : av.ids.all (fun i => (upd F.rt (nid (o.dst.getD 0)) r i).isSome) = true := by
              rw [List.all_eq_true]
              intro i hi
              rw [b3 i hi, updF_same]; rfl
            simp only [this, if_true]
            exact ⟨_, rfl, out_ps _ _ _, fun h => (by rw [hqf] at h; cases h), fun _ => ⟨r, b1, by rw [out_rt], by rw [out_rt]⟩, fun _ h => (by cases hbb.symm.trans h), fun t => slots t⟩
          | false =>
            obtain ⟨hx, hd⟩ := hl hqf hbb
            obtain ⟨rt1', e2, e3⟩ := act_ext hx hd hv hact
            rw [e2]
            have : av.ids.all (fun i => (rt1' i).isSome) = true := by
              rw [List.all_eq_true] at hids ⊢
              intro i hi
              exact e3.1.is (hids i hi)
            simp only [this, if_true]
            exact ⟨_, rfl, out_ps _ _ _, fun h => (by rw [hqf] at h; cases h), fun h => (by cases hbb.symm.trans h), fun _ _ => by rw [out_rt, out_rt]; exact e3, fun t => slots t⟩
        · cases h
      · cases h
    · cases h
theorem stepD_E {D : Nat → Prop} (hv : ∀ f qs, o.op ≠ .callv f qs) (h : fr.stepD call o = some fr') (hsl : (F.see o.blind).sl = (fr.see o.blind).sl) (hq : o.op.quiet = true → Sub (mask o.hide fr.rt) F.rt ∧ ∀ i, (fr.rt i).isSome = true → (F.rt i).isSome = true)
    (hb : o.born = true → F.rt (nid (o.dst.getD 0)) = none) (hl : o.op.quiet = false → o.born = false → Ext D fr.rt F.rt ∧ ∀ j, j < 64 → ¬ D (nid (o.dst.getD 0) + j)) : ∃ F', F.stepE call o = some F' ∧ Like D fr fr' F F' o := by
  unfold Fr.stepD at h
  unfold Fr.stepE
  have hskip : ∀ x, o.g = some x → fr' = fr.out o.dst .undef → Like D fr fr' F (F.out o.dst .undef) o := by
    intro x hg e
    subst e
    refine ⟨out_ps _ _ _, fun _ => out_rt _ _ _, fun hbb => ?_, fun hqf hbf => ?_, fun t => ?_⟩
    · have := (born_may hbb).1
      rw [hg] at this; cases this
    · rw [out_rt, out_rt]
      exact ExtTo.refl (hl hqf hbf).1
    · rw [out_sl, out_sl]
      by_cases hdt : o.dst = some t
      · simp [hdt]
      · simp [hdt]
  rw [hsl]
  split at h
  · rename_i hg
    simp only [hg]
    exact execD_E hv h hsl hq hb hl
  · rename_i s want hg
    simp only [hg]
    split at h
    · rename_i b hb'
      simp only [hb']
      split at h
      · rename_i hbw
        rw [if_pos hbw]
        exact execD_E hv h hsl hq hb hl
      · rename_i hbw
        rw [if_neg hbw]
        injection h with h
        exact ⟨_, rfl, hskip _ hg h.symm⟩
    · rename_i hb'
      simp only [hb']
      injection h with h
      exact ⟨_, rfl, hskip _ hg h.symm⟩
    · cases h
/-- What is present stays present. -/
theorem stepD_pres (hv : ∀ f qs, o.op ≠ .callv f qs) (h : fr.stepD call o = some fr') {i : Nat} (hi : (fr.rt i).isSome = true) : (fr'.rt i).isSome = true := by
  have hE : Ext (fun _ => False) fr.rt fr.rt := ⟨fun _ h => h.elim, fun _ _ => rfl⟩
  have hex : ∀ {fr'}, fr.execD call o = some fr' → (fr'.rt i).isSome = true := by
    intro fr' h
    unfold Fr.execD at h
    split at h
    · split at h
      · split at h
        · injection h with h; subst h; rw [out_rt]; exact hi
        · cases h
      · cases h
    · split at h
      · split at h
        · rename_i hact
          split at h
          · injection h with h; subst h; rw [out_rt]
            obtain ⟨_, _, e⟩ := act_ext hE (fun _ _ h => h) hv hact
            exact e.2.2 i hi
          · cases h
        · cases h
      · cases h
  unfold Fr.stepD at h
  split at h
  · exact hex h
  · split at h
    · split at h
      · exact hex h
      · injection h with h; subst h; rw [out_rt]; exact hi
    · injection h with h; subst h; rw [out_rt]; exact hi
    · cases h
theorem stepD_born (h : fr.stepD call o = some fr') (hb : o.born = true) : ∃ r, fr.rt (nid (o.dst.getD 0)) = none ∧ fr'.rt = upd fr.rt (nid (o.dst.getD 0)) r := by
  obtain ⟨hg, _, hno⟩ := born_may hb
  have hqf := born_loud hb
  unfold Fr.stepD at h
  rw [hg] at h
  simp only [Fr.execD, hqf, Bool.false_eq_true, if_false] at h
  split at h
  · rename_i hmay
    split at h
    · rename_i av rt1 hact
      split at h
      · injection h with h
        subst h
        have ht : touch (fr.see o.blind).ev o.op = [] := by
          rw [hno] at hmay
          rw [List.eq_nil_iff_forall_not_mem]
          intro i hi
          have := List.all_eq_true.1 hmay i hi
          cases this
        obtain ⟨r, b1, b2, _⟩ := act_born hb ht hact
        exact ⟨r, b1, by rw [out_rt]; exact b2⟩
      · cases h
    · cases h
  · cases h
theorem stepD_sl (h : fr.stepD call o = some fr') {t : Nat} (ht : o.dst ≠ some t) : fr'.sl t = fr.sl t := by
  have hout : ∀ (fr : Fr) av, (fr.out o.dst av).sl t = fr.sl t := fun fr av => by rw [out_sl, if_neg ht]
  have hex : ∀ {fr'}, fr.execD call o = some fr' → fr'.sl t = fr.sl t := by
    intro fr' h
    unfold Fr.execD at h
    split at h
    · split at h
      · split at h
        · injection h with h; subst h; exact hout _ _
        · cases h
      · cases h
    · split at h
      · split at h
        · split at h
          · injection h with h; subst h; rw [hout]
          · cases h
        · cases h
      · cases h
  unfold Fr.stepD at h
  split at h
  · exact hex h
  · split at h
    · split at h
      · exact hex h
      · injection h with h; subst h; exact hout _ _
    · injection h with h; subst h; exact hout _ _
    · cases h
theorem stepD_rt (h : fr.stepD call o = some fr') (hq : o.op.quiet = true) : fr'.rt = fr.rt := by
  have hex : ∀ {fr'}, fr.execD call o = some fr' → fr'.rt = fr.rt := by
    intro fr' h
    unfold Fr.execD at h
    rw [if_pos hq] at h
    split at h
    · split at h
      · injection h with h; subst h; exact out_rt _ _ _
      · cases h
    · cases h
  unfold Fr.stepD at h
  split at h
  · exact hex h
  · split at h
    · split at h
      · exact hex h
      · injection h with h; subst h; exact out_rt _ _ _
    · injection h with h; subst h; exact out_rt _ _ _
    · cases h
theorem stepD_keeps (hv : ∀ f qs, o.op ≠ .callv f qs) (h : fr.stepD call o = some fr') : ∀ i r, fr.rt i = some r → o.may.hid i = false → fr'.rt i = some r := by
  cases hq : o.op.quiet with
  | true => rw [stepD_rt h hq]; exact fun _ _ h _ => h
  | false =>
    have hex : ∀ {fr'}, fr.execD call o = some fr' → ∀ i r, fr.rt i = some r → o.may.hid i = false → fr'.rt i = some r := by
      intro fr' h
      unfold Fr.execD at h
      rw [hq, if_neg (by simp)] at h
      split at h
      · rename_i hmay
        split at h
        · rename_i av rt' hact
          split at h
          · injection h with h; subst h
            intro i r hr hn
            rw [out_rt]
            refine act_local hv hact i r hr (fun hi => ?_)
            have := List.all_eq_true.1 hmay i hi
            rw [hn] at this
            cases this
          · cases h
        · cases h
      · cases h
    have hskip : ∀ av, ∀ i r, fr.rt i = some r → o.may.hid i = false → (fr.out o.dst av).rt i = some r := fun av i r hr _ => by rw [out_rt]; exact hr
    unfold Fr.stepD at h
    split at h
    · exact hex h
    · split at h
      · split at h
        · exact hex h
        · injection h with h; subst h; exact hskip _
      · injection h with h; subst h; exact hskip _
      · cases h
theorem stepD_ps (h : fr.stepD call o = some fr') : fr'.ps = fr.ps := by
  have hout : ∀ (fr : Fr) d av, (fr.out d av).ps = fr.ps := fun fr d av => by cases d <;> rfl
  have hex : ∀ {fr'}, fr.execD call o = some fr' → fr'.ps = fr.ps := by
    intro fr' h
    unfold Fr.execD at h
    split at h
    · split at h
      · split at h
        · injection h with h; subst h; exact hout _ _ _
        · cases h
      · cases h
    · split at h
      · split at h
        · split at h
          · injection h with h; subst h; rw [hout]
          · cases h
        · cases h
      · cases h
  unfold Fr.stepD at h
  split at h
  · exact hex h
  · split at h
    · split at h
      · exact hex h
      · injection h with h; subst h; exact hout _ _ _
    · injection h with h; subst h; exact hout _ _ _
    · cases h
/-- The frames on the way. -/
theorem stepsD_trace : ∀ {l : List (Nat × POp)} {fr fr' : Fr}, fr.stepsD call l = some fr' → ∃ C : Nat → Fr, C 0 = fr ∧ C l.length = fr' ∧ ∀ (k : Nat) q, l[k]? = some q → (C k).stepD call q.2 = some (C (k + 1))
  | [], fr, fr', h => by
    simp only [Fr.stepsD, Option.some.injEq] at h
    exact ⟨fun _ => fr, rfl, h, fun k q hk => by simp at hk⟩
  | o :: l, fr, fr', h => by
    simp only [Fr.stepsD] at h
    split at h
    · rename_i fr1 h1
      obtain ⟨C, c0, c1, c2⟩ := stepsD_trace h
      refine ⟨fun n => match n with | 0 => fr | n + 1 => C n, rfl, c1, fun k q hk => ?_⟩
      cases k with
      | zero =>
        simp only [List.getElem?_cons_zero, Option.some.injEq] at hk
        subst hk
        show fr.stepD call o.2 = some (C 0)
        rw [c0]; exact h1
      | succ k =>
        simp only [List.getElem?_cons_succ] at hk
        exact c2 k q hk
    · cases h
theorem stepsD_ps : ∀ {l : List (Nat × POp)} {fr fr' : Fr}, fr.stepsD call l = some fr' → fr'.ps = fr.ps
  | [], fr, fr', h => by simp only [Fr.stepsD, Option.some.injEq] at h; subst h; rfl
  | o :: l, fr, fr', h => by
    simp only [Fr.stepsD] at h
    split at h
    · rename_i fr1 h1
      exact (stepsD_ps h).trans (stepD_ps h1)
    · cases h
end
end Go.Proofs.YtecmolmlojehgaaGreat.T
