/- Drawn regions: operations that change no root, and what the others leave as it was. Drawn regions: what an operation leaves as it was. Drawn regions: whatever order the operations come up in, the frame behind them is the same. Drawn regions: the stages on the way, and the region as a whole. Code. A function's end. A function gives what its code gives. The whole: what den gives, the Go functions give. -/
import Derived.Test.YtkiklfcfdopplaaMD
namespace Go.Proofs.Ytkiklfcfdopplaa.T
open Go

def Sub (rt rt' : Rts) : Prop := ∀ i r, rt i = some r → rt' i = some r
section
variable {rt rt' rt1 : Rts} {call : Nat → List Arg → Option Res} {ev : Ev} {tp : Nat → Option (List A1)} {dst : Nat} {av : AV}
theorem rowAt_mono (hs : Sub rt rt') {id : Nat} {p : Path} {x : Bool × C} (h : rowAt rt id p = some x) : rowAt rt' id p = some x := by
  unfold rowAt at h ⊢
  split at h
  · rename_i d t c hr
    rw [hs id _ hr]
    exact h
  · cases h
theorem cont_mono (hs : Sub rt rt') {x : SV} {c : C} (h : cont rt x = some c) : cont rt' x = some c := by
  cases x with
  | c c0 => cases c0 <;> exact h
  | nil k => exact h
  | ref id p off len =>
    simp only [cont] at h ⊢
    split at h
    · rename_i d c' hr
      rw [rowAt_mono hs hr]
      exact h
    · cases h
  | pb id off => cases h
  | pe id p i off => cases h
  | pm cs off => cases h
theorem load_mono (hs : Sub rt rt') {n : Nat} {x : SV} {ys : List SV} (h : load rt n x = some ys) : load rt' n x = some ys := by
  cases x with
  | pb id off =>
    simp only [load] at h ⊢
    split at h
    · rename_i xs hr; rw [hs id _ hr]; exact h
    · cases h
  | pe id p i off =>
    simp only [load] at h ⊢
    split at h
    · rename_i d c' hr; rw [rowAt_mono hs hr]; exact h
    · cases h
  | pm cs off => exact h
  | c c => cases h
  | nil k => cases h
  | ref id p off len => cases h
theorem index_mono (hs : Sub rt rt') {sz : Nat} {x y : SV} {i : Int} (h : index rt sz x i = some y) : index rt' sz x i = some y := by
  cases x with
  | c c => exact h
  | ref id p off len =>
    simp only [index] at h ⊢
    split at h
    · rename_i d c' hr; rw [rowAt_mono hs hr]; exact h
    · cases h
  | nil k => cases h
  | pb id off => cases h
  | pe id p i off => cases h
  | pm cs off => cases h
theorem slice_mono (hs : Sub rt rt') {sz : Nat} {x y : SV} {l u : Option Int} (h : slice rt sz x l u = some y) : slice rt' sz x l u = some y := by
  cases x with
  | c c => cases c <;> exact h
  | nil k => exact h
  | ref id p off len =>
    simp only [slice] at h ⊢
    split at h
    · rename_i d c' hr; rw [rowAt_mono hs hr]; exact h
    · cases h
  | pb id off => cases h
  | pe id p i off => cases h
  | pm cs off => cases h
theorem map_rt {α : Type} {o : Option α} {f : α → AV} {rt rt1 rt' : Rts} {av : AV} (h : o.map (fun a => (f a, rt)) = some (av, rt1)) : rt1 = rt ∧ o.map (fun a => (f a, rt')) = some (av, rt') := by
  rw [Option.map_eq_some_iff] at h
  obtain ⟨a, rfl, h2⟩ := h
  injection h2 with h2 h3
  exact ⟨h3.symm, by rw [Option.map_some, h2]⟩
theorem act_mono {p : PO} (hq : p.quiet = true) (hs : Sub rt rt') (h : act call ev tp rt dst p = some (av, rt1)) : rt1 = rt ∧ act call ev tp rt' dst p = some (av, rt') := by
  cases p with
  | ld agg n x =>
    simp only [act] at h ⊢
    split at h
    · split at h
      · rename_i xs hl
        rw [load_mono hs hl]
        exact map_rt h
      · cases h
    · cases h
  | b2s x =>
    simp only [act] at h ⊢
    split at h
    · split at h
      · rename_i es sp hc
        rw [cont_mono hs hc]
        exact map_rt h
      · cases h
    · cases h
  | ia sz x i =>
    simp only [act] at h ⊢
    split at h
    · rw [Option.map_eq_some_iff] at h
      obtain ⟨y, h1, h2⟩ := h
      injection h2 with h2 h3
      rw [index_mono hs h1]
      exact ⟨h3.symm, by rw [Option.map_some, h2]⟩
    · cases h
  | slc sz x lo hi =>
    simp only [act] at h ⊢
    split at h
    · rw [Option.map_eq_some_iff] at h
      obtain ⟨y, h1, h2⟩ := h
      injection h2 with h2 h3
      rw [slice_mono hs h1]
      exact ⟨h3.symm, by rw [Option.map_some, h2]⟩
    · cases h
  | mv x => simp only [act] at h ⊢; exact map_rt h
  | mvt t => simp only [act] at h ⊢; exact map_rt h
  | conv k x => simp only [act] at h ⊢; exact map_rt h
  | mkf f caps => simp only [act] at h ⊢; exact map_rt h
  | _ =>
    first
      | (cases hq; done)
      | (simp only [act] at h ⊢
         repeat' split at h
         all_goals first
           | (cases h; done)
           | exact map_rt h
           | (injection h with h; injection h with h2 h3; subst h2 h3; exact ⟨rfl, by simp_all⟩)
           | (exact ⟨(map_rt (rt' := rt') h).1, by have := (map_rt (rt' := rt') h).2; simp_all⟩))
end
end Go.Proofs.Ytkiklfcfdopplaa.T
namespace Go.Proofs.Ytkiklfcfdopplaa.T
open Go

/-- What is present and not named stays. -/
def Keeps (l : List Nat) (rt rt1 : Rts) : Prop := ∀ i r, rt i = some r → i ∉ l → rt1 i = some r
section
variable {rt rt' rt1 rt2 : Rts} {call : Nat → List Arg → Option Res} {ev : Ev} {tp : Nat → Option (List A1)} {dst : Nat} {av : AV}
theorem Keeps.refl (l : List Nat) : Keeps l rt rt := fun _ _ h _ => h
theorem Keeps.trans {l l' : List Nat} (h : Keeps l rt rt1) (k : Keeps l' rt1 rt2) : Keeps (l ++ l') rt rt2 := fun i r hr hn => k i r (h i r hr (fun e => hn (List.mem_append_left _ e))) (fun e => hn (List.mem_append_right _ e))
theorem Keeps.mono {l l' : List Nat} (h : Keeps l rt rt1) (hl : ∀ i ∈ l, i ∈ l') : Keeps l' rt rt1 := fun i r hr hn => h i r hr (fun e => hn (hl i e))
theorem Keeps.upd (i : Nat) (r : Root) : Keeps [i] rt (upd rt i r) := fun j s hs hn => by
  have : j ≠ i := fun e => hn (by simp [e])
  rw [updF_ne _ _ this]; exact hs
theorem newRt_keeps {id : Nat} {r : Root} (h : newRt rt id r = some rt1) : Keeps [] rt rt1 := by
  obtain ⟨h1, _, _, rfl⟩ := newRt_spec h
  intro i s hs _
  have : i ≠ id := fun e => by subst e; rw [h1] at hs; cases hs
  rw [updF_ne _ _ this]; exact hs
theorem take_keeps {x : SV} {o : Ow} {c : C} (h : take rt x = some (o, c, rt1)) : Keeps x.ids rt rt1 := by
  cases x with
  | c c => simp only [take, Option.some.injEq, Prod.mk.injEq] at h; obtain ⟨_, _, rfl⟩ := h; exact Keeps.refl _
  | nil k => simp only [take, Option.some.injEq, Prod.mk.injEq] at h; obtain ⟨_, _, rfl⟩ := h; exact Keeps.refl _
  | pb id off => cases h
  | pe id p i off => cases h
  | pm cs off => cases h
  | ref id p off len =>
    cases p with
    | nil =>
      simp only [take] at h
      split at h
      · split at h
        · split at h
          · simp only [Option.some.injEq, Prod.mk.injEq] at h; obtain ⟨_, _, rfl⟩ := h; exact Keeps.upd _ _
          · cases h
        · cases h
      · cases h
    | cons y p =>
      simp only [take] at h
      split at h
      · split at h
        · split at h
          · split at h
            · simp only [Option.some.injEq, Prod.mk.injEq] at h; obtain ⟨_, _, rfl⟩ := h; exact Keeps.upd _ _
            · cases h
          · cases h
        · cases h
      · cases h
theorem takes_keeps : ∀ {xs : List SV} {rt rt1 : Rts} {l : List (Ow × C)}, takes rt xs = some (l, rt1) → Keeps (xs.flatMap (·.ids)) rt rt1
  | [], rt, rt1, l, h => by simp only [takes, Option.some.injEq, Prod.mk.injEq] at h; obtain ⟨_, rfl⟩ := h; exact Keeps.refl _
  | x :: xs, rt, rt1, l, h => by
    simp only [takes] at h
    split at h
    · rename_i o c rtm hm
      split at h
      · rename_i l' rtn hn
        simp only [Option.some.injEq, Prod.mk.injEq] at h
        obtain ⟨_, rfl⟩ := h
        exact ((take_keeps hm).trans (takes_keeps hn)).mono (fun i hi => by simpa using hi)
      · cases h
    · cases h
theorem idsS_eq {x : Opd} {s : SV} (h : evS ev x = some s) : idsS ev x = s.ids := by simp [idsS, h]
theorem idsC_eq {x : Opd} {xs : List SV} (h : evC ev x = some xs) : idsC ev x = xs.flatMap (·.ids) := by simp [idsC, h]
theorem store_keeps {xs : List SV} {p : SV} (h : store rt xs p = some rt1) : Keeps (p.ids ++ xs.flatMap (·.ids)) rt rt1 := by
  cases p with
  | pb id off =>
    simp only [store] at h
    split at h
    · split at h
      · split at h
        · injection h with h; subst h; exact (Keeps.upd _ _).mono (fun i hi => List.mem_append_left _ hi)
        · cases h
      · cases h
    · cases h
  | pe id p i off =>
    simp only [store] at h
    split at h
    · rename_i l rtm ht
      split at h
      · split at h
        · split at h
          · split at h
            · injection h with h; subst h
              exact ((takes_keeps ht).trans (Keeps.upd _ _)).mono (fun i hi => by
                rcases List.mem_append.1 hi with hi | hi
                · exact List.mem_append_right _ hi
                · exact List.mem_append_left _ hi)
            · cases h
          · cases h
        · cases h
      · cases h
    · cases h
  | c c => cases h
  | nil k => cases h
  | ref id p off len => cases h
  | pm cs off => cases h
theorem takesL_keeps {xs : List (List SV)} {l : List (List (Ow × C))} (h : takesL rt xs = some (l, rt1)) : Keeps (xs.flatten.flatMap (·.ids)) rt rt1 := takes_keeps (takesL_flat h).1
theorem source_keeps {k : K} {y : SV} {d : Bool} {c : C} (h : source rt k y = some (d, c, rt1)) : Keeps y.ids rt rt1 := by
  cases k with
  | fl sz =>
    simp only [source] at h
    split at h
    · split at h
      · simp only [Option.some.injEq, Prod.mk.injEq] at h; obtain ⟨_, _, rfl⟩ := h; exact Keeps.refl _
      · cases h
    · cases h
  | sl sz =>
    simp only [source] at h
    split at h
    · rename_i ht
      split at h
      · simp only [Option.some.injEq, Prod.mk.injEq] at h; obtain ⟨_, _, rfl⟩ := h; exact take_keeps (takeSl_spec ht).1
      · cases h
    · cases h
theorem append_keeps {id : Nat} {k : K} {bytes : Nat} {x y r : SV} (h : append rt id k bytes x y = some (r, rt1)) : Keeps (x.ids ++ y.ids) rt rt1 := by
  unfold append at h
  split at h
  · rename_i hs
    split at h
    · rename_i ht
      have h12 := (source_keeps hs).trans (take_keeps (takeSl_spec ht).1)
      have fin : ∀ {rt3 : Rts} {r0 : Root}, newRt _ id r0 = some rt3 → Keeps (x.ids ++ y.ids) rt rt3 := fun h3 => (h12.trans (newRt_keeps h3)).mono (fun i hi => by
        simp only [List.mem_append, List.not_mem_nil, or_false] at hi ⊢
        exact hi.symm)
      repeat' split at h
      all_goals first
        | (cases h; done)
        | (rw [Option.map_eq_some_iff] at h
           obtain ⟨rt3, h1, h2⟩ := h
           injection h2 with _ h2
           subst h2
           exact fin h1)
    · cases h
  · cases h
theorem cellRes_keeps {id : Nat} {x : RC} {y : SV} (h : cellRes rt id x = some (y, rt1)) : Keeps [] rt rt1 := by
  unfold cellRes at h
  split at h
  · simp only [Option.some.injEq, Prod.mk.injEq] at h; obtain ⟨_, rfl⟩ := h; exact Keeps.refl _
  · simp only [Option.some.injEq, Prod.mk.injEq] at h; obtain ⟨_, rfl⟩ := h; exact Keeps.refl _
  · split at h
    · rw [Option.map_eq_some_iff] at h
      obtain ⟨rt3, h1, h2⟩ := h
      injection h2 with _ h2
      subst h2
      exact newRt_keeps h1
    · cases h
theorem cellsRes_keeps : ∀ {xs : List RC} {rt rt1 : Rts} {id : Nat} {ys : List SV}, cellsRes rt id xs = some (ys, rt1) → Keeps [] rt rt1
  | [], rt, rt1, id, ys, h => by simp only [cellsRes, Option.some.injEq, Prod.mk.injEq] at h; obtain ⟨_, rfl⟩ := h; exact Keeps.refl _
  | x :: xs, rt, rt1, id, ys, h => by
    simp only [cellsRes] at h
    split at h
    · rename_i h1
      split at h
      · rename_i h2
        simp only [Option.some.injEq, Prod.mk.injEq] at h
        obtain ⟨_, rfl⟩ := h
        exact (cellRes_keeps h1).trans (cellsRes_keeps h2)
      · cases h
    · cases h
theorem back_keeps {ls : List Loc} {ms : List (Option Root)} (h : back rt ls ms = some rt1) (hd : Dist ls) : Keeps (ls.flatMap (fun l => match l with | some (id, _) => [id] | none => [])) rt rt1 := by
  intro i r hr hn
  rw [(back_spec (k := 0) h hd).1 i (fun j p e => hn (by
    rw [List.mem_flatMap]
    exact ⟨_, List.mem_of_getElem? e, by simp⟩))]
  exact hr
/-- Where what is handed over lies. -/
theorem argOf_loc {q : Bool × Opd} {g : Arg} {id : Nat} {p : Path} (h : argOf ev rt q = some (g, some (id, p))) : q.1 = true ∧ ∃ a, ev q.2 = some a ∧ id ∈ a.ids := by
  obtain ⟨a, ha, hcase⟩ := argOf_spec h
  rcases hcase with ⟨_, a', _, e⟩ | ⟨hq, id', p2, len, d, c', sz, n, tot, rfl, _, _, _, _, e⟩ | ⟨hq, id', xs, rfl, _, _, e⟩
  · injection e with _ e; cases e
  · injection e with _ e; injection e with e; injection e with e _; subst e
    exact ⟨hq, _, ha, by simp [A1.ids, SV.ids]⟩
  · injection e with _ e; injection e with e; injection e with e _; subst e
    exact ⟨hq, _, ha, by simp [A1.ids, SV.ids]⟩
theorem dist_of {qs : List (Bool × Opd)} {l : List (Arg × Loc)} (hl : mapO (argOf ev rt) qs = some l) (hap : apartB ev rt qs (l.map (·.2)) = true) : Dist (l.map (·.2)) := by
  obtain ⟨m1, m2⟩ := mapO_spec hl
  have hspec := apartB_spec hap (by rw [m1, List.length_map])
  intro i j id p p' h1 h2
  by_cases hij : i = j
  · subst hij
    rw [h1] at h2
    injection h2 with h2; injection h2 with h2; injection h2 with _ h2
    exact ⟨rfl, h2⟩
  · exfalso
    rw [List.getElem?_map, Option.map_eq_some_iff] at h2
    obtain ⟨⟨g, x⟩, k1, k2⟩ := h2
    simp only at k2
    subst k2
    have hlt : j < qs.length := by rw [m1]; exact (List.getElem?_eq_some_iff.1 k1).1
    obtain ⟨_, a, ha, hid⟩ := argOf_loc (m2 j _ _ (List.getElem?_eq_getElem hlt) k1)
    exact (argHas_spec (hspec i j id p _ hij h1 (List.getElem?_eq_getElem hlt)) ha id hid).1 rfl
theorem callR_keeps {f : Nat} {qs : List (Bool × Opd)} (h : callR call ev rt dst f qs = some (av, rt1)) : Keeps (qs.flatMap (fun q => if q.1 then (match ev q.2 with | some a => a.ids | none => []) else [])) rt rt1 := by
  unfold callR at h
  split at h
  · rename_i l hl
    split at h
    · split at h
      · rename_i hc
        simp only [Bool.and_eq_true] at hc
        split at h
        · rename_i rtb hb
          rw [Option.map_eq_some_iff] at h
          obtain ⟨⟨as, rt2⟩, h1, h2⟩ := h
          injection h2 with _ h2
          simp only at h2
          subst h2
          obtain ⟨ys, e1, _⟩ := valsRes_cells h1
          refine ((back_keeps hb (dist_of hl hc.1.2)).trans (cellsRes_keeps e1)).mono (fun i hi => ?_)
          simp only [List.append_nil, List.mem_flatMap, List.mem_map] at hi
          obtain ⟨x, ⟨⟨g, y⟩, hm, rfl⟩, hi⟩ := hi
          cases y with
          | none => cases hi
          | some z =>
            obtain ⟨id, p⟩ := z
            simp only [List.mem_singleton] at hi
            subst hi
            obtain ⟨m1, m2⟩ := mapO_spec hl
            obtain ⟨j, hj⟩ := List.getElem?_of_mem hm
            have hlt : j < qs.length := by rw [m1]; exact (List.getElem?_eq_some_iff.1 hj).1
            obtain ⟨hq, a, ha, hid⟩ := argOf_loc (m2 j _ _ (List.getElem?_eq_getElem hlt) hj)
            rw [List.mem_flatMap]
            exact ⟨qs[j], List.getElem_mem hlt, by rw [hq, ha]; exact hid⟩
        · cases h
      · cases h
    · cases h
  · cases h
theorem map_newRt {id : Nat} {r : Root} {f : Rts → AV} (h : (newRt rt id r).map (fun x => (f x, x)) = some (av, rt1)) : Keeps [] rt rt1 := by
  rw [Option.map_eq_some_iff] at h
  obtain ⟨rt3, h1, h2⟩ := h
  injection h2 with _ h2
  subst h2
  exact newRt_keeps h1
theorem act_local {p : PO} (hv : ∀ f qs, p ≠ .callv f qs) (h : act call ev tp rt dst p = some (av, rt1)) : Keeps (touch ev p) rt rt1 := by
  by_cases hq : p.quiet = true
  · rw [(act_mono hq (fun _ _ h => h) h).1]; exact Keeps.refl _
  · cases p with
    | mkn k => simp only [act] at h; exact map_newRt (f := fun _ => _) h
    | box x =>
      simp only [act] at h
      split at h
      · exact map_newRt (f := fun _ => _) h
      · cases h
    | alloc z => simp only [act] at h; exact map_newRt (f := fun _ => _) h
    | bs k parts =>
      simp only [act] at h
      split at h
      · rename_i l hl
        split at h
        · rename_i es rtm ht
          split at h
          · have h1 := map_newRt (f := fun _ => _) h
            refine ((takesL_keeps ht).trans h1).mono (fun i hi => ?_)
            simp only [List.append_nil, List.mem_flatMap, List.mem_flatten] at hi
            obtain ⟨x, ⟨y, hy, hxy⟩, hi⟩ := hi
            obtain ⟨m1, m2⟩ := mapO_spec hl
            obtain ⟨j, hj⟩ := List.getElem?_of_mem hy
            have hlt : j < parts.length := by rw [m1]; exact (List.getElem?_eq_some_iff.1 hj).1
            simp only [touch, List.mem_flatMap]
            exact ⟨parts[j], List.getElem_mem hlt, by rw [idsC_eq (m2 j _ y (List.getElem?_eq_getElem hlt) hj), List.mem_flatMap]; exact ⟨x, hxy, hi⟩⟩
          · cases h
        · cases h
      · cases h
    | st n x y =>
      simp only [act] at h
      split at h
      · rename_i q xs h1 h2
        split at h
        · rw [Option.map_eq_some_iff] at h
          obtain ⟨rt3, h3, h4⟩ := h
          injection h4 with _ h4
          subst h4
          simp only [touch, idsS_eq h1, idsC_eq h2]
          exact store_keeps h3
        · cases h
      · cases h
    | app k bytes x y =>
      simp only [act] at h
      split at h
      · rename_i q r h1 h2
        rw [Option.map_eq_some_iff] at h
        obtain ⟨⟨z, rt3⟩, h3, h4⟩ := h
        injection h4 with _ h4
        simp only at h4
        subst h4
        simp only [touch, idsS_eq h1, idsS_eq h2]
        exact append_keeps h3
      · cases h
    | call f qs => exact callR_keeps h
    | callv f qs => exact absurd rfl (hv f qs)
    | mks k bytes zero len cap =>
      simp only [act] at h
      repeat' split at h
      all_goals first
        | (cases h; done)
        | exact map_newRt (f := fun _ => _) h
    | _ => exact absurd rfl hq
end
end Go.Proofs.Ytkiklfcfdopplaa.T
namespace Go.Proofs.Ytkiklfcfdopplaa.T
open Go
variable (ids : Nat → FuncId)

/-! ### A drawn number is no part of memory -/
section
variable {ids} {w : World} {home : Home} {hd : Lb → Value} {rt : Rts} {d : Nat}
theorem hdAt_drew : ∀ (p : Path) (c : C) (u : Value), hdAt { w with drawn := d } c u p = hdAt w c u p
  | [], c, u => by cases c <;> rfl
  | (i, j) :: p, c, u => by
    cases c <;> simp only [hdAt, hdAt_drew p] <;> rfl
theorem CR.drew {t : Tg} {c : C} {u : Value} (h : CR w home t c u) : CR { w with drawn := d } home t c u := h.move (fun _ _ _ hl => ⟨rfl, hl⟩) (Ok.refl _)
theorem SVR.drew {x : SV} {v : Value} (h : SVR w home hd rt x v) : SVR { w with drawn := d } home hd rt x v := by
  cases x with
  | c c => exact CR.drew h
  | nil k => exact h
  | ref id p off n => exact ⟨h.1, fun d t c h1 h2 c' u h3 h4 => h.2 d t c h1 h2 c' u h3 (by rw [hdAt_drew] at h4; exact h4)⟩
  | pb id off => exact h
  | pe id p i off => exact ⟨h.1, fun d t c h1 h2 c' u h3 h4 => h.2 d t c h1 h2 c' u h3 (by rw [hdAt_drew] at h4; exact h4)⟩
  | pm cs off =>
    obtain ⟨b, o, e, h⟩ := h
    refine ⟨b, o, e, fun j c hc => ?_⟩
    obtain ⟨h1, u, h2, h3⟩ := h j c hc
    exact ⟨h1, u, h2, h3.drew⟩
theorem RtR.drew {F : Nat → Option Root} (h : RtR w home hd rt F) : RtR { w with drawn := d } home hd rt F := by
  refine ⟨fun l r hr => ?_, h.lab, h.wf⟩
  have := h.root l r hr
  cases r with
  | arr d t c => exact CR.drew this
  | gone => trivial
  | box xs =>
    rcases this with h1 | ⟨b, cur, e, k1, k2, k3, k4⟩
    · exact Or.inl h1
    · exact Or.inr ⟨b, cur, e, k1, k2, k3, k4.1, fun i x y hx hy => (k4.2 i x y hx hy).drew⟩
theorem Step.drew {F : Nat → Option Root} (h : RtR w home hd rt F) : Step w home hd rt F { w with drawn := d } home hd rt F :=
  ⟨h.drew, fun _ _ _ h => h.drew, fun _ h => h, rfl, rfl, rfl, Nat.le_refl _, fun _ _ h => ⟨rfl, h⟩, fun _ _ _ h => ⟨rfl, h⟩, fun _ _ r hr hne => ⟨rfl, r, hr, hne⟩⟩
theorem FrR.drew {N : Nat} {fr : Fr} {a : Act} (h : FrR ids w home hd N fr a) : FrR ids { w with drawn := d } home hd N fr a :=
  ⟨h.rel.drew, fun t av ht => by
    obtain ⟨v, h1, h2, h3⟩ := h.sl t av ht
    exact ⟨v, h1, AVR.step (Step.drew h.rel) h2 h3, h3⟩, h.sz, h.nd⟩
theorem FrR.see {N : Nat} {fr : Fr} {a : Act} (h : FrR ids w home hd N fr a) (b : List Nat) : FrR ids w home hd N (fr.see b) a :=
  ⟨h.rel, fun t av ht => by
    simp only [Fr.see] at ht
    split at ht
    · cases ht
    · exact h.sl t av ht, h.sz, h.nd⟩
end

/-! ### One operation, wherever it comes up -/
def Fr.execE (call : Nat → List Arg → Option Res) (fr : Fr) (o : POp) : Option Fr :=
  match act call (fr.see o.blind).ev (fr.see o.blind).tup fr.rt (o.dst.getD 0) o.op with
  | some (a, rt) => if a.ids.all (fun i => (rt i).isSome) then some ({ fr with rt }.out o.dst a) else none
  | none => none
def Fr.stepE (call : Nat → List Arg → Option Res) (fr : Fr) (o : POp) : Option Fr :=
  match o.g with
  | none => fr.execE call o
  | some (s, want) =>
    match (fr.see o.blind).sl s with
    | some (.v (.s (.c (.val (.bool b))))) => if b = want then fr.execE call o else some (fr.out o.dst .undef)
    | some .undef => some (fr.out o.dst .undef)
    | _ => none
def mOpD (P : Program) (N : Nat) (ops : Array Oper) (o : Oper) (p : POp) : Bool := mDst N o.dst p.dst && mG ops o.guard p.g && mAny ids P o.op p.op
section
variable {ids} {P : Program} {w : World} {home : Home} {hd : Lb → Value} {N : Nat} {fr fr' : Fr} {a : Act} {call : Nat → List Arg → Option Res} {ops : Array Oper}
theorem execE_ok (hcall : ∀ f args r, call f args = some r → Sat ids P (ids f) args r) (h : FrR ids w home hd N fr a) {o : Oper} {p : POp} (hd0 : mDst N o.dst p.dst = true) (hm : mAny ids P o.op p.op = true) (he : fr.execE call p = some fr') {next : Act → World → Prop} {Q : Exit → Act → World → Prop}
    (hn : ∀ a' w' home' hd', Grow w home hd fr.rt w' home' hd' fr'.rt → FrR ids w' home' hd' N fr' a' → (∀ i, (fr.rt i).isSome = true → (fr'.rt i).isSome = true) → next a' w') : o.wp P a w next Q := by
  obtain ⟨hdst, hlt⟩ := mDst_spec hd0
  unfold Fr.execE at he
  split at he
  · rename_i av rt' hact
    split at he
    · rename_i hids
      injection he with he
      subst he
      have hp : ∀ i ∈ av.ids, (rt' i).isSome = true := fun i hi => List.all_eq_true.1 hids i hi
      have hs := h.see p.blind
      have hok : OpOk ids P o a w home hd fr.rt av rt' := by
        have hev := hs.ev
        cases hpo : p.op with
        | call f qs =>
          rw [hpo] at hm hact
          exact ok_call h.rel hev hcall hm hact
        | callv f qs =>
          rw [hpo] at hm hact
          simp only [act] at hact
          split at hact
          · rename_i g caps hf
            exact ok_callv h.rel hev hcall hm hf hact
          · cases hact
        | _ =>
          rw [hpo] at hm hact
          refine act_ok h.rel hev hs.tp ?_ hact
          exact hm
      refine hok next Q (fun v w' home' hd' s hv => hn _ w' home' hd' ?_ ?_ ?_)
      · cases p.dst <;> exact s.grow
      · rw [← hdst]
        exact h.put s (fun t ht => hlt t ht) hv hp
      · intro i hi; cases p.dst <;> exact s.pres i hi
    · cases he
  · cases he
theorem stepE_ok (hcall : ∀ f args r, call f args = some r → Sat ids P (ids f) args r) (h : FrR ids w home hd N fr a) {o : Oper} {p : POp} (hm : mOpD ids P N ops o p = true) (he : fr.stepE call p = some fr') {next : Act → World → Prop} {Q : Exit → Act → World → Prop}
    (hn : ∀ a' w' home' hd', Grow w home hd fr.rt w' home' hd' fr'.rt → FrR ids w' home' hd' N fr' a' → (∀ i, (fr.rt i).isSome = true → (fr'.rt i).isSome = true) → next a' w') :
    if Region.wanted o (yielded ops a.tmps) then o.wp P a w next Q ∨ (o.asks P a w ∧ LetsOut Q) else next (a.put o.dst undef) w := by
  simp only [mOpD, Bool.and_eq_true] at hm
  obtain ⟨⟨h1, h2⟩, h3⟩ := hm
  have hput : fr' = fr.out p.dst .undef → next (a.put o.dst undef) w := by
    intro e
    obtain ⟨hdst, hlt⟩ := mDst_spec h1
    refine hn _ w home hd ?_ ?_ ?_
    · rw [e]; cases p.dst <;> exact Grow.refl
    · rw [e, hdst]
      have := h.put (Step.refl h.rel) (d := p.dst) (fun t ht => hlt t (by rw [hdst]; exact ht)) (av := .undef) (v := undef) rfl (fun i hi => by cases hi)
      exact this
    · intro i hi; rw [e]; cases p.dst <;> exact hi
  unfold Fr.stepE at he
  cases hg : o.guard with
  | none =>
    rw [hg] at h2
    cases hpg : p.g with
    | some x => rw [hpg] at h2; obtain ⟨j, b⟩ := x; cases h2
    | none =>
      rw [hpg] at he
      have hw : Region.wanted o (yielded ops a.tmps) = true := by unfold Region.wanted; rw [hg]
      rw [hw, if_pos rfl]
      exact Or.inl (execE_ok hcall h h1 h3 he hn)
  | some x =>
    obtain ⟨j, want⟩ := x
    rw [hg] at h2
    cases hpg : p.g with
    | none => rw [hpg] at h2; cases h2
    | some y =>
      obtain ⟨s, want'⟩ := y
      rw [hpg] at h2 he
      simp only [mG, Bool.and_eq_true, beq_iff_eq] at h2
      obtain ⟨rfl, hj⟩ := h2
      simp only at he
      split at he
      · rename_i b hs
        obtain ⟨v, e1, e2, _⟩ := (h.see p.blind).sl s _ hs
        have hv : v = .bool b := svR_val (hd := hd) (rt := fr.rt) e2
        have hy : yielded ops a.tmps j = some b := by
          unfold yielded
          rw [hj, Option.bind_some, e1, hv]
        have hw : Region.wanted o (yielded ops a.tmps) = (b == want) := by
          unfold Region.wanted
          rw [hg]
          simp only [hy]
          cases b <;> cases want <;> rfl
        rw [hw]
        split at he
        · rename_i hb
          subst hb
          rw [if_pos (by simp)]
          exact Or.inl (execE_ok hcall h h1 h3 he hn)
        · rename_i hb
          rw [if_neg (by simpa using hb)]
          injection he with he
          exact hput he.symm
      · rename_i hs
        obtain ⟨v, e1, e2, _⟩ := (h.see p.blind).sl s _ hs
        have hv : v = undef := e2
        have hy : yielded ops a.tmps j = none := by
          unfold yielded
          rw [hj, Option.bind_some, e1, hv]
          rfl
        have hw : Region.wanted o (yielded ops a.tmps) = false := by
          unfold Region.wanted
          rw [hg]
          simp only [hy]
          rfl
        rw [hw, if_neg (by simp)]
        injection he with he
        exact hput he.symm
      · cases he
end

/-! ### The order that is written, and any other -/
section
variable {call : Nat → List Arg → Option Res} {fr fr' F : Fr} {o : POp}
theorem out_sl (fr : Fr) (d : Option Nat) (av : AV) (t : Nat) : (fr.out d av).sl t = if d = some t then some av else fr.sl t := by
  cases d with
  | none => simp [Fr.out]
  | some s =>
    simp only [Fr.out, Fr.set, upd, Option.some.injEq]
    by_cases h : t = s
    · subst h; simp
    · rw [if_neg h, if_neg (fun e => h e.symm)]
theorem out_rt (fr : Fr) (d : Option Nat) (av : AV) : (fr.out d av).rt = fr.rt := by cases d <;> rfl
theorem out_ps (fr : Fr) (d : Option Nat) (av : AV) : (fr.out d av).ps = fr.ps := by cases d <;> rfl
theorem ev_eq {F fr : Fr} (h : F.sl = fr.sl) : F.ev = fr.ev := by funext x; cases x <;> simp only [Fr.ev, h]
theorem tup_eq {F fr : Fr} (h : F.sl = fr.sl) : F.tup = fr.tup := by funext x; simp only [Fr.tup, h]
/-- What a step is like, in whatever frame it comes up. -/
def Like (fr fr' F F' : Fr) (o : POp) : Prop := F'.ps = F.ps ∧ F'.rt = (if o.op.quiet then F.rt else fr'.rt) ∧ ∀ t, F'.sl t = if o.dst = some t then fr'.sl t else F.sl t
theorem execD_E (h : fr.execD call o = some fr') (hsl : (F.see o.blind).sl = (fr.see o.blind).sl) (hq : o.op.quiet = true → Sub (mask o.hide fr.rt) F.rt ∧ ∀ i, (fr.rt i).isSome = true → (F.rt i).isSome = true) (hl : o.op.quiet = false → F.rt = fr.rt) : ∃ F', F.execE call o = some F' ∧ Like fr fr' F F' o := by
  unfold Fr.execD at h
  unfold Fr.execE
  rw [ev_eq hsl, tup_eq hsl]
  split at h
  · rename_i hqq
    split at h
    · rename_i av rt' hact
      obtain ⟨e1, e2⟩ := act_mono hqq (hq hqq).1 hact
      split at h
      · rename_i hids
        injection h with h
        subst h
        rw [e2]
        subst e1
        have : av.ids.all (fun i => (F.rt i).isSome) = true := by
          rw [List.all_eq_true] at hids ⊢
          intro i hi
          exact (hq hqq).2 i (hids i hi)
        simp only [this, if_true]
        refine ⟨_, rfl, out_ps _ _ _, ?_, fun t => ?_⟩
        · rw [out_rt, if_pos hqq]
        · rw [out_sl, out_sl]
          by_cases hdt : o.dst = some t
          · simp [hdt]
          · simp [hdt]
      · cases h
    · cases h
  · rename_i hqq
    have hqf : o.op.quiet = false := by simpa using hqq
    rw [hl hqf]
    split at h
    · split at h
      · rename_i av rt' hact
        rw [hact]
        split at h
        · rename_i hids
          injection h with h
          subst h
          simp only [hids, if_true]
          refine ⟨_, rfl, out_ps _ _ _, ?_, fun t => ?_⟩
          · rw [out_rt, out_rt, hqf]; rfl
          · rw [out_sl, out_sl]
            by_cases hdt : o.dst = some t
            · simp [hdt]
            · simp [hdt]
        · cases h
      · cases h
    · cases h
theorem stepD_E (h : fr.stepD call o = some fr') (hsl : (F.see o.blind).sl = (fr.see o.blind).sl) (hq : o.op.quiet = true → Sub (mask o.hide fr.rt) F.rt ∧ ∀ i, (fr.rt i).isSome = true → (F.rt i).isSome = true) (hl : o.op.quiet = false → F.rt = fr.rt) : ∃ F', F.stepE call o = some F' ∧ Like fr fr' F F' o := by
  unfold Fr.stepD at h
  unfold Fr.stepE
  have hskip : fr' = fr.out o.dst .undef → Like fr fr' F (F.out o.dst .undef) o := by
    intro e
    subst e
    refine ⟨out_ps _ _ _, ?_, fun t => ?_⟩
    · rw [out_rt, out_rt]
      cases hqq : o.op.quiet with
      | true => rfl
      | false => exact hl hqq
    · rw [out_sl, out_sl]
      by_cases hdt : o.dst = some t
      · simp [hdt]
      · simp [hdt]
  rw [hsl]
  split at h
  · rename_i hg
    simp only [hg]
    exact execD_E h hsl hq hl
  · rename_i s want hg
    simp only [hg]
    split at h
    · rename_i b hb
      simp only [hb]
      split at h
      · rename_i hbw
        rw [if_pos hbw]
        exact execD_E h hsl hq hl
      · rename_i hbw
        rw [if_neg hbw]
        injection h with h
        exact ⟨_, rfl, hskip h.symm⟩
    · rename_i hb
      simp only [hb]
      injection h with h
      exact ⟨_, rfl, hskip h.symm⟩
    · cases h
theorem stepD_sl (h : fr.stepD call o = some fr') {t : Nat} (ht : o.dst ≠ some t) : fr'.sl t = fr.sl t := by
  have hout : ∀ (fr : Fr) av, (fr.out o.dst av).sl t = fr.sl t := fun fr av => by rw [out_sl, if_neg ht]
  have hex : ∀ {fr'}, fr.execD call o = some fr' → fr'.sl t = fr.sl t := by
    intro fr' h
    unfold Fr.execD at h
    split at h
    · split at h
      · split at h
        · injection h with h; subst h; exact hout _ _
        · cases h
      · cases h
    · split at h
      · split at h
        · split at h
          · injection h with h; subst h; rw [hout]
          · cases h
        · cases h
      · cases h
  unfold Fr.stepD at h
  split at h
  · exact hex h
  · split at h
    · split at h
      · exact hex h
      · injection h with h; subst h; exact hout _ _
    · injection h with h; subst h; exact hout _ _
    · cases h
theorem stepD_rt (h : fr.stepD call o = some fr') (hq : o.op.quiet = true) : fr'.rt = fr.rt := by
  have hex : ∀ {fr'}, fr.execD call o = some fr' → fr'.rt = fr.rt := by
    intro fr' h
    unfold Fr.execD at h
    rw [if_pos hq] at h
    split at h
    · split at h
      · injection h with h; subst h; exact out_rt _ _ _
      · cases h
    · cases h
  unfold Fr.stepD at h
  split at h
  · exact hex h
  · split at h
    · split at h
      · exact hex h
      · injection h with h; subst h; exact out_rt _ _ _
    · injection h with h; subst h; exact out_rt _ _ _
    · cases h
theorem stepD_keeps (hv : ∀ f qs, o.op ≠ .callv f qs) (h : fr.stepD call o = some fr') : ∀ i r, fr.rt i = some r → o.may.hid i = false → fr'.rt i = some r := by
  cases hq : o.op.quiet with
  | true => rw [stepD_rt h hq]; exact fun _ _ h _ => h
  | false =>
    have hex : ∀ {fr'}, fr.execD call o = some fr' → ∀ i r, fr.rt i = some r → o.may.hid i = false → fr'.rt i = some r := by
      intro fr' h
      unfold Fr.execD at h
      rw [hq, if_neg (by simp)] at h
      split at h
      · rename_i hmay
        split at h
        · rename_i av rt' hact
          split at h
          · injection h with h; subst h
            intro i r hr hn
            rw [out_rt]
            refine act_local hv hact i r hr (fun hi => ?_)
            have := List.all_eq_true.1 hmay i hi
            rw [hn] at this
            cases this
          · cases h
        · cases h
      · cases h
    have hskip : ∀ av, ∀ i r, fr.rt i = some r → o.may.hid i = false → (fr.out o.dst av).rt i = some r := fun av i r hr _ => by rw [out_rt]; exact hr
    unfold Fr.stepD at h
    split at h
    · exact hex h
    · split at h
      · split at h
        · exact hex h
        · injection h with h; subst h; exact hskip _
      · injection h with h; subst h; exact hskip _
      · cases h
theorem stepD_ps (h : fr.stepD call o = some fr') : fr'.ps = fr.ps := by
  have hout : ∀ (fr : Fr) d av, (fr.out d av).ps = fr.ps := fun fr d av => by cases d <;> rfl
  have hex : ∀ {fr'}, fr.execD call o = some fr' → fr'.ps = fr.ps := by
    intro fr' h
    unfold Fr.execD at h
    split at h
    · split at h
      · split at h
        · injection h with h; subst h; exact hout _ _ _
        · cases h
      · cases h
    · split at h
      · split at h
        · split at h
          · injection h with h; subst h; rw [hout]
          · cases h
        · cases h
      · cases h
  unfold Fr.stepD at h
  split at h
  · exact hex h
  · split at h
    · split at h
      · exact hex h
      · injection h with h; subst h; exact hout _ _ _
    · injection h with h; subst h; exact hout _ _ _
    · cases h
/-- The frames on the way. -/
theorem stepsD_trace : ∀ {l : List (Nat × POp)} {fr fr' : Fr}, fr.stepsD call l = some fr' → ∃ C : Nat → Fr, C 0 = fr ∧ C l.length = fr' ∧ ∀ (k : Nat) q, l[k]? = some q → (C k).stepD call q.2 = some (C (k + 1))
  | [], fr, fr', h => by
    simp only [Fr.stepsD, Option.some.injEq] at h
    exact ⟨fun _ => fr, rfl, h, fun k q hk => by simp at hk⟩
  | o :: l, fr, fr', h => by
    simp only [Fr.stepsD] at h
    split at h
    · rename_i fr1 h1
      obtain ⟨C, c0, c1, c2⟩ := stepsD_trace h
      refine ⟨fun n => match n with | 0 => fr | n + 1 => C n, rfl, c1, fun k q hk => ?_⟩
      cases k with
      | zero =>
        simp only [List.getElem?_cons_zero, Option.some.injEq] at hk
        subst hk
        show fr.stepD call o.2 = some (C 0)
        rw [c0]; exact h1
      | succ k =>
        simp only [List.getElem?_cons_succ] at hk
        exact c2 k q hk
    · cases h
theorem stepsD_ps : ∀ {l : List (Nat × POp)} {fr fr' : Fr}, fr.stepsD call l = some fr' → fr'.ps = fr.ps
  | [], fr, fr', h => by simp only [Fr.stepsD, Option.some.injEq] at h; subst h; rfl
  | o :: l, fr, fr', h => by
    simp only [Fr.stepsD] at h
    split at h
    · rename_i fr1 h1
      exact (stepsD_ps h).trans (stepD_ps h1)
    · cases h
end
end Go.Proofs.Ytkiklfcfdopplaa.T
namespace Go.Proofs.Ytkiklfcfdopplaa.T
open Go
variable (ids : Nat → FuncId)

def inB : Option Nat → List Nat → Bool
  | some t, l => l.contains t
  | none, _ => true
def hideLe : Hide → Hide → Bool
  | .no, _ => true
  | _, .all => true
  | .ids sl l, .ids sl' l' => sl.all (fun s => sl'.contains s) && l.all (fun i => (Hide.ids sl' l').hid i)
  | _, _ => false
theorem hideLe_spec {m h : Hide} (hl : hideLe m h = true) {i : Nat} (hi : m.hid i = true) : h.hid i = true := by
  unfold hideLe at hl
  split at hl
  · cases hi
  · rfl
  · rename_i sl l sl' l'
    simp only [Bool.and_eq_true, List.all_eq_true] at hl
    obtain ⟨h1, h2⟩ := hl
    simp only [Hide.hid, Bool.or_eq_true] at hi
    rcases hi with hi | hi
    · exact h2 i (by simpa using hi)
    · obtain ⟨s, hs, hi⟩ := List.any_eq_true.1 hi
      simp only [Hide.hid, Bool.or_eq_true]
      refine Or.inr (List.any_eq_true.2 ⟨s, by simpa using h1 s hs, hi⟩)
  · cases hl
def ordB (i : Nat) (a b : Nat × POp) : Bool :=
  a.1 != b.1 && (a.2.dst.isNone || a.2.dst != b.2.dst) &&
    (b.2.anc.contains i || (a.2.op.quiet && inB a.2.dst b.2.blind && inB b.2.dst a.2.blind && (b.2.op.quiet || hideLe b.2.may a.2.hide)))
def PO.isV : PO → Bool
  | .callv _ _ => true
  | _ => false
def edgeB (l : List (Nat × POp)) (k : Nat) (e : Edge) : Bool := !Region.binds .any e || (l.take k).any (fun q => q.1 == e.on)
def ancB (l : List (Nat × POp)) (k : Nat) (o : Oper) (p : Nat) : Bool :=
  decide (p < k) && o.after.toList.any (fun e => Region.binds .any e && (((l[p]?).map (·.1) == some e.on) || l.any (fun q => q.1 == e.on && q.2.anc.contains p)))
def oneB (P : Program) (N : Nat) (ops : Array Oper) (l : List (Nat × POp)) (k : Nat) (q : Nat × POp) : Bool :=
  match ops[q.1]? with
  | some o => mOpD ids P N ops o q.2 && !q.2.op.isV && o.after.toList.all (edgeB l k) && q.2.anc.all (ancB l k o)
  | none => false
def pairsB : Nat → List (Nat × POp) → List (Nat × POp) → Bool
  | _, _, [] => true
  | k, pre, b :: l => (pre.zipIdx.all (fun a => ordB a.2 a.1 b)) && pairsB (k + 1) (pre ++ [b]) l
def mD (P : Program) (N : Nat) (ops : Array Oper) (l : List (Nat × POp)) : Bool :=
  P.follows .mixedOrders && l.length == ops.size && (List.range ops.size).all (fun i => l.any (fun q => q.1 == i)) && l.zipIdx.all (fun q => oneB ids P N ops l q.2 q.1) && pairsB 0 [] l

structure Fits (P : Program) (N : Nat) (ops : Array Oper) (l : List (Nat × POp)) : Prop where
  mixed : P.follows .mixedOrders = true
  len : l.length = ops.size
  sur : ∀ i, i < ops.size → ∃ (k : Nat) (q : Nat × POp), l[k]? = some q ∧ q.1 = i
  op : ∀ (k : Nat) (q : Nat × POp), l[k]? = some q → ∃ o, ops[q.1]? = some o ∧ mOpD ids P N ops o q.2 = true ∧ (∀ f qs, q.2.op ≠ .callv f qs) ∧
    (∀ e ∈ o.after.toList, Region.binds .any e = true → ∃ (j : Nat) (q' : Nat × POp), j < k ∧ l[j]? = some q' ∧ q'.1 = e.on) ∧
    (∀ p ∈ q.2.anc, p < k ∧ ∃ e ∈ o.after.toList, Region.binds .any e = true ∧ ∃ (j : Nat) (q' : Nat × POp), l[j]? = some q' ∧ q'.1 = e.on ∧ (p = j ∨ p ∈ q'.2.anc))
  pair : ∀ (i j : Nat) (a b : Nat × POp), i < j → l[i]? = some a → l[j]? = some b → a.1 ≠ b.1 ∧ (∀ t, a.2.dst = some t → b.2.dst ≠ some t) ∧
    (i ∈ b.2.anc ∨ (a.2.op.quiet = true ∧ (∀ t, a.2.dst = some t → t ∈ b.2.blind) ∧ (∀ t, b.2.dst = some t → t ∈ a.2.blind) ∧ (b.2.op.quiet = true ∨ ∀ i, b.2.may.hid i = true → a.2.hide.hid i = true)))
section
variable {ids} {P : Program} {N : Nat} {ops : Array Oper} {l : List (Nat × POp)} {call : Nat → List Arg → Option Res}
theorem inB_spec {d : Option Nat} {b : List Nat} (h : inB d b = true) : ∀ t, d = some t → t ∈ b := by
  intro t e; subst e; simpa [inB] using h
theorem ordB_spec {i : Nat} {a b : Nat × POp} (h : ordB i a b = true) : a.1 ≠ b.1 ∧ (∀ t, a.2.dst = some t → b.2.dst ≠ some t) ∧
    (i ∈ b.2.anc ∨ (a.2.op.quiet = true ∧ (∀ t, a.2.dst = some t → t ∈ b.2.blind) ∧ (∀ t, b.2.dst = some t → t ∈ a.2.blind) ∧ (b.2.op.quiet = true ∨ ∀ i, b.2.may.hid i = true → a.2.hide.hid i = true))) := by
  simp only [ordB, Bool.and_eq_true, Bool.or_eq_true, bne_iff_ne, ne_eq, List.contains_eq_mem, decide_eq_true_eq] at h
  obtain ⟨⟨h1, h2⟩, h3⟩ := h
  refine ⟨h1, fun t e e' => ?_, ?_⟩
  · rcases h2 with h2 | h2
    · rw [e] at h2; cases h2
    · exact h2 (e.trans e'.symm)
  · rcases h3 with h3 | ⟨⟨⟨h3, h4⟩, h5⟩, h6⟩
    · exact Or.inl h3
    · refine Or.inr ⟨h3, inB_spec h4, inB_spec h5, ?_⟩
      rcases h6 with h6 | h6
      · exact Or.inl h6
      · exact Or.inr (fun i hi => hideLe_spec h6 hi)
theorem pairsB_spec : ∀ {rest pre : List (Nat × POp)} {k : Nat}, pairsB k pre rest = true → ∀ (i j : Nat) (a b : Nat × POp), i < pre.length + j → (pre ++ rest)[i]? = some a → rest[j]? = some b → ordB i a b = true
  | [], pre, k, _, i, j, a, b, _, _, hb => by simp at hb
  | c :: rest, pre, k, h, i, j, a, b, hij, ha, hb => by
    simp only [pairsB, Bool.and_eq_true] at h
    obtain ⟨h1, h2⟩ := h
    cases j with
    | zero =>
      simp only [List.getElem?_cons_zero, Option.some.injEq] at hb
      subst hb
      have hlt : i < pre.length := by omega
      rw [List.getElem?_append_left hlt] at ha
      have := List.all_eq_true.1 h1 (a, i) (by
        rw [List.mem_zipIdx_iff_getElem?]
        exact ha)
      exact this
    | succ j =>
      refine pairsB_spec h2 i j a b (by simp; omega) ?_ (by simpa using hb)
      simpa using ha
theorem mD_fits (h : mD ids P N ops l = true) : Fits ids P N ops l := by
  simp only [mD, Bool.and_eq_true, beq_iff_eq] at h
  obtain ⟨⟨⟨⟨h0, h1⟩, h2⟩, h3⟩, h4⟩ := h
  refine ⟨h0, h1, fun i hi => ?_, fun k q hk => ?_, fun i j a b hij ha hb => ?_⟩
  · have := List.all_eq_true.1 h2 i (List.mem_range.2 hi)
    obtain ⟨q, hq, e⟩ := List.any_eq_true.1 this
    obtain ⟨k, hk⟩ := List.mem_iff_getElem?.1 hq
    exact ⟨k, q, hk, by simpa using e⟩
  · have := List.all_eq_true.1 h3 (q, k) (by rw [List.mem_zipIdx_iff_getElem?]; exact hk)
    simp only [oneB] at this
    split at this
    · rename_i o ho
      simp only [Bool.and_eq_true, Bool.not_eq_true'] at this
      obtain ⟨⟨⟨k1, k2⟩, k3⟩, k4⟩ := this
      refine ⟨o, ho, k1, fun f qs e => ?_, fun e he hb => ?_, fun p hp => ?_⟩
      · rw [e] at k2; cases k2
      · have := List.all_eq_true.1 k3 e he
        simp only [edgeB, hb, Bool.not_true, Bool.false_or] at this
        obtain ⟨q', hq', e'⟩ := List.any_eq_true.1 this
        obtain ⟨j, hj⟩ := List.mem_iff_getElem?.1 hq'
        rw [List.getElem?_take] at hj
        split at hj
        · rename_i hjk
          exact ⟨j, q', hjk, hj, by simpa using e'⟩
        · cases hj
      · have := List.all_eq_true.1 k4 p hp
        simp only [ancB, Bool.and_eq_true, decide_eq_true_eq] at this
        obtain ⟨hpk, hany⟩ := this
        obtain ⟨e, he, hx⟩ := List.any_eq_true.1 hany
        simp only [Bool.and_eq_true, Bool.or_eq_true, beq_iff_eq] at hx
        obtain ⟨hb, hx⟩ := hx
        refine ⟨hpk, e, he, hb, ?_⟩
        rcases hx with hx | hx
        · rw [Option.map_eq_some_iff] at hx
          obtain ⟨q', hq', e'⟩ := hx
          exact ⟨p, q', hq', e', Or.inl rfl⟩
        · obtain ⟨q', hq', e'⟩ := List.any_eq_true.1 hx
          obtain ⟨j, hj⟩ := List.mem_iff_getElem?.1 hq'
          simp only [Bool.and_eq_true, beq_iff_eq, List.contains_eq_mem, decide_eq_true_eq] at e'
          exact ⟨j, q', hj, e'.1, Or.inr e'.2⟩
    · cases this
  · exact ordB_spec (pairsB_spec h4 i j a b (by simpa using hij) (by simpa using ha) hb)

/-! ### The way that is written -/
section
variable {C : Nat → Fr} (hF : Fits ids P N ops l) (hC : ∀ (k : Nat) q, l[k]? = some q → (C k).stepD call q.2 = some (C (k + 1)))
include hC in
theorem way_sl {t i : Nat} : ∀ j, i ≤ j → j ≤ l.length → (∀ (k : Nat) q, i ≤ k → k < j → l[k]? = some q → q.2.dst ≠ some t) → (C j).sl t = (C i).sl t := by
  intro j
  induction j with
  | zero => intro h _ _; have : i = 0 := by omega
            subst this; rfl
  | succ j ih =>
    intro h hj hn
    by_cases e : i = j + 1
    · subst e; rfl
    · have hlt : j < l.length := hj
      have hq := List.getElem?_eq_getElem hlt
      rw [stepD_sl (hC j _ hq) (hn j _ (by omega) (by omega) hq)]
      exact ih (by omega) (by omega) (fun k q h1 h2 => hn k q h1 (by omega))
include hC in
theorem way_rt {i : Nat} : ∀ j, i ≤ j → j ≤ l.length → (∀ (k : Nat) q, i ≤ k → k < j → l[k]? = some q → q.2.op.quiet = true) → (C j).rt = (C i).rt := by
  intro j
  induction j with
  | zero => intro h _ _; have : i = 0 := by omega
            subst this; rfl
  | succ j ih =>
    intro h hj hn
    by_cases e : i = j + 1
    · subst e; rfl
    · have hlt : j < l.length := hj
      have hq := List.getElem?_eq_getElem hlt
      rw [stepD_rt (hC j _ hq) (hn j _ (by omega) (by omega) hq)]
      exact ih (by omega) (by omega) (fun k q h1 h2 => hn k q h1 (by omega))
theorem mask_some {h : Hide} {rt : Rts} {i : Nat} {r : Root} (hm : mask h rt i = some r) : rt i = some r ∧ h.hid i = false := by
  cases h with
  | no => exact ⟨hm, rfl⟩
  | all => cases hm
  | ids a b =>
    simp only [mask] at hm
    split at hm
    · cases hm
    · rename_i hh
      exact ⟨hm, by simpa using hh⟩
include hF hC in
theorem way_keeps {h : Hide} {i : Nat} : ∀ j, i ≤ j → j ≤ l.length → (∀ (k : Nat) q, i ≤ k → k < j → l[k]? = some q → q.2.op.quiet = true ∨ ∀ x, q.2.may.hid x = true → h.hid x = true) → Sub (mask h (C i).rt) (C j).rt := by
  intro j
  induction j with
  | zero => intro hi _ _; have : i = 0 := by omega
            subst this; exact fun x r hx => (mask_some hx).1
  | succ j ih =>
    intro hi hj hn
    by_cases e : i = j + 1
    · subst e; exact fun x r hx => (mask_some hx).1
    · have hlt : j < l.length := hj
      have hq := List.getElem?_eq_getElem hlt
      have h1 := ih (by omega) (by omega) (fun k q h1 h2 => hn k q h1 (by omega))
      intro x r hx
      have hxr := h1 x r hx
      rcases hn j _ (by omega) (by omega) hq with h2 | h2
      · rw [stepD_rt (hC j _ hq) h2]; exact hxr
      · obtain ⟨_, _, _, hv, _⟩ := hF.op j _ hq
        refine stepD_keeps hv (hC j _ hq) x r hxr ?_
        cases hm : (l[j]'hlt).2.may.hid x with
        | false => rfl
        | true =>
          have := h2 x hm
          rw [(mask_some hx).2] at this
          cases this
include hF hC in
theorem way_wrote {t k j : Nat} {q : Nat × POp} (hk : l[k]? = some q) (hd : q.2.dst = some t) (hkj : k < j) (hj : j ≤ l.length) : (C j).sl t = (C l.length).sl t := by
  have hno : ∀ (k' : Nat) q', k + 1 ≤ k' → l[k']? = some q' → q'.2.dst ≠ some t := fun k' q' h1 h2 => (hF.pair k k' q q' (by omega) hk h2).2.1 t hd
  rw [way_sl hC j (i := k + 1) (by omega) hj (fun k' q' h1 _ h3 => hno k' q' h1 h3), way_sl hC l.length (i := k + 1) (by omega) (Nat.le_refl _) (fun k' q' h1 _ h3 => hno k' q' h1 h3)]
include hF in
theorem way_uniq {t i j : Nat} {a b : Nat × POp} (ha : l[i]? = some a) (hb : l[j]? = some b) (h1 : a.2.dst = some t) (h2 : b.2.dst = some t) : i = j := by
  rcases Nat.lt_trichotomy i j with h | h | h
  · exact absurd h2 ((hF.pair i j a b h ha hb).2.1 t h1)
  · exact h
  · exact absurd h1 ((hF.pair j i b a h hb ha).2.1 t h2)
include hF in
theorem way_inj {i j : Nat} {a b : Nat × POp} (ha : l[i]? = some a) (hb : l[j]? = some b) (h : a.1 = b.1) : i = j := by
  rcases Nat.lt_trichotomy i j with h' | h' | h'
  · exact absurd h ((hF.pair i j a b h' ha hb).1)
  · exact h'
  · exact absurd h.symm ((hF.pair j i b a h' hb ha).1)

/-! ### Stages -/
def Lst (listed : Array Bool) (i : Nat) : Prop := listed[i]? = some true
open Classical in
noncomputable def stSl (l : List (Nat × POp)) (C : Nat → Fr) (listed : Array Bool) (t : Nat) : Option AV :=
  if ∃ (k : Nat) (q : Nat × POp), l[k]? = some q ∧ Lst listed q.1 ∧ q.2.dst = some t then (C l.length).sl t else (C 0).sl t
noncomputable def stF (l : List (Nat × POp)) (C : Nat → Fr) (listed : Array Bool) (m : Nat) : Fr := { sl := stSl l C listed, rt := (C m).rt, ps := (C 0).ps }
theorem stSl_in {listed : Array Bool} {k t : Nat} {q : Nat × POp} (h1 : l[k]? = some q) (h2 : Lst listed q.1) (h3 : q.2.dst = some t) : stSl l C listed t = (C l.length).sl t := by
  unfold stSl; rw [if_pos ⟨k, q, h1, h2, h3⟩]
theorem stSl_out {listed : Array Bool} {t : Nat} (h : ∀ (k : Nat) (q : Nat × POp), l[k]? = some q → Lst listed q.1 → q.2.dst ≠ some t) : stSl l C listed t = (C 0).sl t := by
  unfold stSl; rw [if_neg (fun ⟨k, q, h1, h2, h3⟩ => h k q h1 h2 h3)]
include hF hC in
theorem st_see {listed : Array Bool} {k m : Nat} {q : Nat × POp} (hk : l[k]? = some q) (hnl : ¬ Lst listed q.1) (hanc : ∀ p ∈ q.2.anc, ∀ q', l[p]? = some q' → Lst listed q'.1)
    (hdown : ∀ (j : Nat) q', l[j]? = some q' → Lst listed q'.1 → ∀ p ∈ q'.2.anc, ∀ q2, l[p]? = some q2 → Lst listed q2.1) : ((stF l C listed m).see q.2.blind).sl = ((C k).see q.2.blind).sl := by
  have hklt : k < l.length := (List.getElem?_eq_some_iff.1 hk).1
  funext t
  simp only [Fr.see, stF]
  split
  · rfl
  · rename_i hb
    have hb : t ∉ q.2.blind := by simpa using hb
    by_cases hw : ∃ (j : Nat) (q' : Nat × POp), l[j]? = some q' ∧ q'.2.dst = some t
    · obtain ⟨j, q', hj, hd⟩ := hw
      have huq : ∀ (i : Nat) (a : Nat × POp), l[i]? = some a → a.2.dst = some t → i = j := fun i a ha hd' => way_uniq hF ha hj hd' hd
      rcases Nat.lt_trichotomy j k with h | h | h
      · rcases (hF.pair j k q' q h hj hk).2.2 with hp | ⟨_, hp, _⟩
        · rw [stSl_in hj (hanc j hp q' hj) hd, way_wrote hF hC hj hd h (Nat.le_of_lt hklt)]
        · exact absurd (hp t hd) hb
      · subst h
        rw [hk] at hj; injection hj with hj; subst hj
        rw [stSl_out (fun i a ha hl hd' => by
          have := huq i a ha hd'
          subst this
          rw [hk] at ha; injection ha with ha; subst ha
          exact hnl hl)]
        rw [way_sl hC j (i := 0) (Nat.zero_le _) (Nat.le_of_lt hklt) (fun i a _ h2 ha hd' => by
          have := huq i a ha hd'
          omega)]
      · rcases (hF.pair k j q q' h hk hj).2.2 with hp | ⟨_, _, hp, _⟩
        · rw [stSl_out (fun i a ha hl hd' => by
            have := huq i a ha hd'
            subst this
            rw [hj] at ha; injection ha with ha; subst ha
            exact hnl (hdown _ _ hj hl k hp q hk))]
          rw [way_sl hC k (i := 0) (Nat.zero_le _) (Nat.le_of_lt hklt) (fun i a _ h2 ha hd' => by
            have := huq i a ha hd'
            omega)]
        · exact absurd (hp t hd) hb
    · rw [stSl_out (fun i a ha _ hd => hw ⟨i, a, ha, hd⟩), way_sl hC k (i := 0) (Nat.zero_le _) (Nat.le_of_lt hklt) (fun i a _ _ ha hd => hw ⟨i, a, ha, hd⟩)]
theorem lst_set {listed : Array Bool} {i j : Nat} : Lst (listed.setIfInBounds i true) j → Lst listed j ∨ j = i := by
  intro h
  unfold Lst at h ⊢
  by_cases e : j = i
  · exact Or.inr e
  · rw [Array.getElem?_setIfInBounds_ne (Ne.symm e)] at h
    exact Or.inl h
theorem lst_old {listed : Array Bool} {i j : Nat} (h : Lst listed j) : Lst (listed.setIfInBounds i true) j := by
  unfold Lst at h ⊢
  by_cases e : j = i
  · subst e
    rw [Array.getElem?_setIfInBounds_self_of_lt (Array.getElem?_eq_some_iff.1 h).1]
  · rw [Array.getElem?_setIfInBounds_ne (Ne.symm e)]; exact h
theorem lst_new {listed : Array Bool} {i : Nat} (h : i < listed.size) : Lst (listed.setIfInBounds i true) i := by
  unfold Lst
  rw [Array.getElem?_setIfInBounds_self_of_lt h]
include hF hC in
theorem st_next {listed : Array Bool} {k m m' : Nat} {q : Nat × POp} (hk : l[k]? = some q) (hsz : q.1 < listed.size) {F' : Fr} (hps : (C 0).ps = F'.ps) (hrt : F'.rt = (C m').rt)
    (hsl : ∀ t, F'.sl t = if q.2.dst = some t then (C (k + 1)).sl t else (stF l C listed m).sl t) : F' = stF l C (listed.setIfInBounds q.1 true) m' := by
  have hklt : k < l.length := (List.getElem?_eq_some_iff.1 hk).1
  have : F'.sl = stSl l C (listed.setIfInBounds q.1 true) := by
    funext t
    rw [hsl t]
    split
    · rename_i hd
      rw [stSl_in hk (lst_new hsz) hd, way_wrote hF hC hk hd (by omega) (by omega)]
    · rename_i hd
      show stSl l C listed t = _
      by_cases hw : ∃ (j : Nat) (q' : Nat × POp), l[j]? = some q' ∧ Lst listed q'.1 ∧ q'.2.dst = some t
      · obtain ⟨j, q', h1, h2, h3⟩ := hw
        rw [stSl_in h1 h2 h3, stSl_in h1 (lst_old h2) h3]
      · rw [stSl_out (fun j q' h1 h2 h3 => hw ⟨j, q', h1, h2, h3⟩), stSl_out (fun j q' h1 h2 h3 => ?_)]
        rcases lst_set h2 with h2 | h2
        · exact hw ⟨j, q', h1, h2, h3⟩
        · have := way_inj hF h1 hk h2
          subst this
          rw [hk] at h1; injection h1 with h1; subst h1
          exact hd h3
  cases F'
  simp only [stF] at *
  subst this hrt hps
  rfl
theorem ready_spec {listed : Array Bool} {i : Nat} (hsz : listed.size = ops.size) : i ∈ Region.ready .any ops listed ↔ i < ops.size ∧ ¬ Lst listed i ∧ ∃ o, ops[i]? = some o ∧ ∀ e ∈ o.after.toList, Region.binds .any e = true → Lst listed e.on := by
  have hL : ∀ j, listed.getD j false = true ↔ Lst listed j := by
    intro j
    unfold Lst
    rw [Array.getD_eq_getD_getElem?]
    cases h : listed[j]? with
    | none => simp
    | some b => simp
  simp only [Region.ready, List.mem_filter, List.mem_range, Bool.and_eq_true, Bool.not_eq_true']
  refine and_congr_right (fun hi => and_congr ?_ ?_)
  · have hlt : i < listed.size := by rw [hsz]; exact hi
    unfold Lst
    rw [Array.getD_eq_getD_getElem?, Array.getElem?_eq_getElem hlt]
    simp
  · rw [Array.getElem?_eq_getElem hi]
    simp only [Option.map_some, Option.getD_some, Option.some.injEq, exists_eq_left']
    rw [Array.all_eq_true_iff_forall_mem]
    refine ⟨fun h e he hb => ?_, fun h e he => ?_⟩
    · have := h e (by simpa using he)
      rw [hb] at this
      simp only [Bool.not_true, Bool.false_or] at this
      exact (hL _).1 this
    · cases hb : Region.binds .any e with
      | false => rfl
      | true =>
        simp only [Bool.not_true, Bool.false_or]
        exact (hL _).2 (h e (by simpa using he) hb)
structure Inv (w0 : World) (home0 : Home) (hd0 : Lb → Value) (l : List (Nat × POp)) (C : Nat → Fr) (listed : Array Bool) (a : Act) (w : World) (home : Home) (hd : Lb → Value) (m : Nat) : Prop where
  down : ∀ (j : Nat) q', l[j]? = some q' → Lst listed q'.1 → ∀ p ∈ q'.2.anc, ∀ q2, l[p]? = some q2 → Lst listed q2.1
  le : m ≤ l.length
  loud : ∀ (k : Nat) q, l[k]? = some q → q.2.op.quiet = false → (Lst listed q.1 ↔ k < m)
  fr : FrR ids w home hd N (stF l C listed m) a
  grow : Grow w0 home0 hd0 (C 0).rt w home hd (C m).rt
  pres : ∀ j, j ≤ m → ∀ x, ((C j).rt x).isSome = true → ((C m).rt x).isSome = true
include hF hC in
theorem any_ok (hcall : ∀ f args r, call f args = some r → Sat ids P (ids f) args r) {w0 : World} {home0 : Home} {hd0 : Lb → Value} {Q : Exit → Act → World → Prop}
    (hQ : ∀ a' w' home' hd', Grow w0 home0 hd0 (C 0).rt w' home' hd' (C l.length).rt → FrR ids w' home' hd' N (stF l C (Array.replicate ops.size true) l.length) a' → Q .normal a' w') :
    ∀ (fuel : Nat) (listed : Array Bool) (a : Act) (w : World) (home : Home) (hd : Lb → Value) (m : Nat), listed.size = ops.size → listed.toList.count false ≤ fuel → Inv (ids := ids) (N := N) w0 home0 hd0 l C listed a w home hd m → wpAny P .any ops Q fuel listed a w := by
  have hdone : ∀ (listed : Array Bool) (a : Act) (w : World) (home : Home) (hd : Lb → Value) (m : Nat), listed.size = ops.size → Inv (ids := ids) (N := N) w0 home0 hd0 l C listed a w home hd m → Region.ready .any ops listed = [] → Q .normal a w := by
    intro listed a w home hd m hsz hI hr
    have hall : ∀ (k : Nat) q, l[k]? = some q → Lst listed q.1 := by
      intro k
      induction k using Nat.strongRecOn with
      | ind k ih =>
        intro q hk
        by_cases hl : Lst listed q.1
        · exact hl
        · exfalso
          obtain ⟨o, ho, _, _, he, _⟩ := hF.op k q hk
          have : q.1 ∈ Region.ready .any ops listed := (ready_spec hsz).2 ⟨(Array.getElem?_eq_some_iff.1 ho).1, hl, o, ho, fun e hee hb => by
            obtain ⟨j, q', h1, h2, h3⟩ := he e hee hb
            rw [← h3]
            exact ih j h1 q' h2⟩
          rw [hr] at this
          cases this
    have hlt : listed = Array.replicate ops.size true := by
      apply Array.ext_getElem?
      intro i
      by_cases hi : i < ops.size
      · obtain ⟨k, q, hk, rfl⟩ := hF.sur i hi
        have h := hall k q hk
        unfold Lst at h
        rw [h]
        simp [hi]
      · rw [Array.getElem?_eq_none (by omega), Array.getElem?_eq_none (by simp; omega)]
    subst hlt
    have hrt : (C l.length).rt = (C m).rt := way_rt hC l.length hI.le (Nat.le_refl _) (fun k q h1 _ hk => by
      cases hq : q.2.op.quiet with
      | true => rfl
      | false =>
        have := (hI.loud k q hk hq).1 (hall k q hk)
        omega)
    refine hQ a w home hd ?_ ?_
    · rw [hrt]; exact hI.grow
    · have := hI.fr
      simp only [stF] at this ⊢
      rw [hrt]; exact this
  intro fuel
  induction fuel with
  | zero =>
    intro listed a w home hd m hsz hc hI
    have hr : Region.ready .any ops listed = [] := by
      rw [List.eq_nil_iff_forall_not_mem]
      intro i hi
      obtain ⟨h1, h2, _⟩ := (ready_spec hsz).1 hi
      have h0 : listed.toList.count false = 0 := by omega
      rw [List.count_eq_zero] at h0
      have hlt : i < listed.size := by rw [hsz]; exact h1
      apply h2
      unfold Lst
      rw [Array.getElem?_eq_getElem hlt]
      cases hb : listed[i] with
      | true => rfl
      | false => exact absurd (by rw [← hb]; simp) h0
    exact ⟨hr, hdone listed a w home hd m hsz hI hr⟩
  | succ fuel ih =>
    intro listed a w home hd m hsz hc hI
    refine ⟨hdone listed a w home hd m hsz hI, fun i hi => ?_⟩
    obtain ⟨h1, h2, o, ho, he⟩ := (ready_spec hsz).1 hi
    obtain ⟨k, q, hk, rfl⟩ := hF.sur i h1
    have hklt : k < l.length := (List.getElem?_eq_some_iff.1 hk).1
    obtain ⟨o', ho', hm, hv, hedge, hancs⟩ := hF.op k q hk
    rw [ho] at ho'; injection ho' with ho'; subst ho'
    have hanc : ∀ p ∈ q.2.anc, ∀ q', l[p]? = some q' → Lst listed q'.1 := by
      intro p hp q' hq'
      obtain ⟨_, e, hee, hb, j, q2, hj, e2, h⟩ := hancs p hp
      have hl := he e hee hb
      rw [← e2] at hl
      rcases h with h | h
      · subst h
        rw [hj] at hq'; injection hq' with hq'; subst hq'
        exact hl
      · exact hI.down j q2 hj hl p h q' hq'
    have hlt : q.1 < listed.size := by rw [hsz]; exact h1
    have hcnt : (listed.setIfInBounds q.1 true).toList.count false ≤ fuel := by
      have hfalse : listed[q.1]? = some false := by
        rw [Array.getElem?_eq_getElem hlt]
        cases hb : listed[q.1] with
        | false => rfl
        | true => exact absurd (by unfold Lst; rw [Array.getElem?_eq_getElem hlt, hb]) h2
      rw [Array.toList_setIfInBounds, List.count_set (by simpa using hlt)]
      have : listed.toList[q.1]'(by simpa using hlt) = false := by
        rw [Array.getElem?_eq_some_iff] at hfalse
        obtain ⟨_, hf⟩ := hfalse
        simpa using hf
      simp [this] at hc ⊢
      omega
    have hsee := st_see (m := m) hF hC hk h2 hanc hI.down
    have hloudlt : ∀ (j : Nat) q', l[j]? = some q' → q'.2.op.quiet = false → j < k → Lst listed q'.1 := by
      intro j q' hj hq' hjk
      rcases (hF.pair j k q' q hjk hj hk).2.2 with hp | ⟨hp, _⟩
      · exact hanc j hp q' hj
      · rw [hq'] at hp; cases hp
    have hqpres : q.2.op.quiet = true → ∀ i, ((C k).rt i).isSome = true → ((stF l C listed m).rt i).isSome = true := by
      intro hqq i hi
      show ((C m).rt i).isSome = true
      rcases Nat.le_total k m with hkm | hkm
      · exact hI.pres k hkm i hi
      · have : (C k).rt = (C m).rt := way_rt hC k hkm (Nat.le_of_lt hklt) (fun j q' h3 h4 hj => by
          cases hq' : q'.2.op.quiet with
          | true => rfl
          | false =>
            have := (hI.loud j q' hj hq').1 (hloudlt j q' hj hq' h4)
            omega)
        rw [← this]
        exact hi
    have hqsub : q.2.op.quiet = true → Sub (mask q.2.hide (C k).rt) (stF l C listed m).rt := by
      intro hqq
      show Sub _ (C m).rt
      rcases Nat.le_total k m with hkm | hkm
      · refine way_keeps hF hC m hkm hI.le (fun j q' h3 h4 hj => ?_)
        cases hq' : q'.2.op.quiet with
        | true => exact Or.inl rfl
        | false =>
          refine Or.inr ?_
          have hjl := (hI.loud j q' hj hq').2 h4
          have hne : k ≠ j := fun e => by subst e; rw [hk] at hj; injection hj with hj; subst hj; rw [hqq] at hq'; cases hq'
          rcases (hF.pair k j q q' (by omega) hk hj).2.2 with hp | ⟨_, _, _, hp⟩
          · exact absurd (hI.down j q' hj hjl k hp q hk) h2
          · rcases hp with hp | hp
            · rw [hq'] at hp; cases hp
            · exact hp
      · have : (C k).rt = (C m).rt := way_rt hC k hkm (Nat.le_of_lt hklt) (fun j q' h3 h4 hj => by
          cases hq' : q'.2.op.quiet with
          | true => rfl
          | false =>
            have := (hI.loud j q' hj hq').1 (hloudlt j q' hj hq' h4)
            omega)
        rw [← this]
        exact fun x r hx => (mask_some hx).1
    have hmk : q.2.op.quiet = false → m ≤ k ∧ (C m).rt = (C k).rt := by
      intro hqf
      have hmk : m ≤ k := Nat.le_of_not_lt (fun h => h2 ((hI.loud k q hk hqf).2 h))
      refine ⟨hmk, (way_rt hC k hmk (Nat.le_of_lt hklt) (fun j q' h3 h4 hj => ?_)).symm⟩
      cases hq' : q'.2.op.quiet with
      | true => rfl
      | false =>
        have := (hI.loud j q' hj hq').1 (hloudlt j q' hj hq' h4)
        omega
    obtain ⟨F', hF', hps, hrt, hsl⟩ := stepD_E (hC k q hk) hsee (fun hqq => ⟨hqsub hqq, hqpres hqq⟩) (fun hqf => (hmk hqf).2)
    unfold wpOp
    rw [ho]
    simp only []
    refine stepE_ok hcall hI.fr hm hF' (fun a' w' home' hd' g hf hpr => ?_)
    obtain ⟨m', e1, e2, e3, e4⟩ : ∃ m', F'.rt = (C m').rt ∧ m' ≤ l.length ∧ (∀ (j : Nat) q', l[j]? = some q' → q'.2.op.quiet = false → (Lst (listed.setIfInBounds q.1 true) q'.1 ↔ j < m')) ∧ ∀ j, j ≤ m' → ∀ x, ((C j).rt x).isSome = true → ((C m').rt x).isSome = true := by
      cases hqq : q.2.op.quiet with
      | true =>
        refine ⟨m, by rw [hrt, if_pos hqq]; rfl, hI.le, fun j q' hj hq' => ?_, hI.pres⟩
        rw [← hI.loud j q' hj hq']
        refine ⟨fun h => ?_, lst_old⟩
        rcases lst_set h with h | h
        · exact h
        · have := way_inj hF hj hk h
          subst this
          rw [hk] at hj; injection hj with hj; subst hj
          rw [hqq] at hq'; cases hq'
      | false =>
        obtain ⟨hmk1, hmk2⟩ := hmk hqq
        have hF1 : F'.rt = (C (k + 1)).rt := by rw [hrt, hqq]; rfl
        refine ⟨k + 1, hF1, hklt, fun j q' hj hq' => ⟨fun h => ?_, fun h => ?_⟩, fun j hj x hx => ?_⟩
        · rcases lst_set h with h | h
          · have := (hI.loud j q' hj hq').1 h
            omega
          · have := way_inj hF hj hk h
            omega
        · by_cases e : j = k
          · subst e
            rw [hk] at hj; injection hj with hj; subst hj
            exact lst_new hlt
          · exact lst_old (hloudlt j q' hj hq' (by omega))
        · by_cases e : j = k + 1
          · subst e; exact hx
          · rw [← hF1]
            refine hpr x ?_
            show ((C m).rt x).isSome = true
            rcases Nat.le_total j m with hjm | hjm
            · exact hI.pres j hjm x hx
            · have : (C j).rt = (C m).rt := way_rt hC j hjm (by omega) (fun i q' h3 h4 hi => by
                cases hq' : q'.2.op.quiet with
                | true => rfl
                | false =>
                  have := (hI.loud i q' hi hq').1 (hloudlt i q' hi hq' (by omega))
                  omega)
              rw [← this]; exact hx
    have hnext := st_next hF hC (m := m) (m' := m') hk hlt (F' := F') (by rw [hps]; rfl) e1 hsl
    refine ih _ a' w' home' hd' m' (by simpa using hsz) hcnt ⟨fun j q' hj hl p hp q2 hq2 => ?_, e2, e3, ?_, ?_, e4⟩
    · rcases lst_set hl with hl | hl
      · exact lst_old (hI.down j q' hj hl p hp q2 hq2)
      · have := way_inj hF hj hk hl
        subst this
        rw [hk] at hj; injection hj with hj; subst hj
        exact lst_old (hanc p hp q2 hq2)
    · rw [← hnext]; exact hf
    · refine hI.grow.trans ?_
      have h0 : (stF l C listed m).rt = (C m).rt := rfl
      rw [← e1, ← h0]; exact g
end
theorem stepsD_ok (hcall : ∀ f args r, call f args = some r → Sat ids P (ids f) args r) {id : Nat} {w : World} {home : Home} {hd : Lb → Value} {fr fr' : Fr} {a : Act} {Q : Exit → Act → World → Prop} (h : FrR ids w home hd N fr a) (hm : mD ids P N ops l = true) (he : fr.stepsD call l = some fr')
    (hq : ∀ a' w' home' hd', Grow w home hd fr.rt w' home' hd' fr'.rt → FrR ids w' home' hd' N fr' a' → Q .normal a' w') : (Code.region id ops true).wp P Q a w := by
  have hF := mD_fits hm
  obtain ⟨C, c0, c1, hC⟩ := stepsD_trace he
  refine wp_region_any hF.mixed ?_
  have hnone : ∀ i, ¬ Lst (Array.replicate ops.size false) i := by
    intro i hi
    unfold Lst at hi
    rw [Array.getElem?_replicate] at hi
    split at hi <;> cases hi
  have hps : ∀ j, j ≤ l.length → (C j).ps = (C 0).ps := by
    intro j
    induction j with
    | zero => intro _; rfl
    | succ j ih =>
      intro hj
      have hlt : j < l.length := hj
      have hs := hC j _ (List.getElem?_eq_getElem hlt)
      rw [← ih (by omega)]
      exact stepD_ps hs
  have hpres0 : ∀ j, j ≤ 0 → ∀ x, ((C j).rt x).isSome = true → ((C 0).rt x).isSome = true := by
    intro j hj x hx
    have : j = 0 := by omega
    subst this
    exact hx
  refine any_ok hF hC hcall (w0 := w) (home0 := home) (hd0 := hd) (fun a' w' home' hd' g hf => ?_) ops.size _ a _ home hd 0 (by simp) (by simp) ⟨fun j q' hj hl => absurd hl (hnone _), Nat.zero_le _, fun k q hk hqq => ⟨fun hl => absurd hl (hnone _), fun h => absurd h (Nat.not_lt_zero _)⟩, ?_, ?_, hpres0⟩
  · rw [c0, c1] at g
    refine hq a' w' home' hd' g ?_
    have : stF l C (Array.replicate ops.size true) l.length = fr' := by
      have e : stSl l C (Array.replicate ops.size true) = fr'.sl := by
        funext t
        by_cases hw : ∃ (j : Nat) (q' : Nat × POp), l[j]? = some q' ∧ q'.2.dst = some t
        · obtain ⟨j, q', hj, hd'⟩ := hw
          obtain ⟨o, ho, _⟩ := hF.op j q' hj
          rw [stSl_in hj (by unfold Lst; simp [(Array.getElem?_eq_some_iff.1 ho).1]) hd', c1]
        · rw [stSl_out (fun i b hb _ hd' => hw ⟨i, b, hb, hd'⟩), ← c1]
          exact (way_sl hC l.length (i := 0) (Nat.zero_le _) (Nat.le_refl _) (fun i b _ _ hb hd' => hw ⟨i, b, hb, hd'⟩)).symm
      have e2 : (C 0).ps = fr'.ps := by rw [← c1]; exact (hps _ (Nat.le_refl _)).symm
      simp only [stF, e, c1, e2]
    rw [← this]; exact hf
  · have : stF l C (Array.replicate ops.size false) 0 = fr := by
      have e : stSl l C (Array.replicate ops.size false) = fr.sl := by
        funext t
        rw [stSl_out (fun i b hb hl _ => hnone _ hl), c0]
      simp only [stF, e, c0]
    rw [this]
    exact h.drew
  · rw [c0]
    exact (Step.drew h.rel).grow
end
end Go.Proofs.Ytkiklfcfdopplaa.T
namespace Go.Proofs.Ytkiklfcfdopplaa.T
open Go
variable (ids : Nat → FuncId)

def exOf : Ex → Exit
  | .normal => .normal
  | .exit i => .exit i
  | .ret => .ret
def mC (P : Program) (N : Nat) : Code → PC → Bool
  | .skip, .skip => true
  | .region _ ops draw, .ops l _ => !draw && all2 (mOp ids P N ops) ops.toList l
  | .region _ ops draw, .dops l _ => draw && mD ids P N ops l
  | .seq a b, .seq a' b' => mC P N a a' && mC P N b b'
  | .cond c a b, .cond c' a' b' => mOpd ids c c' && mC P N a a' && mC P N b b'
  | .block i c, .block i' c' => i == i' && mC P N c c'
  | .loop c, .loop _ c' => mC P N c c'
  | .exit i, .exit i' => i == i'
  | .ret, .ret => true
  | _, _ => false
section
variable {ids} {P : Program} {N : Nat} {call : Nat → List Arg → Option Res}
theorem step_ps {fr fr' : Fr} {o : POp} (h : fr.step call o = some fr') : fr'.ps = fr.ps := by
  have hout : ∀ (fr : Fr) d av, (fr.out d av).ps = fr.ps := fun fr d av => by cases d <;> rfl
  have hex : ∀ {fr'}, fr.exec call o = some fr' → fr'.ps = fr.ps := by
    intro fr' h
    unfold Fr.exec at h
    split at h
    · split at h
      · injection h with h; subst h; rw [hout]
      · cases h
    · cases h
  unfold Fr.step at h
  split at h
  · exact hex h
  · split at h
    · split at h
      · exact hex h
      · injection h with h; subst h; exact hout _ _ _
    · injection h with h; subst h; exact hout _ _ _
    · cases h
theorem steps_ps : ∀ {l : List POp} {fr fr' : Fr}, fr.steps call l = some fr' → fr'.ps = fr.ps
  | [], fr, fr', h => by simp only [Fr.steps, Option.some.injEq] at h; subst h; rfl
  | o :: l, fr, fr', h => by
    simp only [Fr.steps] at h
    split at h
    · rename_i fr1 h1
      exact (steps_ps h).trans (step_ps h1)
    · cases h
theorem runC_ps : ∀ (pc : PC) {n : Nat} {fr fr' : Fr} {e : Ex}, runC call n pc fr = some (e, fr') → fr'.ps = fr.ps
  | .skip, n, fr, fr', e, h => by simp only [runC, Option.some.injEq, Prod.mk.injEq] at h; obtain ⟨_, rfl⟩ := h; rfl
  | .exit i, n, fr, fr', e, h => by simp only [runC, Option.some.injEq, Prod.mk.injEq] at h; obtain ⟨_, rfl⟩ := h; rfl
  | .ret, n, fr, fr', e, h => by simp only [runC, Option.some.injEq, Prod.mk.injEq] at h; obtain ⟨_, rfl⟩ := h; rfl
  | .dops l k, n, fr, fr', e, h => by
    simp only [runC, Option.map_eq_some_iff, Prod.mk.injEq] at h
    obtain ⟨fr1, h1, _, rfl⟩ := h
    have := stepsD_ps h1
    exact this
  | .ops l k, n, fr, fr', e, h => by
    simp only [runC, Option.map_eq_some_iff, Prod.mk.injEq] at h
    obtain ⟨fr1, h1, _, rfl⟩ := h
    have := steps_ps h1
    exact this
  | .seq a b, n, fr, fr', e, h => by
    simp only [runC] at h
    split at h
    · rename_i fr1 h1
      exact (runC_ps b h).trans (runC_ps a h1)
    · exact runC_ps a h
  | .cond c a b, n, fr, fr', e, h => by
    simp only [runC] at h
    split at h
    · split at h
      · exact runC_ps a h
      · exact runC_ps b h
    · cases h
  | .block i c, n, fr, fr', e, h => by
    simp only [runC] at h
    split at h
    · rename_i j fr1 h1
      split at h
      · simp only [Option.some.injEq, Prod.mk.injEq] at h; obtain ⟨_, rfl⟩ := h; exact runC_ps c h1
      · simp only [Option.some.injEq, Prod.mk.injEq] at h; obtain ⟨_, rfl⟩ := h; exact runC_ps c h1
    · exact runC_ps c h
  | .loop live c, n, fr, fr', e, h => by
    simp only [runC] at h
    have key : ∀ (k : Nat) (fr : Fr), iter (fun fr => runC call n c (fr.canon live)) k fr = some (e, fr') → fr'.ps = fr.ps := by
      intro k
      induction k with
      | zero => intro fr h; cases h
      | succ k ih =>
        intro fr h
        simp only [iter] at h
        split at h
        · rename_i fr1 h1
          have e1 : fr1.ps = (fr.canon live).ps := runC_ps c h1
          exact (ih fr1 h).trans e1
        · have e1 : fr'.ps = (fr.canon live).ps := runC_ps c h
          exact e1
    exact key n fr h
theorem runC_ok (hcall : ∀ f args r, call f args = some r → Sat ids P (ids f) args r) : ∀ (pc : PC) {code : Code} {n : Nat} {fr fr' : Fr} {e : Ex} {w : World} {home : Home} {hd : Lb → Value} {a : Act} {Q : Exit → Act → World → Prop}, mC ids P N code pc = true → runC call n pc fr = some (e, fr') →
    FrR ids w home hd N fr a → (∀ a' w' home' hd', Grow w home hd fr.rt w' home' hd' fr'.rt → FrR ids w' home' hd' N fr' a' → Q (exOf e) a' w') → code.wp P Q a w
  | .skip, code, n, fr, fr', e, w, home, hd, a, Q, hm, h, hf, hq => by
    cases code <;> simp only [mC, Bool.false_eq_true] at hm
    simp only [runC, Option.some.injEq, Prod.mk.injEq] at h
    obtain ⟨rfl, rfl⟩ := h
    exact wp_skip (hq a w home hd Grow.refl hf)
  | .exit i, code, n, fr, fr', e, w, home, hd, a, Q, hm, h, hf, hq => by
    cases code <;> simp only [mC, Bool.false_eq_true] at hm
    have hi := eq_of_beq hm
    subst hi
    simp only [runC, Option.some.injEq, Prod.mk.injEq] at h
    obtain ⟨rfl, rfl⟩ := h
    exact wp_exit (hq a w home hd Grow.refl hf)
  | .ret, code, n, fr, fr', e, w, home, hd, a, Q, hm, h, hf, hq => by
    cases code <;> simp only [mC, Bool.false_eq_true] at hm
    simp only [runC, Option.some.injEq, Prod.mk.injEq] at h
    obtain ⟨rfl, rfl⟩ := h
    exact wp_ret (hq a w home hd Grow.refl hf)
  | .dops l k, code, n, fr, fr', e, w, home, hd, a, Q, hm, h, hf, hq => by
    cases code with
    | region id ops draw =>
      simp only [mC, Bool.and_eq_true] at hm
      obtain ⟨rfl, hm⟩ := hm
      simp only [runC, Option.map_eq_some_iff, Prod.mk.injEq] at h
      obtain ⟨fr1, h1, rfl, rfl⟩ := h
      refine stepsD_ok hcall hf hm h1 (fun a' w' home' hd' g hf' => ?_)
      refine hq a' w' _ hd' (g.trans ?_) (keep_ok hf' k)
      rw [keep_rt]; exact keep_grow _
    | _ => simp only [mC, Bool.false_eq_true] at hm
  | .ops l k, code, n, fr, fr', e, w, home, hd, a, Q, hm, h, hf, hq => by
    cases code with
    | region id ops draw =>
      simp only [mC, Bool.and_eq_true, Bool.not_eq_true'] at hm
      obtain ⟨rfl, hm⟩ := hm
      simp only [runC, Option.map_eq_some_iff, Prod.mk.injEq] at h
      obtain ⟨fr1, h1, rfl, rfl⟩ := h
      obtain ⟨m1, m2⟩ := all2_iff hm
      refine wp_region ?_
      have hsz : ops.size = l.length := by rw [← m1]; simp
      rw [List.range_eq_range', hsz]
      refine steps_ok hcall hf (fun j p hp => ?_) h1 (fun a' w' home' hd' g hf' => ?_)
      · have hlt : j < ops.toList.length := by rw [m1]; exact (List.getElem?_eq_some_iff.1 hp).1
        refine ⟨ops.toList[j], ?_, m2 j _ p (List.getElem?_eq_getElem hlt) hp⟩
        rw [Nat.zero_add, ← Array.getElem?_toList]
        exact List.getElem?_eq_getElem hlt
      · refine hq a' w' _ hd' (g.trans ?_) (keep_ok hf' k)
        rw [keep_rt]; exact keep_grow _
    | _ => simp only [mC, Bool.false_eq_true] at hm
  | .seq x y, code, n, fr, fr', e, w, home, hd, a, Q, hm, h, hf, hq => by
    cases code <;> simp only [mC, Bool.false_eq_true, Bool.and_eq_true] at hm
    obtain ⟨m1, m2⟩ := hm
    simp only [runC] at h
    split at h
    · rename_i fr1 h1
      refine wp_seq (runC_ok hcall x m1 h1 hf (fun a' w' home' hd' g hf' => ?_))
      exact runC_ok hcall y m2 h hf' (fun a2 w2 home2 hd2 g2 hf2 => hq a2 w2 home2 hd2 (g.trans g2) hf2)
    · rename_i hne
      refine wp_seq (runC_ok hcall x m1 h hf (fun a' w' home' hd' g hf' => ?_))
      have := hq a' w' home' hd' g hf'
      cases e with
      | normal => exact absurd h (hne fr')
      | exit i => exact this
      | ret => exact this
  | .cond c x y, code, n, fr, fr', e, w, home, hd, a, Q, hm, h, hf, hq => by
    cases code <;> simp only [mC, Bool.false_eq_true, Bool.and_eq_true] at hm
    obtain ⟨⟨m0, m1⟩, m2⟩ := hm
    simp only [runC] at h
    split at h
    · rename_i t ht
      have hv := (hf.ev.V m0 ht).1
      refine wp_cond hv ?_
      cases t with
      | true => exact runC_ok hcall x m1 (by simpa using h) hf hq
      | false => exact runC_ok hcall y m2 (by simpa using h) hf hq
    · cases h
  | .block i c, code, n, fr, fr', e, w, home, hd, a, Q, hm, h, hf, hq => by
    cases code <;> simp only [mC, Bool.false_eq_true, Bool.and_eq_true] at hm
    obtain ⟨m0, m1⟩ := hm
    have hi := eq_of_beq m0
    subst hi
    rename_i i c'
    simp only [runC] at h
    split at h
    · rename_i j fr1 h1
      refine wp_block (runC_ok hcall c m1 h1 hf (fun a' w' home' hd' g hf' => ?_))
      simp only [exOf, Exit.inBlock]
      split at h
      · rename_i hj
        simp only [Option.some.injEq, Prod.mk.injEq] at h
        obtain ⟨rfl, rfl⟩ := h
        rw [if_pos hj]
        exact hq a' w' home' hd' g hf'
      · rename_i hj
        simp only [Option.some.injEq, Prod.mk.injEq] at h
        obtain ⟨rfl, rfl⟩ := h
        rw [if_neg hj]
        exact hq a' w' home' hd' g hf'
    · rename_i hne
      refine wp_block (runC_ok hcall c m1 h hf (fun a' w' home' hd' g hf' => ?_))
      have := hq a' w' home' hd' g hf'
      cases e with
      | normal => exact this
      | exit j => exact absurd h (hne j fr')
      | ret => exact this
  | .loop live c, code, n, fr, fr', e, w, home, hd, a, Q, hm, h, hf, hq => by
    cases code <;> simp only [mC, Bool.false_eq_true] at hm
    rename_i c'
    simp only [runC] at h
    have key : ∀ (k : Nat) (fr : Fr) (w : World) (home : Home) (hd : Lb → Value) (a : Act), iter (fun fr => runC call n c (fr.canon live)) k fr = some (e, fr') → FrR ids w home hd N fr a →
        (∀ a' w' home' hd', Grow w home hd fr.rt w' home' hd' fr'.rt → FrR ids w' home' hd' N fr' a' → Q (exOf e) a' w') → Code.rounds P c' Q k a w := by
      intro k
      induction k with
      | zero => intro fr w home hd a h; cases h
      | succ k ih =>
        intro fr w home hd a h hf hq
        rw [rounds_succ]
        obtain ⟨home0, hd0, g0, hf0⟩ := canon_ok hf live
        simp only [iter] at h
        split at h
        · rename_i fr1 h1
          refine runC_ok hcall c hm h1 hf0 (fun a' w' home' hd' g hf' => ?_)
          exact ih fr1 w' home' hd' a' h hf' (fun a2 w2 home2 hd2 g2 hf2 => hq a2 w2 home2 hd2 ((g0.trans g).trans g2) hf2)
        · rename_i hne
          refine runC_ok hcall c hm h hf0 (fun a' w' home' hd' g hf' => ?_)
          have := hq a' w' home' hd' (g0.trans g) hf'
          cases e with
          | normal => exact absurd h (hne fr')
          | exit i => exact this
          | ret => exact this
    exact wp_loop_rounds n (key n fr w home hd a h hf hq)
end
end Go.Proofs.Ytkiklfcfdopplaa.T
namespace Go.Proofs.Ytkiklfcfdopplaa.T
open Go
variable (ids : Nat → FuncId)

def mRes (P : Program) : ResultVar → PR → Bool
  | .tmp t, .t n => t == n
  | .cell t ty, .cell n agg sz => t == n && aggIs P ty agg && elemIs P sz ty
  | _, _ => false
def resOne (tmps : Array Value) : ResultVar → Sem Value
  | .tmp t => pure (tmps.getD t undef)
  | .cell b t => do loadVar t (← asAddr (tmps.getD b undef))
theorem results_eq (fn : Func) (tmps : Array Value) : results fn tmps = (do
    let vs ← fn.results.mapM (resOne tmps)
    pure (if h : vs.size = 1 then vs[0] else .tuple vs)) := by
  unfold results
  congr 1
section
variable {ids} {P : Program} {w : World} {home : Home} {hd : Lb → Value} {N : Nat} {fr : Fr} {a : Act} {rt rt1 : Rts}
/-- A variable's cells, read. -/
theorem load_pb (old : RtR w home hd rt F0) {id off n : Nat} {v : Value} (hv : SVR w home hd rt (.pb id off) v) {ys : List SV} (hl : load rt n (.pb id off) = some ys) :
    ∃ b, v = .pointer (some ⟨b, off, none⟩) ∧ ys.length = n ∧ (∀ (j : Nat) y, ys[j]? = some y → ∃ u, w.cell? ⟨b, off + j, none⟩ = some u ∧ SVR w home hd rt y u ∧ ∀ i ∈ y.ids, (rt i).isSome = true) := by
  simp only [load] at hl
  split at hl
  · rename_i xs hrt
    obtain ⟨g1, g2⟩ := seg_get hl
    obtain ⟨b, cur, e, k1, k2, k3, k4⟩ := RR.box (old.root (.r id) _ hrt)
    obtain ⟨b', k5, k6⟩ := hv.2 xs hrt
    rw [k1] at k5
    injection k5 with k5; injection k5 with k5; injection k5 with k5
    subst k5
    refine ⟨b, k6, g1, fun j y hy => ?_⟩
    have hx := g2 j y hy
    have hlt : off + j < cur.toList.length := by rw [← k4.1]; exact (List.getElem?_eq_some_iff.1 hx).1
    refine ⟨cur.toList[off + j], ?_, k4.2 _ y _ hx (List.getElem?_eq_getElem hlt), fun i hi => old.wf (.r id) _ hrt i (by simp only [Root.ids, List.mem_flatMap]; exact ⟨y, List.mem_of_getElem? hx, hi⟩)⟩
    rw [cell_row k3, ← Array.getElem?_toList]
    exact List.getElem?_eq_getElem hlt
  · cases hl
theorem mkAgg_ids {agg : Bool} {ys : List SV} {r : A1} (h : mkAgg agg ys = some r) (hp : ∀ y ∈ ys, ∀ i ∈ y.ids, (rt i).isSome = true) : ∀ i ∈ r.ids, (rt i).isSome = true := by
  unfold mkAgg at h
  split at h
  · injection h with h; subst h
    intro i hi
    simp only [A1.ids, List.mem_flatMap] at hi
    obtain ⟨y, h1, h2⟩ := hi
    exact hp y h1 i h2
  · split at h
    · injection h with h; subst h
      exact fun i hi => hp _ (List.mem_singleton.2 rfl) i hi
    · cases h
/-- The results, as the machine gives them. -/
theorem results_ok (h : FrR ids w home hd N fr a) {fn : Func} {rs : List PR} (hm : all2 (mRes P) fn.results.toList rs = true) {as : List A1} (hr : mapO (resAt fr.sl fr.rt) rs = some as) :
    ∃ us : List Value, (results fn a.tmps).run P w = .ok (retV us) w ∧ F2 (A1R ids w home hd fr.rt) as us ∧ ∀ x ∈ as, ∀ i ∈ x.ids, (fr.rt i).isSome = true := by
  have one : ∀ (rv : ResultVar) (p : PR) (x : A1), mRes P rv p = true → resAt fr.sl fr.rt p = some x → ∃ u, (resOne a.tmps rv).run P w = .ok u w ∧ A1R ids w home hd fr.rt x u ∧ ∀ i ∈ x.ids, (fr.rt i).isSome = true := by
    intro rv p x hm hx
    cases rv with
    | tmp t =>
      cases p with
      | cell _ _ _ => cases hm
      | t n =>
        have ht : t = n := eq_of_beq hm
        subst ht
        simp only [resAt] at hx
        split at hx
        · rename_i y hy
          injection hx with hx
          subst hx
          obtain ⟨v, e1, e2, e3⟩ := h.sl t _ hy
          exact ⟨v, by simp [resOne, e1], e2, e3⟩
        · cases hx
    | cell t ty =>
      cases p with
      | t n => cases hm
      | cell n agg sz =>
        simp only [mRes, Bool.and_eq_true] at hm
        obtain ⟨⟨h1, h2⟩, h3⟩ := hm
        have ht : t = n := eq_of_beq h1
        subst ht
        simp only [resAt] at hx
        split at hx
        · rename_i id off hy
          split at hx
          · rename_i ys hl
            obtain ⟨v, e1, e2, e3⟩ := h.sl t _ hy
            obtain ⟨b, e4, e5, e6⟩ := load_pb h.rel e2 hl
            obtain ⟨u, e7, e8⟩ := run_loadVar' (ids := ids) (P := P) h2 h3 e5 (fun j y hj => ⟨_, (e6 j y hj).choose_spec.1, (e6 j y hj).choose_spec.2.1⟩) hx
            refine ⟨u, ?_, e8, mkAgg_ids hx (fun y hy i hi => ?_)⟩
            · simp [resOne, e1, e4, asAddr, e7]
            · obtain ⟨j, hj⟩ := List.getElem?_of_mem hy
              obtain ⟨_, _, _, e9⟩ := e6 j y hj
              exact e9 i hi
          · cases hx
        · cases hx
  have many : ∀ (rvs : List ResultVar) (ps : List PR) (as : List A1), all2 (mRes P) rvs ps = true → mapO (resAt fr.sl fr.rt) ps = some as → ∃ us : List Value,
      (rvs.mapM (resOne a.tmps)).run P w = .ok us w ∧ F2 (A1R ids w home hd fr.rt) as us ∧ ∀ x ∈ as, ∀ i ∈ x.ids, (fr.rt i).isSome = true := by
    intro rvs
    induction rvs with
    | nil =>
      intro ps as hm hr
      cases ps with
      | cons _ _ => cases hm
      | nil =>
        simp only [mapO, Option.some.injEq] at hr
        subst hr
        exact ⟨[], rfl, ⟨rfl, fun i x y hx => by simp at hx⟩, fun x hx => by cases hx⟩
    | cons rv rvs ih =>
      intro ps as hm hr
      cases ps with
      | nil => cases hm
      | cons p ps =>
        simp only [all2, Bool.and_eq_true] at hm
        simp only [mapO] at hr
        split at hr
        · rename_i y hy
          split at hr
          · rename_i ys hys
            injection hr with hr
            subst hr
            obtain ⟨u, g1, g2, g3⟩ := one rv p y hm.1 hy
            obtain ⟨us, k1, k2, k3⟩ := ih ps ys hm.2 hys
            refine ⟨u :: us, ?_, ⟨by simp [k2.1], fun i x z hx hz => ?_⟩, fun x hx i hi => ?_⟩
            · rw [List.mapM_cons]
              simp only [Sem.run_bind, g1, Result.andThen_ok, k1, Sem.run_pure]
            · cases i with
              | zero => simp at hx hz; subst hx hz; exact g2
              | succ i => exact k2.2 i x z (by simpa using hx) (by simpa using hz)
            · rcases List.mem_cons.1 hx with rfl | hx
              · exact g3 i hi
              · exact k3 x hx i hi
          · cases hr
        · cases hr
  obtain ⟨us, k1, k2, k3⟩ := many fn.results.toList rs as hm hr
  refine ⟨us, ?_, k2, k3⟩
  rw [results_eq, Array.mapM_eq_mapM_toList]
  simp only [Sem.run_bind, Sem.run_map, k1, Result.andThen_ok, Sem.run_pure]
  congr 1
  match us with
  | [] => rfl
  | [u] => rfl
  | u :: v :: us => simp [retV]
end
end Go.Proofs.Ytkiklfcfdopplaa.T
namespace Go.Proofs.Ytkiklfcfdopplaa.T
open Go
variable (ids : Nat → FuncId)

theorem takes_app : ∀ (as : List SV) {bs : List SV} {rt0 rt1 rt2 : Rts} {la lb : List (Ow × C)}, takes rt0 as = some (la, rt1) → takes rt1 bs = some (lb, rt2) → takes rt0 (as ++ bs) = some (la ++ lb, rt2) ∧ la.length = as.length
  | [], bs, rt0, rt1, rt2, la, lb, h1, h2 => by
    simp only [takes, Option.some.injEq, Prod.mk.injEq] at h1
    obtain ⟨rfl, rfl⟩ := h1
    exact ⟨h2, rfl⟩
  | a :: as, bs, rt0, rt1, rt2, la, lb, h1, h2 => by
    simp only [takes] at h1
    split at h1
    · rename_i o c rtm hm
      split at h1
      · rename_i l' rtn hn
        simp only [Option.some.injEq, Prod.mk.injEq] at h1
        obtain ⟨rfl, rfl⟩ := h1
        obtain ⟨e1, e2⟩ := takes_app as hn h2
        exact ⟨by simp only [List.cons_append, takes, hm, e1], by simp [e2]⟩
      · cases h1
    · cases h1
section
variable {ids} {P : Program} {w : World} {home : Home} {hd : Lb → Value} {N : Nat} {fr : Fr} {a : Act} {rt rt1 : Rts}
theorem takesR_flat : ∀ {as : List A1} {rt rt1 : Rts} {rs : List RV} {us : List Value}, takesR rt as = some (rs, rt1) → F2 (A1R ids w home hd fr.rt) as us → ∃ xs l fl, takes rt xs = some (l, rt1) ∧ cellsOf rs = l.map (fun q => .mk q.1 q.2) ∧ F2 (SVR w home hd fr.rt) xs fl ∧ Asm rs fl us ∧
    ∀ x ∈ xs, ∀ i ∈ x.ids, ∃ a ∈ as, i ∈ a.ids
  | [], rt, rt1, rs, us, h, hf => by
    simp only [takesR, Option.some.injEq, Prod.mk.injEq] at h
    obtain ⟨rfl, rfl⟩ := h
    have : us = [] := List.eq_nil_of_length_eq_zero (by rw [← hf.1]; rfl)
    subst this
    exact ⟨[], [], [], rfl, rfl, ⟨rfl, fun i x y hx => by simp at hx⟩, ⟨rfl, rfl⟩, fun x hx => by cases hx⟩
  | a :: as, rt, rt1, rs, us, h, hf => by
    cases us with
    | nil => exact absurd hf.1 (by simp)
    | cons u us =>
      simp only [takesR] at h
      split at h
      · rename_i r rtm hm
        split at h
        · rename_i rs' rtn hn
          simp only [Option.some.injEq, Prod.mk.injEq] at h
          obtain ⟨rfl, rfl⟩ := h
          obtain ⟨xs, l, fl, g1, g2, g3, g4, g5⟩ := takesR_flat (us := us) hn ⟨by have := hf.1; simpa using this, fun i x y hx hy => hf.2 (i + 1) x y hx hy⟩
          have h0 := hf.2 0 a u rfl rfl
          have g5' : ∀ x ∈ xs, ∀ i ∈ x.ids, ∃ b ∈ a :: as, i ∈ b.ids := fun x hx i hi => by
            obtain ⟨b, k1, k2⟩ := g5 x hx i hi
            exact ⟨b, List.mem_cons_of_mem _ k1, k2⟩
          cases a with
          | fn f ys => cases hm
          | s s =>
            simp only [take1] at hm
            split at hm
            · rename_i o c rt' ht
              simp only [Option.some.injEq, Prod.mk.injEq] at hm
              obtain ⟨rfl, rfl⟩ := hm
              refine ⟨s :: xs, (o, c) :: l, u :: fl, by simp only [takes, ht, g1], by simp [cellsOf, g2], ⟨by simp [g3.1], fun i x y hx hy => ?_⟩, ⟨u, fl, us, rfl, rfl, g4⟩, fun x hx i hi => ?_⟩
              · cases i with
                | zero => simp at hx hy; subst hx hy; exact h0
                | succ i => exact g3.2 i x y (by simpa using hx) (by simpa using hy)
              · rcases List.mem_cons.1 hx with rfl | hx
                · exact ⟨_, List.mem_cons_self .., hi⟩
                · exact g5' x hx i hi
            · cases hm
          | agg ys =>
            simp only [take1] at hm
            split at hm
            · rename_i l0 rt' ht
              simp only [Option.some.injEq, Prod.mk.injEq] at hm
              obtain ⟨rfl, rfl⟩ := hm
              obtain ⟨vs, e1, e2⟩ := h0
              obtain ⟨k1, k2⟩ := takes_app ys ht g1
              refine ⟨ys ++ xs, l0 ++ l, vs ++ fl, k1, by simp [cellsOf, g2], e2.append g3, ⟨vs, fl, us, rfl, ?_, by rw [e1], g4⟩, fun x hx i hi => ?_⟩
              · rw [List.length_map, k2]; exact e2.1.symm
              · rcases List.mem_append.1 hx with hx | hx
                · exact ⟨_, List.mem_cons_self .., by simp only [A1.ids, List.mem_flatMap]; exact ⟨x, hx, hi⟩⟩
                · exact g5' x hx i hi
            · cases hm
        · cases h
      · cases h
/-- Roots that are no argument's are let go. -/
theorem drop_rel {F : Nat → Option Root} (old : RtR w home hd rt F) {rt' : Rts} (hF : ∀ k r, F k = some r → ∃ d t c, r = .arr d t c) (h : ∀ i r, rt' i = some r → rt i = some r ∧ r ≠ .gone ∧ r.ids = []) : RtR w (keepHome home rt') hd rt' F := by
  have hn : ∀ b, b < w.heap.size → home b = none → w.heap[b]? = w.heap[b]? ∧ keepHome home rt' b = none := fun b _ hb => ⟨rfl, keepHome_none hb⟩
  refine ⟨fun l r hr => ?_, fun b l p hb => ?_, fun l r hr => ?_⟩
  · have hmv : ∀ (l : Lb) (d : Bool) (c : C) (u : Value), CR w home (arrTg d l) c u → (∀ b q, home b = some (l, q) → keepHome home rt' b = some (l, q)) → CR w (keepHome home rt') (arrTg d l) c u := by
      intro l d c u hc hk
      refine hc.move (fun q b _ hl => ⟨rfl, ?_⟩) (Ok.refl _)
      rcases arrTg_exts d l q with h1 | h1
      · rw [h1] at hl ⊢; exact keepHome_none hl
      · rw [h1] at hl ⊢; exact hk b q hl
    cases l with
    | x => simp only [ext, Option.some.injEq] at hr; subst hr; exact Or.inl rfl
    | t k =>
      have hold := old.root (.t k) r hr
      have hkt : ∀ b q, home b = some (.t k, q) → keepHome home rt' b = some (.t k, q) := fun b q hb => by simp [keepHome, hb]
      cases r with
      | gone => trivial
      | arr d t c => exact hmv _ d c _ hold hkt
      | box xs => obtain ⟨d, t, c, e⟩ := hF k _ hr; cases e
    | r i =>
      obtain ⟨h1, h2, h3⟩ := h i r hr
      have hold := old.root (.r i) r h1
      have hkt : ∀ b q, home b = some (.r i, q) → keepHome home rt' b = some (.r i, q) := fun b q hb => keepHome_r hb (by rw [show rt' i = some r from hr]; rfl)
      cases r with
      | gone => trivial
      | arr d t c => exact hmv _ d c _ hold hkt
      | box xs =>
        obtain ⟨b, cur, e1, k1, k2, k3, k4⟩ := RR.box hold
        refine Or.inr ⟨b, cur, e1, k1, hkt b [] k2, k3, k4.1, fun j x v hx hv => ?_⟩
        simp only [Root.ids, List.flatMap_eq_nil_iff] at h3
        exact (k4.2 j x v hx hv).imm old (h3 x (List.mem_of_getElem? hx)) hn
  · have hcase : home b = some (l, p) ∧ ∀ i, l = .r i → (rt' i).isSome = true := by
      unfold keepHome at hb
      split at hb
      · rename_i i q hh
        split at hb
        · rename_i hs
          injection hb with hb; injection hb with e1 e2; subst e1 e2
          exact ⟨hh, fun j e => by injection e with e; subst e; exact hs⟩
        · cases hb
      · rename_i hne
        exact ⟨hb, fun i e => by subst e; exact absurd hb (hne i p)⟩
    obtain ⟨h1, h2⟩ := hcase
    obtain ⟨h3, r, h4, h5⟩ := old.lab b l p h1
    refine ⟨h3, ?_⟩
    cases l with
    | x => exact ⟨.box [], rfl, by simp⟩
    | t k => exact ⟨r, h4, h5⟩
    | r i =>
      obtain ⟨r', hr'⟩ := Option.isSome_iff_exists.1 (h2 i rfl)
      exact ⟨r', hr', (h i r' hr').2.1⟩
  · cases l with
    | x => simp only [ext, Option.some.injEq] at hr; subst hr; intro i hi; simp [Root.ids] at hi
    | t k => obtain ⟨d, t, c, e⟩ := hF k r hr; subst e; intro i hi; cases hi
    | r i => rw [(h i r hr).2.2]; intro j hj; cases hj
theorem rtM_map {ps : List Nat} {g : Nat → Option Root} {i : Nat} : rtM ps (ps.map g) i = if i ∈ ps then g i else none := by
  induction ps with
  | nil => simp [rtM]
  | cons j ps ih =>
    rw [List.map_cons, rtM_cons, ih]
    by_cases h : i = j
    · subst h; simp
    · simp [h]
/-- A frame's end. -/
theorem finish_ok {w0 : World} {home0 : Home} {hd0 : Lb → Value} {rt0 : Rts} (g : Grow w0 home0 hd0 rt0 w home hd fr.rt) (h : FrR ids w home hd N fr a) {pf : PFunc} {fn : Func} (hm : all2 (mRes P) fn.results.toList pf.results = true) {res : Res} (hf : finish pf fr = some res) :
    ∃ us, (results fn a.tmps).run P w = .ok (retV us) w ∧ ∃ home' hd' F', Ret w0 home0 hd0 fr.ps w home' hd' F' res us := by
  unfold finish at hf
  split at hf
  · rename_i as has
    split at hf
    · rename_i rs rt1 hrs
      split at hf
      · rename_i hps
        injection hf with hf
        subst hf
        obtain ⟨us, hrun, hF2, hids⟩ := results_ok (P := P) h hm has
        refine ⟨us, hrun, ?_⟩
        obtain ⟨xs, l, fl, g1, g2, g3, g4, g5⟩ := takesR_flat hrs hF2
        obtain ⟨home', hd', F', s, _, n1, q1, _, len, held⟩ := takes_step xs (k := 0) h.rel g3 (fun x hx i hi => by
          obtain ⟨b, k1, k2⟩ := g5 x hx i hi
          exact hids b k1 i k2) (fun _ _ => rfl) g1
        have hcl : (cellsOf rs).length = xs.length := by rw [g2, List.length_map, len]
        have hF' : ∀ j r, F' j = some r → ∃ o c, (cellsOf rs)[j]? = some (.mk o c) ∧ o ≠ .imm ∧ r = .arr (decide (o = .deep)) false c := by
          intro j r hj
          by_cases hlt : j < xs.length
          · have hl : j < l.length := by rw [len]; exact hlt
            have hfl : j < fl.length := by rw [← g3.1]; exact hlt
            obtain ⟨k1, k2, k3⟩ := held j _ _ (List.getElem?_eq_getElem hl) (List.getElem?_eq_getElem hfl)
            rw [Nat.zero_add] at k1 k3
            refine ⟨l[j].1, l[j].2, by rw [g2, List.getElem?_map, List.getElem?_eq_getElem hl]; rfl, ?_, ?_⟩
            · intro e; rw [k3 e] at hj; cases hj
            · rcases k1 with ⟨e, _⟩ | ⟨_, k4, _, _⟩
              · rw [k3 e] at hj; cases hj
              · rw [hj] at k4; injection k4
          · rw [n1 j (by omega)] at hj; cases hj
        have hrtM : ∀ i r, rtM fr.ps (fr.ps.map (fun i => Root.fin (rt1 i))) i = some r → rt1 i = some r ∧ r ≠ .gone ∧ r.ids = [] := by
          intro i r hr
          rw [rtM_map] at hr
          split at hr
          · rename_i hi
            have hall := List.all_eq_true.1 hps i hi
            cases h1 : rt1 i with
            | none => rw [h1] at hr; cases hr
            | some r1 =>
              rw [h1] at hr hall
              cases r1 with
              | gone => cases hr
              | arr d t c => simp only [Root.fin, Option.some.injEq] at hr; subst hr; exact ⟨rfl, by simp, rfl⟩
              | box xs => simp only [Root.fin, Option.some.injEq] at hr; subst hr; exact ⟨rfl, by simp, by simpa using hall⟩
          · cases hr
        have hg := g.trans s.grow
        refine ⟨keepHome home' (rtM fr.ps (fr.ps.map (fun i => Root.fin (rt1 i)))), hd', F', ?_, ⟨fl, by rw [hcl]; exact g3.1.symm, fun j o c v hc hv => ?_, g4⟩, hF', hg.os, hg.tape, hg.output, hg.size, fun b hb hn => ?_, fun b q hb hx => ?_, fun i hi r hr hne => ?_⟩
        · exact drop_rel s.rel (fun k r hk => by
            obtain ⟨o, c, _, _, e⟩ := hF' k r hk
            exact ⟨_, _, _, e⟩) hrtM
        · rw [g2, List.getElem?_map, Option.map_eq_some_iff] at hc
          obtain ⟨q, hq, e⟩ := hc
          injection e with e1 e2
          subst e1 e2
          obtain ⟨k1, k2, _⟩ := held j q v hq hv
          rw [Nat.zero_add] at k1
          refine ⟨?_, k2⟩
          rcases k1 with ⟨e, k1⟩ | k1
          · exact Or.inl ⟨e, k1.move (fun q b _ hl => by rw [Tg.exts_imm] at hl ⊢; exact ⟨rfl, keepHome_none hl⟩) (Ok.imm _)⟩
          · exact Or.inr k1
        · obtain ⟨e1, e2⟩ := hg.blk b hb hn
          exact ⟨e1, keepHome_none e2⟩
        · obtain ⟨e1, e2⟩ := hg.oth b q hb hx
          exact ⟨e1, by simp [keepHome, e2]⟩
        · exact (hg.pin i hi r (hrtM i r hr).1 hne).1
      · cases hf
    · cases hf
  · cases hf
end
end Go.Proofs.Ytkiklfcfdopplaa.T
namespace Go.Proofs.Ytkiklfcfdopplaa.T
open Go
variable (ids : Nat → FuncId)

/-- This function's code is that one. -/
def fnOk (P : Program) (fn : Func) (pf : PFunc) : Bool :=
  match fn.body with
  | some code => mC ids P fn.ntmps code pf.body && all2 (mRes P) fn.results.toList pf.results && decide (pf.np ≤ fn.ntmps) && !(fn.name == "runtime.NumGoroutine")
  | none => false
section
variable {ids} {P : Program}
theorem runF_ok {f : FuncId} {fn : Func} (hf : P.funcs[f]? = some fn) {pf : PFunc} (hm : fnOk ids P fn pf = true) {call : Nat → List Arg → Option Res} (hcall : ∀ f args r, call f args = some r → Sat ids P (ids f) args r) {n : Nat} {args : List Arg} {res : Res} (h : runF call n pf args = some res) : Sat ids P f args res := by
  unfold fnOk at hm
  split at hm
  · rename_i code hb
    simp only [Bool.and_eq_true, decide_eq_true_eq, Bool.not_eq_true'] at hm
    obtain ⟨⟨⟨m1, m2⟩, m3⟩, m4⟩ := hm
    unfold runF at h
    split at h
    · rename_i hnp
      intro w home hd vs hlen hrel hargs himm
      refine Or.inl ⟨?_, ?_⟩
      · unfold callFunc
        simp only [Sem.run_bind, run_program, Result.andThen_ok, hf, m4, hb, Option.isNone_some, Bool.false_eq_true, if_false, Sem.run_pure]
      · have hsz : vs.toArray.size = args.length := by simp [hlen]
        have hfr : FrR ids w home hd fn.ntmps (initFr args) { tmps := vs.toArray ++ Array.replicate (fn.ntmps - vs.toArray.size) undef, defers := [] } := by
          refine ⟨hrel, fun t av ht => ?_, ?_, rfl⟩
          · obtain ⟨i, g, g1, g2, g3⟩ := initSl_at (args := args) (k := 0) ht
            rw [Nat.zero_add] at g2 g3
            subst g2
            have hlt : t < vs.length := by rw [hlen]; exact (List.getElem?_eq_some_iff.1 g1).1
            refine ⟨vs[t], ?_, ?_, ?_⟩
            · simp only
              rw [Array.getElem?_append_left (by simpa using hlt)]
              simp [hlt]
            · rw [g3]; exact hargs t g _ g1 (List.getElem?_eq_getElem hlt)
            · rw [g3]
              intro i hi
              cases g with
              | imm x =>
                have := himm t x g1
                simp only [initArg, AV.ids] at hi
                rw [this] at hi; cases hi
              | arr d c len =>
                simp only [initArg, AV.ids, A1.ids, SV.ids, List.mem_singleton] at hi
                subst hi
                have := initRt_at (k := 0) g1 (r := .arr d false c) (by simp [initArg])
                rw [Nat.zero_add] at this
                show (asl (initRt 0 args) (t * 64)).isSome = true
                rw [this]; rfl
              | box xs =>
                simp only [initArg, AV.ids, A1.ids, SV.ids, List.mem_singleton] at hi
                subst hi
                have := initRt_at (k := 0) g1 (r := .box xs) (by simp [initArg])
                rw [Nat.zero_add] at this
                show (asl (initRt 0 args) (t * 64)).isSome = true
                rw [this]; rfl
          · simp only [Array.size_append, Array.size_replicate]; omega
        refine calls_of_wp hf hb ?_
        have fin : ∀ (e : Ex) (fr : Fr), runC call n pf.body (initFr args) = some (e, fr) → (e = .normal ∨ e = .ret) → finish pf fr = some res → code.wp P (bodyPost P fn (fun e w' => ∃ v, e = .returned v ∧ ∃ home' hd' F' us, v = retV us ∧ Ret w home hd (initFr args).ps w' home' hd' F' res us)) { tmps := vs.toArray ++ Array.replicate (fn.ntmps - vs.toArray.size) undef, defers := [] } w := by
          intro e fr hr he hfin
          refine runC_ok hcall pf.body m1 hr hfr (fun a' w' home' hd' g hf' => ?_)
          obtain ⟨us, hrun, home2, hd2, F', hret⟩ := finish_ok (P := P) g hf' m2 hfin
          rw [runC_ps _ hr] at hret
          rcases he with rfl | rfl
          · exact ⟨hf'.nd, _, hrun, _, rfl, home2, hd2, F', us, rfl, hret⟩
          · exact ⟨hf'.nd, _, hrun, _, rfl, home2, hd2, F', us, rfl, hret⟩
        split at h
        · rename_i fr hr; exact fin .normal fr hr (Or.inl rfl) h
        · rename_i fr hr; exact fin .ret fr hr (Or.inr rfl) h
        · cases h
    · cases h
  · cases hm
theorem den_ok {pp : PP} (hcode : ∀ f pf, pp.code f = some pf → ∃ fn, P.funcs[ids f]? = some fn ∧ fnOk ids P fn pf = true) (hhand : ∀ f args r, pp.code f = none → pp.hand f args = some r → Sat ids P (ids f) args r) :
    ∀ (n f : Nat) (args : List Arg) (r : Res), den pp n f args = some r → Sat ids P (ids f) args r
  | 0, f, args, r, h => by cases h
  | n + 1, f, args, r, h => by
    simp only [den] at h
    split at h
    · rename_i pf hpf
      obtain ⟨fn, h1, h2⟩ := hcode f pf hpf
      exact runF_ok h1 h2 (den_ok hcode hhand n) h
    · rename_i hpf
      exact hhand f args r hpf h
end
end Go.Proofs.Ytkiklfcfdopplaa.T
