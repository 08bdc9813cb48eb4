/- The steps of which operations are made: taking, making anew, exchanging. Each operation of the machine does what the abstract one says: what touches no memory. -/
import Derived.Test.YtecmolmlojehgaaGreatMD
import Derived.ChangeKeysEq
import Derived.Laws.Entries
import Derived.Laws.Slices
import Derived.Laws.CopyRow
import Derived.Laws.AppendOwn
import Derived.Laws.StructEq
namespace Go.Proofs.YtecmolmlojehgaaGreat.T
open Go

theorem hdAt_same {w w' : World} {home : Home} : ∀ (p : Path) {t : Tg} {c : C} {u : Value}, CR w home t c u → (∀ q b, b < w.heap.size → home b = (t.exts q).lab → w'.heap[b]? = w.heap[b]?) → ∀ {c' : C}, c.get p = some c' → hdAt w' c u p = hdAt w c u p
  | [], t, c, u, _, _, c', _ => by cases c <;> rfl
  | (i, j) :: p, t, c, u, h, hm, c', hg => by
    cases h with
    | val h => cases hg
    | hole h => cases hg
    | fl he hh => cases hg
    | @sl _ sz es sp _ vs he hh hc =>
      simp only [C.get] at hg
      cases hi : es[i]? with
      | none => simp only [hi] at hg; cases hg
      | some e =>
        simp only [hi] at hg
        cases hj : e[j]? with
        | none => simp only [hj] at hg; cases hg
        | some d =>
          simp only [hj] at hg
          have hi' : (es ++ sp)[i]? = some e := by rw [List.getElem?_append_left (List.getElem?_eq_some_iff.1 hi).1]; exact hi
          have hlt : i < es.length + sp.length := by have := (List.getElem?_eq_some_iff.1 hi).1; omega
          have hjl : j < sz := by rw [← he e (List.mem_of_getElem? hi')]; exact (List.getElem?_eq_some_iff.1 hj).1
          obtain ⟨b, o, cap, hu, hb, _, hv⟩ := hh.cell hlt hjl
          have e1 := hm [] b (cell_lt hv) hb
          subst hu
          simp only [hdAt, hi, hj, cell_block e1, hv]
          exact hdAt_same p (hc i j e d hi' hj) (fun q b hb hl => hm ((i, j) :: q) b hb hl) hg

theorem arrTg_exts (d : Bool) (l : Lb) (q : Path) : ((arrTg d l).exts q).lab = none ∨ ((arrTg d l).exts q).lab = some (l, q) := by
  cases d with
  | true => exact Or.inr (by simp [arrTg, Tg.exts_own, Tg.lab])
  | false =>
    cases q with
    | nil => exact Or.inr rfl
    | cons x q => exact Or.inl (by simp [arrTg, Tg.exts_top, Tg.lab])

section
variable {w w' : World} {home home' : Home} {hd hd' : Lb → Value} {rt rt' : Rts} {F F' : Nat → Option Root}

theorem SVR.same {x : SV} {v : Value} (h : SVR w home hd rt x v) (old : RtR w home hd rt F)
    (imm : ∀ b, b < w.heap.size → home b = none → w'.heap[b]? = w.heap[b]? ∧ home' b = none)
    (hid : ∀ i ∈ x.ids, rt' i = rt i ∧ hd' (.r i) = hd (.r i) ∧ ∀ b q, b < w.heap.size → home b = some (.r i, q) → w'.heap[b]? = w.heap[b]?) : SVR w' home' hd' rt' x v := by
  have himm : ∀ {c : C} {u : Value}, CR w home .imm c u → CR w' home' .imm c u := fun hc => hc.move (fun q b hb hl => by rw [Tg.exts_imm] at hl ⊢; exact imm b hb hl) (Ok.imm _)
  have hat : ∀ id, (rt' id = rt id ∧ hd' (.r id) = hd (.r id) ∧ ∀ b q, b < w.heap.size → home b = some (.r id, q) → w'.heap[b]? = w.heap[b]?) → ∀ d t c, rt' id = some (.arr d t c) → ∀ p c', c.get p = some c' → hdAt w' c (hd' (.r id)) p = hdAt w c (hd (.r id)) p := by
    intro id ⟨e1, e2, e3⟩ d t c hr p c' hg
    rw [e2]
    have hroot : CR w home (arrTg d (.r id)) c (hd (.r id)) := old.root (.r id) (.arr d t c) (by show rt id = _; rw [← e1]; exact hr)
    refine hdAt_same p hroot (fun q b hb hl => ?_) hg
    rcases arrTg_exts d (.r id) q with h1 | h1
    · exact (imm b hb (hl.trans h1)).1
    · exact e3 b q hb (hl.trans h1)
  cases x with
  | c c => exact himm h
  | nil k => exact h
  | ref id p off n =>
    have hid' := hid id (by simp [SV.ids])
    refine ⟨h.1, fun d t c hr ht c' u hg hu sz m tot hs => ?_⟩
    rw [hat id hid' d t c hr p c' hg] at hu
    exact h.2 d t c (by rw [← hid'.1]; exact hr) ht c' u hg hu sz m tot hs
  | pb id off =>
    have hid' := hid id (by simp [SV.ids])
    refine ⟨h.1, fun xs hr => ?_⟩
    rw [hid'.2.1]
    exact h.2 xs (by rw [← hid'.1]; exact hr)
  | pe id p i off =>
    have hid' := hid id (by simp [SV.ids])
    refine ⟨h.1, fun d t c hr ht c' u hg hu sz m tot hs hi => ?_⟩
    rw [hat id hid' d t c hr p c' hg] at hu
    exact h.2 d t c (by rw [← hid'.1]; exact hr) ht c' u hg hu sz m tot hs hi
  | pm cs off =>
    obtain ⟨b, o, rfl, hc⟩ := h
    refine ⟨b, o, rfl, fun j c hj => ?_⟩
    obtain ⟨h1, u, h2, h3⟩ := hc j c hj
    obtain ⟨e1, e2⟩ := imm b (cell_lt h2) h1
    exact ⟨e2, u, (cell_block e1).trans h2, himm h3⟩

theorem SV.ids_le (x : SV) : x.ids = [] ∨ ∃ i, x.ids = [i] := by cases x <;> simp [SV.ids]

/-- A step out of what has changed: X. -/
theorem Step.mk2 (X : Lb → Prop) (old : RtR w home hd rt F)
    (imm : ∀ b, b < w.heap.size → home b = none → w'.heap[b]? = w.heap[b]? ∧ home' b = none)
    (own : ∀ l, ¬ X l → ∀ b q, b < w.heap.size → home b = some (l, q) → w'.heap[b]? = w.heap[b]? ∧ home' b = some (l, q))
    (hdX : ∀ l, ¬ X l → hd' l = hd l)
    (rtX : ∀ l, ¬ X l → ext rt' F' l = ext rt F l)
    (stX : ∀ i, X (.r i) → ∀ x v, x.ids = [i] → (rt i).isSome = true → SVR w home hd rt x v → SVR w' home' hd' rt' x v)
    (rrX : (∀ x v, (∀ i ∈ x.ids, (rt i).isSome = true) → SVR w home hd rt x v → SVR w' home' hd' rt' x v) → ∀ l r, X l → ext rt' F' l = some r → RR w' home' hd' rt' l r)
    (labN : ∀ b l p, ¬ X l → home' b = some (l, p) → b < w.heap.size ∧ home b = some (l, p))
    (labX : ∀ b l p, X l → home' b = some (l, p) → b < w'.heap.size ∧ ∃ r, ext rt' F' l = some r ∧ r ≠ .gone)
    (wfX : ∀ l r, X l → ext rt' F' l = some r → ∀ i ∈ r.ids, (rt' i).isSome = true)
    (pres : ∀ i, (rt i).isSome = true → (rt' i).isSome = true)
    (os : w'.os = w.os) (tape : w'.tape = w.tape) (output : w'.output = w.output) (size : w.heap.size ≤ w'.heap.size)
    (pin : ∀ i, i < 64000 → X (.r i) → ∀ r, rt' i = some r → r ≠ .gone → hd' (.r i) = hd (.r i) ∧ ∃ r0, rt i = some r0 ∧ r0 ≠ .gone) (hXx : ¬ X .x := by simp) :
    Step w home hd rt F w' home' hd' rt' F' := by
  have st : ∀ x v, (∀ i ∈ x.ids, (rt i).isSome = true) → SVR w home hd rt x v → SVR w' home' hd' rt' x v := by
    intro x v hx h
    rcases SV.ids_le x with hi | ⟨i, hi⟩
    · exact h.same old imm (fun i hm => by rw [hi] at hm; cases hm)
    · by_cases hX : X (.r i)
      · exact stX i hX x v hi (hx i (by rw [hi]; exact List.mem_singleton.2 rfl)) h
      · refine h.same old imm (fun i' hm => ?_)
        rw [hi, List.mem_singleton] at hm
        subst hm
        exact ⟨rtX (.r i') hX, hdX _ hX, fun b q hb hl => (own _ hX b q hb hl).1⟩
  refine ⟨⟨fun l r hr => ?_, fun b l p hl => ?_, fun l r hr => ?_⟩, st, pres, os, tape, output, size, imm, fun b q hb h => own .x hXx b q hb h, fun i hi r hr hne => ?_⟩
  · by_cases hX : X l
    · exact rrX st l r hX hr
    · have hr' : ext rt F l = some r := (rtX l hX).symm.trans hr
      have hold := old.root l r hr'
      cases r with
      | gone => trivial
      | arr d t c =>
        show CR w' home' (arrTg d l) c (hd' l)
        rw [hdX l hX]
        refine CR.move hold (fun q b hb hl => ?_) (Ok.refl _)
        rcases arrTg_exts d l q with h1 | h1
        · rw [h1]; exact imm b hb (hl.trans h1)
        · rw [h1]; exact own l hX b q hb (hl.trans h1)
      | box xs =>
        rcases hold with hx | ⟨b, cur, e, h1, h2, h3, h4⟩
        · exact Or.inl hx
        obtain ⟨e1, e2⟩ := own l hX b [] (heap_lt h3) h2
        exact Or.inr ⟨b, cur, e, (hdX l hX).trans h1, e2, e1.trans h3, h4.1, fun i x y hx hy => st x y (fun i' hi' => old.wf l _ hr' i' (by
          simp only [Root.ids, List.mem_flatMap]; exact ⟨x, List.mem_of_getElem? hx, hi'⟩)) (h4.2 i x y hx hy)⟩
  · by_cases hX : X l
    · exact labX b l p hX hl
    · obtain ⟨h1, h2⟩ := labN b l p hX hl
      obtain ⟨_, r, h3, h4⟩ := old.lab b l p h2
      exact ⟨Nat.lt_of_lt_of_le h1 size, r, (rtX l hX).trans h3, h4⟩
  · by_cases hX : X l
    · exact wfX l r hX hr
    · exact fun i hi => pres i (old.wf l r ((rtX l hX).symm.trans hr) i hi)
  · by_cases hX : X (.r i)
    · exact pin i hi hX r hr hne
    · exact ⟨hdX _ hX, r, (rtX (.r i) hX).symm.trans hr, hne⟩
end


/-! ### Taking -/
/-- What was taken: read by whoever holds it, or lying at k. -/
def Held (w : World) (home : Home) (hd : Lb → Value) (F : Nat → Option Root) (k : Nat) (o : Ow) (c : C) (v : Value) : Prop :=
  (o = .imm ∧ CR w home .imm c v) ∨ (o ≠ .imm ∧ F k = some (.arr (decide (o = .deep)) false c) ∧ hd (.t k) = v ∧ v.oneCell' = true)
theorem updF_same {α : Type} (f : Nat → Option α) (k : Nat) (v : α) : upd f k v k = some v := if_pos rfl
theorem updF_ne {α : Type} (f : Nat → Option α) {k i : Nat} (v : α) (h : i ≠ k) : upd f k v i = f i := if_neg h
theorem CR.readdr {w : World} {home : Home} {t : Tg} {c : C} {a a' : Option Addr} {n cap : Nat} (h : CR w home t c (.slice a n cap)) (hs : c.shape ≠ none) (ha : 0 < cap → a' = a) : CR w home t c (.slice a' n cap) := by
  by_cases h0 : 0 < cap
  · rw [ha h0]; exact h
  · have hdr : ∀ {len tot sz : Nat} {vs : Nat → Nat → Value}, Hdr w home t (.slice a n cap) len tot sz vs → Hdr w home t (.slice a' n cap) len tot sz vs := by
      intro len tot sz vs hh
      obtain ⟨g0, g1, a1, cap1, e, g2, g3, g4⟩ := hh
      injection e with e1 e2 e3
      subst e1 e2 e3
      refine ⟨g0, g1, a', cap, rfl, g2, g3, ?_⟩
      cases hl : t.lab with
      | none => intro i j hi; omega
      | some l => exact Or.inl (by omega)
    generalize hu : Value.slice a n cap = u at h
    cases h with
    | val h => exact absurd rfl hs
    | hole h => exact .hole rfl
    | fl he hh => subst hu; exact .fl he (hdr hh)
    | sl vs he hh hc => subst hu; exact .sl vs he (hdr hh) hc
theorem CR.kempty {w : World} {home : Home} {t : Tg} {k : K} (h : 0 < k.sz) : CR w home t k.empty (.slice none 0 0) := by
  have hdr : ∀ (sz : Nat) (vs : Nat → Nat → Value), 0 < sz → Hdr w home t (.slice none 0 0) 0 0 sz vs := by
    intro sz vs h
    refine ⟨h, Nat.le_refl _, none, 0, rfl, Nat.le_refl _, by unfold maxLen; omega, ?_⟩
    cases t.lab with
    | none => intro i j hi; omega
    | some l => exact Or.inl rfl
  cases k with
  | fl sz => exact .fl (fun e he => by cases he) (hdr sz _ h)
  | sl sz => exact .sl (fun _ _ => undef) (fun e he => by cases he) (hdr sz _ h) (fun i j e c h1 => by cases h1)


theorem C.set_hole : ∀ (p : Path) {c : C} {q : Path} {c3 : C} {s : Nat × Nat × Nat}, (c.set p .hole).get q = some c3 → c3.shape = some s →
    ∃ c4, c.get q = some c4 ∧ c4.shape = some s ∧ ∀ w u, hdAt w (c.set p .hole) u q = hdAt w c u q
  | [], c, q, c3, s, hg, hs => by
    have e : c.set [] .hole = .hole := by cases c <;> rfl
    rw [e] at hg
    cases q with
    | nil => simp only [C.get, Option.some.injEq] at hg; subst hg; cases hs
    | cons x q => obtain ⟨i, j⟩ := x; cases hg
  | (i, j) :: p, c, q, c3, s, hg, hs => by
    cases c with
    | val v => exact ⟨c3, hg, hs, fun w u => rfl⟩
    | hole => exact ⟨c3, hg, hs, fun w u => rfl⟩
    | fl sz es sp => exact ⟨c3, hg, hs, fun w u => rfl⟩
    | sl sz es sp =>
      cases hi : es[i]? with
      | none => simp only [C.set, hi] at hg ⊢; exact ⟨c3, hg, hs, fun w u => trivial⟩
      | some e =>
        cases hj : e[j]? with
        | none => simp only [C.set, hi, hj] at hg ⊢; exact ⟨c3, hg, hs, fun w u => trivial⟩
        | some d =>
          simp only [C.set, hi, hj] at hg ⊢
          cases q with
          | nil =>
            simp only [C.get, Option.some.injEq] at hg
            subst hg
            refine ⟨.sl sz es sp, rfl, ?_, fun w u => rfl⟩
            rw [← hs]
            simp [C.shape]
          | cons x q =>
            obtain ⟨i', j'⟩ := x
            by_cases hii : i' = i
            · subst hii
              have hlt := (List.getElem?_eq_some_iff.1 hi).1
              by_cases hjj : j' = j
              · subst hjj
                have hjl := (List.getElem?_eq_some_iff.1 hj).1
                simp only [C.get, List.getElem?_set_self hlt, List.getElem?_set_self hjl] at hg
                obtain ⟨c4, h1, h2, h3⟩ := C.set_hole p hg hs
                refine ⟨c4, by simp only [C.get, hi, hj]; exact h1, h2, fun w u => ?_⟩
                cases u <;> try rfl
                rename_i a m cap
                cases a with
                | none => rfl
                | some a =>
                  simp only [hdAt, hi, hj, List.getElem?_set_self hlt, List.getElem?_set_self hjl]
                  cases w.cell? { block := a.block, off := a.off + (i' * sz + j') } with
                  | none => rfl
                  | some u' => exact h3 w u'
              · simp only [C.get, List.getElem?_set_self hlt, List.getElem?_set_ne (Ne.symm hjj)] at hg
                refine ⟨c3, by simp only [C.get, hi]; exact hg, hs, fun w u => ?_⟩
                cases u <;> try rfl
                rename_i a m cap
                cases a <;> simp [hdAt, hi, List.getElem?_set_self hlt, List.getElem?_set_ne (Ne.symm hjj)]
            · simp only [C.get, List.getElem?_set_ne (Ne.symm hii)] at hg
              refine ⟨c3, hg, hs, fun w u => ?_⟩
              cases u <;> try rfl
              rename_i a m cap
              cases a <;> simp [hdAt, List.getElem?_set_ne (Ne.symm hii)]

theorem CR.set {w w' : World} {home home' : Home} : ∀ (p : Path) {t : Tg} {c : C} {u : Value}, CR w home t c u → ∀ {c1 c2 : C} {u1 : Value}, c.get p = some c1 → hdAt w c u p = some u1 →
    (∀ q b, b < w.heap.size → home b = (t.exts q).lab → ¬ (p <+: q) → w'.heap[b]? = w.heap[b]? ∧ home' b = (t.exts q).lab) → CR w' home' (t.exts p) c2 u1 → CR w' home' t (c.set p c2) u
  | [], t, c, u, _, c1, c2, u1, _, hu, _, h2 => by
    have e1 : hdAt w c u [] = some u := by cases c <;> rfl
    rw [e1] at hu
    injection hu with hu
    subst hu
    have e : c.set [] c2 = c2 := by cases c <;> rfl
    rw [e]; exact h2
  | (i, j) :: p, t, c, u, h, c1, c2, u1, hg, hu, hm, h2 => by
    cases h with
    | val h => cases hg
    | hole h => cases hg
    | fl he hh => cases hg
    | @sl _ sz es sp _ vs he hh hc =>
      simp only [C.get] at hg
      cases hi : es[i]? with
      | none => simp only [hi] at hg; cases hg
      | some e =>
        simp only [hi] at hg
        cases hj : e[j]? with
        | none => simp only [hj] at hg; cases hg
        | some d =>
          simp only [hj] at hg
          have hlt := (List.getElem?_eq_some_iff.1 hi).1
          have hjl := (List.getElem?_eq_some_iff.1 hj).1
          have hi' : (es ++ sp)[i]? = some e := by rw [List.getElem?_append_left hlt]; exact hi
          have hsz : e.length = sz := he e (List.mem_of_getElem? hi')
          obtain ⟨b, o, cap, hu', _, _, hv⟩ := hh.cell (i := i) (j := j) (by omega) (by omega)
          have hu2 : hdAt w d (vs i j) p = some u1 := by
            subst hu'
            simp only [hdAt, hi, hj, hv] at hu
            exact hu
          simp only [C.set, hi, hj]
          have hl : ((es.set i (e.set j (d.set p c2))) ++ sp).length = (es ++ sp).length := by simp
          refine .sl vs (fun e' he' => ?_) ?_ (fun i' j' e' c' h1 h3 => ?_)
          · obtain ⟨n, hn⟩ := List.getElem?_of_mem he'
            rw [← List.set_append_left _ _ hlt, List.getElem?_set] at hn
            split at hn
            · split at hn
              · injection hn with hn; subst hn; rw [List.length_set]; exact hsz
              · cases hn
            · exact he e' (List.mem_of_getElem? hn)
          · rw [List.length_set]
            exact hh.move (fun b hb hl => hm [] b hb hl (by simp)) (fun h => h)
          · rw [← List.set_append_left _ _ hlt, List.getElem?_set] at h1
            split at h1
            · rename_i hii
              subst hii
              split at h1
              · injection h1 with h1
                subst h1
                rw [List.getElem?_set] at h3
                split at h3
                · rename_i hjj
                  subst hjj
                  · injection h3 with h3
                    subst h3
                    refine CR.set p (hc i j e d hi' hj) hg hu2 (fun q b hb hl hq => hm ((i, j) :: q) b hb hl (fun hp => hq ?_)) h2
                    exact (List.prefix_cons_inj (i, j)).1 hp
                · rename_i hjj
                  refine (hc i j' e c' hi' h3).move (fun q b hb hl => hm ((i, j') :: q) b hb hl (fun hp => ?_)) (Ok.refl _)
                  obtain ⟨r, hr⟩ := hp
                  simp only [List.cons_append, List.cons.injEq, Prod.mk.injEq] at hr
                  exact hjj hr.1.2
              · cases h1
            · rename_i hii
              refine (hc i' j' e' c' h1 h3).move (fun q b hb hl => hm ((i', j') :: q) b hb hl (fun hp => ?_)) (Ok.refl _)
              obtain ⟨r, hr⟩ := hp
              simp only [List.cons_append, List.cons.injEq, Prod.mk.injEq] at hr
              exact hii hr.1.1


section
variable {w : World} {home : Home} {hd : Lb → Value} {rt : Rts} {F : Nat → Option Root}
def updL {α : Type} (f : Lb → α) (l : Lb) (v : α) : Lb → α := fun m => if m = l then v else f m
theorem updL_same {α : Type} (f : Lb → α) (l : Lb) (v : α) : updL f l v l = v := if_pos rfl
theorem updL_ne {α : Type} (f : Lb → α) {l m : Lb} (v : α) (h : m ≠ l) : updL f l v m = f m := if_neg h
theorem Part.zero {u v : Value} {sz n : Nat} (h : Part u v sz 0 n) : ∃ a m cap a', u = .slice a m cap ∧ n ≤ cap ∧ v = .slice a' n cap ∧ (0 < cap → a' = a) := by
  obtain ⟨a, m, cap, a', e1, e2, e3, e4⟩ := h
  refine ⟨a, m, cap, a', e1, by omega, by simpa using e3, fun h0 => ?_⟩
  rw [e4 h0]
  cases a <;> simp [Addr.add]
/-- What lies at k is one more root. -/
theorem RtR.tag (h : RtR w home hd rt F) {d : Bool} {t : Bool} {l : Lb} {c : C} (hl : ext rt F l = some (.arr d t c)) : CR w home (arrTg d l) c (hd l) := h.root l _ hl

/-- A row is taken whole. -/
theorem take_whole (old : RtR w home hd rt F) {id k : Nat} {d t : Bool} {c : C} (hr : rt id = some (.arr d t c)) (hk : F k = none) {sz m tot n : Nat} (hs : c.shape = some (sz, m, tot)) (hn : n ≤ tot)
    {v : Value} (hp : Part (hd (.r id)) v sz 0 n) :
    ∃ home' hd', Step w home hd rt F w home' hd' (upd rt id .gone) (upd F k (.arr d false (c.sub 0 n))) ∧ (∀ l, l ≠ .t k → hd' l = hd l) ∧ hd' (.t k) = v := by
  obtain ⟨a, m', cap, a', hu, hcap, rfl, ha⟩ := hp.zero
  have hX : CR w home (arrTg d (.r id)) c (hd (.r id)) := old.root (.r id) _ hr
  let g : Lb → Lb := fun l => if l = .r id then .t k else l
  let home' : Home := fun b => (home b).map (fun q => (g q.1, q.2))
  have hnone : ∀ b, home b = none → home' b = none := fun b h => by simp [home', h]
  have hr' : ∀ b q, home b = some (.r id, q) → home' b = some (.t k, q) := fun b q h => by simp [home', h, g]
  have hother : ∀ b l q, l ≠ .r id → home b = some (l, q) → home' b = some (l, q) := fun b l q hl h => by simp [home', h, g, hl]
  have hnok : ∀ b q, home b ≠ some (.t k, q) := fun b q h => by
    obtain ⟨_, r, h1, _⟩ := old.lab b _ q h
    simp only [ext, hk] at h1
    cases h1
  have hnew : CR w home' (arrTg d (.t k)) (c.sub 0 n) (.slice a' n cap) := by
    have h1 : CR w home (arrTg d (.r id)) (c.sub 0 n) (relen (hd (.r id)) n) := hX.sub0 hs hn
    rw [hu] at h1
    have h2 := h1.readdr (a' := a') (by rw [C.sub_shape hs (by omega)]; simp) ha
    refine h2.move (fun q b hb hl => ⟨rfl, ?_⟩) ?_
    · rcases arrTg_exts d (.r id) q with h3 | h3
      · have h4 : ((arrTg d (.t k)).exts q).lab = none := by
          cases d with
          | true => simp [arrTg, Tg.exts_own, Tg.lab] at h3
          | false => cases q with
            | nil => simp [arrTg, Tg.exts, Tg.lab] at h3
            | cons x q => simp [arrTg, Tg.exts_top, Tg.lab]
        rw [h4]; exact hnone b (hl.trans h3)
      · have h4 : ((arrTg d (.t k)).exts q).lab = some (.t k, q) := by
          cases d with
          | true => simp [arrTg, Tg.exts_own, Tg.lab]
          | false => cases q with
            | nil => simp [arrTg, Tg.exts, Tg.lab]
            | cons x q => simp [arrTg, Tg.exts_top, Tg.lab] at h3
        rw [h4]; exact hr' b q (hl.trans h3)
    · cases d with
      | true => exact Ok.own _ _ _
      | false => exact Ok.top _ _
  refine ⟨home', updL hd (.t k) (.slice a' n cap), Step.mk2 (fun l => l = .r id ∨ l = .t k) old (fun b _ h => ⟨rfl, hnone b h⟩) (fun l hl b q _ h => ⟨rfl, hother b l q (fun e => hl (Or.inl e)) h⟩)
    (fun l hl => updL_ne _ _ (fun e => hl (Or.inr e))) (fun l hl => ?_) ?_ ?_ ?_ ?_ ?_ ?_ rfl rfl rfl (Nat.le_refl _) ?_, fun l hl => updL_ne _ _ hl, updL_same _ _ _⟩
  · cases l with
    | x => rfl
    | r i => exact updF_ne _ _ (fun e => hl (Or.inl (by rw [e])))
    | t i => exact updF_ne _ _ (fun e => hl (Or.inr (by rw [e])))
  · intro i hi x v' hx _ hv'
    have hi : i = id := by rcases hi with e | e <;> cases e; rfl
    subst hi
    have hg : upd rt i .gone i = some .gone := updF_same _ _ _
    cases x with
    | c c => cases hx
    | nil k => cases hx
    | pm cs off => cases hx
    | ref j p off len =>
      simp only [SV.ids, List.cons.injEq, and_true] at hx; subst hx
      exact ⟨hv'.1, fun d t c hr => by rw [hg] at hr; cases hr⟩
    | pb j off =>
      simp only [SV.ids, List.cons.injEq, and_true] at hx; subst hx
      exact ⟨hv'.1, fun xs hr => by rw [hg] at hr; cases hr⟩
    | pe j p i' off =>
      simp only [SV.ids, List.cons.injEq, and_true] at hx; subst hx
      exact ⟨hv'.1, fun d t c hr => by rw [hg] at hr; cases hr⟩
  · intro _ l r hl hr
    rcases hl with rfl | rfl
    · simp only [ext, updF_same, Option.some.injEq] at hr; subst hr; trivial
    · simp only [ext, updF_same, Option.some.injEq] at hr; subst hr
      show CR w home' (arrTg d (.t k)) (c.sub 0 n) (updL hd (.t k) _ (.t k))
      rw [updL_same]; exact hnew
  · intro b l p hl h
    simp only [home', Option.map_eq_some_iff] at h
    obtain ⟨⟨l0, q⟩, h1, h2⟩ := h
    simp only [Prod.mk.injEq] at h2
    obtain ⟨h2, rfl⟩ := h2
    simp only [g] at h2
    split at h2
    · exact absurd (Or.inr h2.symm) hl
    · subst h2; exact ⟨(old.lab b _ _ h1).1, h1⟩
  · intro b l p hl h
    simp only [home', Option.map_eq_some_iff] at h
    obtain ⟨⟨l0, q⟩, h1, h2⟩ := h
    refine ⟨(old.lab b _ _ h1).1, ?_⟩
    simp only [Prod.mk.injEq] at h2
    obtain ⟨h2, rfl⟩ := h2
    simp only [g] at h2
    split at h2
    · subst h2; exact ⟨.arr d false (c.sub 0 n), by simp only [ext, updF_same], by simp⟩
    · rename_i hne
      subst h2
      rcases hl with e | e
      · exact absurd e hne
      · subst e; exact absurd h1 (hnok b q)
  · intro l r hl hr
    rcases hl with rfl | rfl
    · simp only [ext, updF_same, Option.some.injEq] at hr; subst hr; intro i hi; cases hi
    · simp only [ext, updF_same, Option.some.injEq] at hr; subst hr; intro i hi; cases hi
  · intro i hi
    by_cases e : i = id
    · subst e; rw [updF_same]; rfl
    · rw [updF_ne _ _ e]; exact hi
  · intro i _ hX r hr hne
    rcases hX with e | e
    · injection e with e; subst e; rw [updF_same] at hr; injection hr with hr; exact absurd hr.symm hne
    · cases e
end


section
variable {w : World} {home : Home} {hd : Lb → Value} {rt : Rts} {F : Nat → Option Root}
/-- An inner row is taken out of a root all of which is owned. -/
theorem take_inner (old : RtR w home hd rt F) {id k : Nat} {c c' : C} {p : Path} (hr : rt id = some (.arr true false c)) (hk : F k = none) (hg : c.get p = some c') {sz m tot n : Nat} (hs : c'.shape = some (sz, m, tot)) (hn : n ≤ tot)
    {u v : Value} (hu : hdAt w c (hd (.r id)) p = some u) (hp : Part u v sz 0 n) :
    ∃ home' hd', Step w home hd rt F w home' hd' (upd rt id (.arr true false (c.set p .hole))) (upd F k (.arr true false (c'.sub 0 n))) ∧ (∀ l, l ≠ .t k → hd' l = hd l) ∧ hd' (.t k) = v := by
  obtain ⟨a, m', cap, a', rfl, hcap, rfl, ha⟩ := hp.zero
  have hX : CR w home (.own (.r id) []) c (hd (.r id)) := old.root (.r id) _ hr
  obtain ⟨u', hu1, hc'⟩ := CR.at p hX hg
  rw [hu] at hu1; injection hu1 with hu1; subst hu1
  rw [Tg.exts_own, List.nil_append] at hc'
  let g : Lb × Path → Lb × Path := fun q => if q.1 = .r id ∧ p <+: q.2 then (.t k, q.2.drop p.length) else q
  let home' : Home := fun b => (home b).map g
  have hnone : ∀ b, home b = none → home' b = none := fun b h => by simp [home', h]
  have hin : ∀ b q, home b = some (.r id, p ++ q) → home' b = some (.t k, q) := fun b q h => by simp [home', h, g]
  have hout : ∀ b l q, ¬ (l = .r id ∧ p <+: q) → home b = some (l, q) → home' b = some (l, q) := fun b l q hl h => by simp only [home', h, Option.map_some, g]; rw [if_neg hl]
  have hnok : ∀ b q, home b ≠ some (.t k, q) := fun b q h => by
    obtain ⟨_, r, h1, _⟩ := old.lab b _ q h
    simp only [ext, hk] at h1
    cases h1
  have hnew : CR w home' (.own (.t k) []) (c'.sub 0 n) (.slice a' n cap) := by
    have h1 := hc'.sub0 hs hn
    have h2 := h1.readdr (a' := a') (by rw [C.sub_shape hs (by omega)]; simp) ha
    refine h2.move (fun q b hb hl => ⟨rfl, ?_⟩) (Ok.own _ _ _)
    rw [Tg.exts_own] at hl ⊢
    simp only [Tg.lab, List.nil_append] at hl ⊢
    exact hin b q hl
  have hrest : CR w home' (.own (.r id) []) (c.set p .hole) (hd (.r id)) := by
    refine CR.set p hX hg hu (fun q b hb hl hq => ⟨rfl, ?_⟩) (.hole rfl)
    rw [Tg.exts_own, List.nil_append] at hl ⊢
    exact hout b _ q (fun h => hq h.2) hl
  refine ⟨home', updL hd (.t k) (.slice a' n cap), Step.mk2 (fun l => l = .r id ∨ l = .t k) old (fun b _ h => ⟨rfl, hnone b h⟩) (fun l hl b q _ h => ⟨rfl, hout b l q (fun e => hl (Or.inl e.1)) h⟩)
    (fun l hl => updL_ne _ _ (fun e => hl (Or.inr e))) (fun l hl => ?_) ?_ ?_ ?_ ?_ ?_ ?_ rfl rfl rfl (Nat.le_refl _) ?_, fun l hl => updL_ne _ _ hl, updL_same _ _ _⟩
  · cases l with
    | x => rfl
    | r i => exact updF_ne _ _ (fun e => hl (Or.inl (by rw [e])))
    | t i => exact updF_ne _ _ (fun e => hl (Or.inr (by rw [e])))
  · intro i hi x v' hx _ hv'
    have hi : i = id := by rcases hi with e | e <;> cases e; rfl
    subst hi
    have hgi : upd rt i (.arr true false (c.set p .hole)) i = some (.arr true false (c.set p .hole)) := updF_same _ _ _
    have hhd : updL hd (.t k) (.slice a' n cap) (.r i) = hd (.r i) := updL_ne _ _ (by simp)
    cases x with
    | c c => cases hx
    | nil k => cases hx
    | pm cs off => cases hx
    | ref j p' off len =>
      simp only [SV.ids, List.cons.injEq, and_true] at hx; subst hx
      refine ⟨hv'.1, fun d t c2 hr2 ht c3 u3 hg3 hu3 sz3 m3 tot3 hs3 => ?_⟩
      rw [hgi] at hr2
      injection hr2 with hr2
      injection hr2 with e1 e2 e3
      subst e1 e2 e3
      obtain ⟨c4, h1, h2, h3⟩ := C.set_hole p hg3 hs3
      rw [hhd, h3] at hu3
      exact hv'.2 true false c hr (Or.inr rfl) c4 u3 h1 hu3 sz3 m3 tot3 h2
    | pb j off =>
      simp only [SV.ids, List.cons.injEq, and_true] at hx; subst hx
      exact ⟨hv'.1, fun xs hr => by rw [hgi] at hr; cases hr⟩
    | pe j p' i' off =>
      simp only [SV.ids, List.cons.injEq, and_true] at hx; subst hx
      refine ⟨hv'.1, fun d t c2 hr2 ht c3 u3 hg3 hu3 sz3 m3 tot3 hs3 hi3 => ?_⟩
      rw [hgi] at hr2
      injection hr2 with hr2
      injection hr2 with e1 e2 e3
      subst e1 e2 e3
      obtain ⟨c4, h1, h2, h3⟩ := C.set_hole p hg3 hs3
      rw [hhd, h3] at hu3
      exact hv'.2 true false c hr (Or.inr rfl) c4 u3 h1 hu3 sz3 m3 tot3 h2 hi3
  · intro _ l r hl hr2
    rcases hl with rfl | rfl
    · simp only [ext, updF_same, Option.some.injEq] at hr2; subst hr2
      show CR w home' (.own (.r id) []) (c.set p .hole) (updL hd (.t k) _ (.r id))
      rw [updL_ne _ _ (by simp)]; exact hrest
    · simp only [ext, updF_same, Option.some.injEq] at hr2; subst hr2
      show CR w home' (.own (.t k) []) (c'.sub 0 n) (updL hd (.t k) _ (.t k))
      rw [updL_same]; exact hnew
  · intro b l q hl h
    simp only [home', Option.map_eq_some_iff] at h
    obtain ⟨⟨l0, q0⟩, h1, h2⟩ := h
    simp only [g] at h2
    split at h2
    · injection h2 with h2 _; exact absurd (Or.inr h2.symm) hl
    · injection h2 with h2 h3; subst h2 h3; exact ⟨(old.lab b _ _ h1).1, h1⟩
  · intro b l q hl h
    simp only [home', Option.map_eq_some_iff] at h
    obtain ⟨⟨l0, q0⟩, h1, h2⟩ := h
    refine ⟨(old.lab b _ _ h1).1, ?_⟩
    simp only [g] at h2
    split at h2
    · injection h2 with h2 _; subst h2; exact ⟨.arr true false (c'.sub 0 n), by simp only [ext, updF_same], by simp⟩
    · injection h2 with h2 h3; subst h2 h3
      rcases hl with e | e
      · subst e; exact ⟨.arr true false (c.set p .hole), by simp only [ext, updF_same], by simp⟩
      · subst e; exact absurd h1 (hnok b _)
  · intro l r hl hr2
    rcases hl with rfl | rfl
    · simp only [ext, updF_same, Option.some.injEq] at hr2; subst hr2; intro i hi; cases hi
    · simp only [ext, updF_same, Option.some.injEq] at hr2; subst hr2; intro i hi; cases hi
  · intro i hi
    by_cases e : i = id
    · subst e; rw [updF_same]; rfl
    · rw [updF_ne _ _ e]; exact hi
  · intro i _ hX2 r hr2 hne
    rcases hX2 with e | e
    · injection e with e; subst e; exact ⟨updL_ne _ _ (by simp), _, hr, by simp⟩
    · cases e

/-- Something new lies at k: nobody owned it. -/
theorem put_new (old : RtR w home hd rt F) {k : Nat} (hk : F k = none) {d : Bool} {c : C} {v : Value} (hc : CR w home (arrTg d (.t k)) c v) :
    ∃ hd', Step w home hd rt F w home hd' rt (upd F k (.arr d false c)) ∧ (∀ l, l ≠ .t k → hd' l = hd l) ∧ hd' (.t k) = v := by
  refine ⟨updL hd (.t k) v, Step.mk2 (fun l => l = .t k) old (fun b _ h => ⟨rfl, h⟩) (fun l hl b q _ h => ⟨rfl, h⟩)
    (fun l hl => updL_ne _ _ hl) (fun l hl => ?_) ?_ ?_ ?_ ?_ ?_ (fun i h => h) rfl rfl rfl (Nat.le_refl _) ?_, fun l hl => updL_ne _ _ hl, updL_same _ _ _⟩
  · cases l with
    | x => rfl
    | r i => rfl
    | t i => exact updF_ne _ _ (fun e => hl (by rw [e]))
  · intro i hi; cases hi
  · intro _ l r hl hr2
    subst hl
    simp only [ext, updF_same, Option.some.injEq] at hr2; subst hr2
    show CR w home (arrTg d (.t k)) c (updL hd (.t k) v (.t k))
    rw [updL_same]; exact hc
  · intro b l q hl h; exact ⟨(old.lab b _ _ h).1, h⟩
  · intro b l q hl h
    subst hl
    exact ⟨(old.lab b _ _ h).1, .arr d false c, by simp only [ext, updF_same], by simp⟩
  · intro l r hl hr2
    subst hl
    simp only [ext, updF_same, Option.some.injEq] at hr2; subst hr2; intro i hi; cases hi
  · intro i _ hX; cases hX

theorem take_step (old : RtR w home hd rt F) {x : SV} {v : Value} (hv : SVR w home hd rt x v) {k : Nat} (hk : F k = none) {o : Ow} {c : C} {rt' : Rts} (h : take rt x = some (o, c, rt')) :
    ∃ home' hd' F', Step w home hd rt F w home' hd' rt' F' ∧ (∀ j, j ≠ k → F' j = F j) ∧ (∀ l, l ≠ .t k → hd' l = hd l) ∧ Held w home' hd' F' k o c v ∧ (o ≠ .imm → c.shape ≠ none) ∧ (o = .imm → F' = F) := by
  cases x with
  | c c0 =>
    simp only [take, Option.some.injEq, Prod.mk.injEq] at h
    obtain ⟨rfl, rfl, rfl⟩ := h
    exact ⟨home, hd, F, Step.refl old, fun _ _ => rfl, fun _ _ => rfl, Or.inl ⟨rfl, hv⟩, fun h => absurd rfl h, fun _ => rfl⟩
  | nil q =>
    simp only [take, Option.some.injEq, Prod.mk.injEq] at h
    obtain ⟨rfl, rfl, rfl⟩ := h
    obtain ⟨rfl, hq⟩ := hv
    obtain ⟨hd', h1, h2, h3⟩ := put_new old hk (d := true) (c := q.empty) (v := .slice none 0 0) (CR.kempty hq)
    exact ⟨home, hd', _, h1, fun j hj => updF_ne _ _ hj, h2, Or.inr ⟨by simp, by rw [updF_same]; rfl, h3, rfl⟩, fun _ => by cases q <;> simp [K.empty, C.shape], fun h => by cases h⟩
  | ref id p off len =>
    cases p with
    | nil =>
      simp only [take] at h
      split at h
      · rename_i d t c0 hr
        split at h
        · rename_i sz m tot hs
          split at h
          · rename_i hcond
            obtain ⟨rfl, hn⟩ := hcond
            simp only [Option.some.injEq, Prod.mk.injEq] at h
            obtain ⟨rfl, rfl, rfl⟩ := h
            have hp := hv.2 d t c0 hr (Or.inl rfl) c0 (hd (.r id)) (by cases c0 <;> rfl) (by cases c0 <;> rfl) sz m tot hs
            obtain ⟨home', hd', h1, h2, h3⟩ := take_whole old hr hk hs hn hp
            refine ⟨home', hd', _, h1, fun j hj => updF_ne _ _ hj, h2, Or.inr ⟨by cases d <;> simp, by rw [updF_same]; cases d <;> rfl, h3, SVR.one hv⟩, fun _ => by rw [C.sub_shape hs (by omega)]; simp, fun h => by cases d <;> cases h⟩
          · cases h
        · cases h
      · cases h
    | cons y p =>
      simp only [take] at h
      split at h
      · rename_i c0 hr
        split at h
        · rename_i c1 hg
          split at h
          · rename_i sz m tot hs
            split at h
            · rename_i hcond
              obtain ⟨rfl, hn⟩ := hcond
              simp only [Option.some.injEq, Prod.mk.injEq] at h
              obtain ⟨rfl, rfl, rfl⟩ := h
              obtain ⟨u, hu, _⟩ := CR.at (y :: p) (old.root (.r id) _ hr) hg
              have hp := hv.2 true false c0 hr (Or.inr rfl) c1 u hg hu sz m tot hs
              obtain ⟨home', hd', h1, h2, h3⟩ := take_inner old hr hk hg hs hn hu hp
              refine ⟨home', hd', _, h1, fun j hj => updF_ne _ _ hj, h2, Or.inr ⟨by simp, by rw [updF_same]; rfl, h3, SVR.one hv⟩, fun _ => by rw [C.sub_shape hs (by omega)]; simp, fun h => by cases h⟩
            · cases h
          · cases h
        · cases h
      · cases h
  | pb id off => cases h
  | pe id p i off => cases h
  | pm cs off => cases h
end


theorem Held.step {w w' : World} {home home' : Home} {hd hd' : Lb → Value} {rt rt' : Rts} {F F' : Nat → Option Root} (h : Step w home hd rt F w' home' hd' rt' F') {k : Nat} {o : Ow} {c : C} {v : Value}
    (hh : Held w home hd F k o c v) (hF : F' k = F k) (hh2 : hd' (.t k) = hd (.t k)) : Held w' home' hd' F' k o c v := by
  rcases hh with ⟨e, hc⟩ | ⟨e, h1, h2, h3⟩
  · exact Or.inl ⟨e, h.st (.c c) v (fun i hi => by cases hi) hc⟩
  · exact Or.inr ⟨e, hF.trans h1, hh2.trans h2, h3⟩
theorem takes_step {w : World} : ∀ (xs : List SV) {home : Home} {hd : Lb → Value} {rt : Rts} {F : Nat → Option Root} {vs : List Value} {k : Nat} {l : List (Ow × C)} {rt' : Rts},
    RtR w home hd rt F → F2 (SVR w home hd rt) xs vs → (∀ x ∈ xs, ∀ i ∈ x.ids, (rt i).isSome = true) → (∀ j, k ≤ j → F j = none) → takes rt xs = some (l, rt') →
    ∃ home' hd' F', Step w home hd rt F w home' hd' rt' F' ∧ (∀ j, j < k → F' j = F j) ∧ (∀ j, k + xs.length ≤ j → F' j = none) ∧ (∀ i, hd' (.r i) = hd (.r i)) ∧ (∀ j, j < k → hd' (.t j) = hd (.t j)) ∧
      l.length = xs.length ∧ ∀ m q v, l[m]? = some q → vs[m]? = some v → Held w home' hd' F' (k + m) q.1 q.2 v ∧ (q.1 ≠ .imm → q.2.shape ≠ none) ∧ (q.1 = .imm → F' (k + m) = none)
  | [], home, hd, rt, F, vs, k, l, rt', old, _, _, hF, h => by
    simp only [takes, Option.some.injEq, Prod.mk.injEq] at h
    obtain ⟨rfl, rfl⟩ := h
    exact ⟨home, hd, F, Step.refl old, fun _ _ => rfl, fun j hj => hF j (by simpa using hj), fun _ => rfl, fun _ _ => rfl, rfl, fun m q v hq => by simp at hq⟩
  | x :: xs, home, hd, rt, F, vs, k, l, rt', old, hv, hw, hF, h => by
    cases vs with
    | nil => exact absurd hv.1 (by simp)
    | cons v vs =>
      simp only [takes] at h
      cases h1 : take rt x with
      | none => simp only [h1] at h; cases h
      | some r =>
        obtain ⟨o, c, rt1⟩ := r
        simp only [h1] at h
        cases h2 : takes rt1 xs with
        | none => simp only [h2] at h; cases h
        | some r2 =>
          obtain ⟨l2, rt2⟩ := r2
          simp only [h2, Option.some.injEq, Prod.mk.injEq] at h
          obtain ⟨rfl, rfl⟩ := h
          obtain ⟨home1, hd1, F1, s1, f1, g1, held, sh, imF⟩ := take_step old (hv.2 0 x v rfl rfl) (hF k (Nat.le_refl _)) h1
          have hv1 : F2 (SVR w home1 hd1 rt1) xs vs := ⟨by have := hv.1; simpa using this, fun i x' v' hx hv' => s1.st x' v' (hw x' (List.mem_cons_of_mem _ (List.mem_of_getElem? hx))) (hv.2 (i + 1) x' v' hx hv')⟩
          obtain ⟨home2, hd2, F2', s2, f2, n2, g2, t2, len2, held2⟩ := takes_step xs (k := k + 1) s1.rel hv1 (fun x' hx i hi => s1.pres i (hw x' (List.mem_cons_of_mem _ hx) i hi))
            (fun j hj => (f1 j (by omega)).trans (hF j (by omega))) h2
          refine ⟨home2, hd2, F2', s1.trans s2, fun j hj => (f2 j (by omega)).trans (f1 j (by omega)), fun j hj => n2 j (by simp only [List.length_cons] at hj; omega), fun i => (g2 i).trans (g1 _ (by simp)),
            fun j hj => (t2 j (by omega)).trans (g1 _ (by simp; omega)), by simp [len2], fun m q v' hq hv' => ?_⟩
          cases m with
          | zero =>
            simp only [List.getElem?_cons_zero, Option.some.injEq] at hq hv'
            subst hq hv'
            exact ⟨held.step s2 (f2 k (by omega)) (t2 k (by omega)), sh, fun h => by rw [Nat.add_zero, f2 k (by omega), imF h]; exact hF k (Nat.le_refl _)⟩
          | succ m =>
            simp only [List.getElem?_cons_succ] at hq hv'
            have := held2 m q v' hq hv'
            rw [show k + 1 + m = k + (m + 1) by omega] at this
            exact this

/-! ### A new row out of what was taken -/
section
variable {w w' : World} {home : Home} {hd : Lb → Value} {rt : Rts} {F : Nat → Option Root}
/-- B is the new row's block; what lay from k0 on goes below the new row, or is let go. -/
def asmHome (home : Home) (k0 id : Nat) (B : Option Nat) (g : Nat → Path → Option Path) : Home := fun b =>
  if some b = B then some (.r id, []) else match home b with
    | some (.t m, q) => if k0 ≤ m then (g m q).map (fun p => (.r id, p)) else some (.t m, q)
    | x => x
def asmF (F : Nat → Option Root) (k0 : Nat) : Nat → Option Root := fun j => if k0 ≤ j then none else F j
theorem asmHome_none {home : Home} {k0 id : Nat} {B : Option Nat} {g : Nat → Path → Option Path} {b : Nat} (hb : some b ≠ B) (h : home b = none) : asmHome home k0 id B g b = none := by
  simp [asmHome, hb, h]
theorem asmHome_B {home : Home} {k0 id : Nat} {g : Nat → Path → Option Path} {b : Nat} : asmHome home k0 id (some b) g b = some (.r id, []) := by simp [asmHome]
theorem asmHome_r {home : Home} {k0 id : Nat} {B : Option Nat} {g : Nat → Path → Option Path} {b i : Nat} {q : Path} (hb : some b ≠ B) (h : home b = some (.r i, q)) : asmHome home k0 id B g b = some (.r i, q) := by
  simp [asmHome, hb, h]
theorem asmHome_x {home : Home} {k0 id : Nat} {B : Option Nat} {g : Nat → Path → Option Path} {b : Nat} {q : Path} (hb : some b ≠ B) (h : home b = some (.x, q)) : asmHome home k0 id B g b = some (.x, q) := by
  simp [asmHome, hb, h]
theorem asmHome_t {home : Home} {k0 id : Nat} {B : Option Nat} {g : Nat → Path → Option Path} {b m : Nat} {q : Path} (hb : some b ≠ B) (h : home b = some (.t m, q)) (hm : k0 ≤ m) : asmHome home k0 id B g b = (g m q).map (fun p => (.r id, p)) := by
  simp [asmHome, hb, h, hm]
theorem asmHome_t' {home : Home} {k0 id : Nat} {B : Option Nat} {g : Nat → Path → Option Path} {b m : Nat} {q : Path} (hb : some b ≠ B) (h : home b = some (.t m, q)) (hm : m < k0) : asmHome home k0 id B g b = some (.t m, q) := by
  simp only [asmHome, hb, h, if_false]; rw [if_neg (by omega)]
theorem asmHome_inv {home : Home} {k0 id : Nat} {B : Option Nat} {g : Nat → Path → Option Path} {b : Nat} {l : Lb} {p : Path} (h : asmHome home k0 id B g b = some (l, p)) :
    (some b = B ∧ l = .r id) ∨ (some b ≠ B ∧ home b = some (l, p) ∧ ∀ m, l = .t m → m < k0) ∨ (some b ≠ B ∧ l = .r id ∧ ∃ m q, k0 ≤ m ∧ home b = some (.t m, q)) := by
  simp only [asmHome] at h
  split at h
  · rename_i hb; injection h with h; injection h with h1 h2; exact Or.inl ⟨hb, h1.symm⟩
  · rename_i hb
    split at h
    · rename_i m q hm
      split at h
      · rename_i hk
        rw [Option.map_eq_some_iff] at h
        obtain ⟨q', _, h2⟩ := h
        injection h2 with h2 h3
        exact Or.inr (Or.inr ⟨hb, h2.symm, m, q, hk, hm⟩)
      · injection h with h; injection h with h1 h2; subst h1 h2
        rename_i hk
        exact Or.inr (Or.inl ⟨hb, hm, fun m' e => by injection e with e; subst e; omega⟩)
    · rename_i hne
      refine Or.inr (Or.inl ⟨hb, h, fun m e => ?_⟩)
      subst e
      exact absurd h (hne m p)
theorem assemble (old : RtR w home hd rt F) {k0 id : Nat} (hid : rt id = none) (h64 : 64000 ≤ id) {B : Option Nat} (g : Nat → Path → Option Path) {d : Bool} {c : C} {u : Value}
    (hB : ∀ b, B = some b → b < w'.heap.size ∧ (b < w.heap.size → ∃ m q, k0 ≤ m ∧ home b = some (.t m, q)))
    (hblk : ∀ b, b < w.heap.size → some b ≠ B → w'.heap[b]? = w.heap[b]?)
    (os : w'.os = w.os) (tape : w'.tape = w.tape) (output : w'.output = w.output) (size : w.heap.size ≤ w'.heap.size)
    (hc : CR w' (asmHome home k0 id B g) (arrTg d (.r id)) c u) :
    Step w home hd rt F w' (asmHome home k0 id B g) (updL hd (.r id) u) (upd rt id (.arr d false c)) (asmF F k0) := by
  have hnB : ∀ b, b < w.heap.size → (∀ m q, k0 ≤ m → home b ≠ some (.t m, q)) → some b ≠ B := by
    intro b hb hn e
    obtain ⟨m, q, h1, h2⟩ := (hB b e.symm).2 hb
    exact hn m q h1 h2
  have hidl : ∀ b q, home b ≠ some (.r id, q) := fun b q h => by
    obtain ⟨_, r, h1, _⟩ := old.lab b _ q h
    simp only [ext, hid] at h1
    cases h1
  refine Step.mk2 (fun l => l = .r id ∨ ∃ m, k0 ≤ m ∧ l = .t m) old (fun b hb h => ?_) (fun l hl b q hb h => ?_) (fun l hl => updL_ne _ _ (fun e => hl (Or.inl e))) (fun l hl => ?_) ?_ ?_ ?_ ?_ ?_ ?_ os tape output size ?_
  · have := hnB b hb (fun m q _ e => by rw [h] at e; cases e)
    exact ⟨hblk b hb this, asmHome_none this h⟩
  · have hb' := hnB b hb (fun m q hm e => by rw [h] at e; injection e with e; injection e with e1 e2; exact hl (Or.inr ⟨m, hm, e1⟩))
    refine ⟨hblk b hb hb', ?_⟩
    cases l with
    | x => exact asmHome_x hb' h
    | r i => exact asmHome_r hb' h
    | t m => exact asmHome_t' hb' h (by
        have : ¬ k0 ≤ m := fun hm => hl (Or.inr ⟨m, hm, rfl⟩)
        omega)
  · cases l with
    | x => rfl
    | r i => exact updF_ne _ _ (fun e => hl (Or.inl (by rw [e])))
    | t i =>
      have : ¬ k0 ≤ i := fun e => hl (Or.inr ⟨i, e, rfl⟩)
      simp [ext, asmF, this]
  · intro i hi x v hx hs _
    rcases hi with e | ⟨m, _, e⟩
    · injection e with e; subst e; rw [hid] at hs; cases hs
    · cases e
  · intro _ l r hl hr
    rcases hl with rfl | ⟨m, hm, rfl⟩
    · simp only [ext, updF_same, Option.some.injEq] at hr; subst hr
      show CR w' _ (arrTg d (.r id)) c (updL hd (.r id) u (.r id))
      rw [updL_same]; exact hc
    · simp only [ext, asmF, hm, if_true] at hr; cases hr
  · intro b l p hl h
    rcases asmHome_inv h with ⟨_, e⟩ | ⟨_, e, _⟩ | ⟨_, e, _⟩
    · exact absurd (Or.inl e) hl
    · exact ⟨(old.lab b l p e).1, e⟩
    · exact absurd (Or.inl e) hl
  · intro b l p hl h
    have hroot : ∃ r, ext (upd rt id (.arr d false c)) (asmF F k0) (.r id) = some r ∧ r ≠ .gone := ⟨.arr d false c, updF_same _ _ _, by simp⟩
    rcases asmHome_inv h with ⟨e, rfl⟩ | ⟨_, e, ht⟩ | ⟨_, rfl, m, q, _, e⟩
    · exact ⟨(hB b e.symm).1, hroot⟩
    · rcases hl with rfl | ⟨m, hm, rfl⟩
      · exact absurd e (hidl b p)
      · exact absurd (ht m rfl) (by omega)
    · exact ⟨Nat.lt_of_lt_of_le (old.lab b _ _ e).1 size, hroot⟩
  · intro l r hl hr
    rcases hl with rfl | ⟨m, hm, rfl⟩
    · simp only [ext, updF_same, Option.some.injEq] at hr; subst hr; intro i hi; cases hi
    · simp only [ext, asmF, hm, if_true] at hr; cases hr
  · intro i hi
    by_cases e : i = id
    · subst e; rw [updF_same]; rfl
    · rw [updF_ne _ _ e]; exact hi
  · intro i hi hX
    rcases hX with e | ⟨m, _, e⟩
    · injection e with e; omega
    · cases e

/-- A new variable. -/
theorem new_box (old : RtR w home hd rt F) {id : Nat} (hid : rt id = none) (h64 : 64000 ≤ id) {xs : List SV} {vs : List Value} (hx : F2 (SVR w home hd rt) xs vs) (hw : ∀ x ∈ xs, ∀ i ∈ x.ids, (rt i).isSome = true) (e : TypeId) :
    ∃ home' hd', Step w home hd rt F (w.alloc (.cells vs.toArray e)) home' hd' (upd rt id (.box xs)) F ∧ hd' (.r id) = .pointer (some ⟨w.heap.size, 0, none⟩) := by
  have hidl : ∀ b q, home b ≠ some (.r id, q) := fun b q h => by
    obtain ⟨_, r, h1, _⟩ := old.lab b _ q h
    simp only [ext, hid] at h1
    cases h1
  let home' : Home := fun b => if b = w.heap.size then some (.r id, []) else home b
  have hold : ∀ b, b < w.heap.size → home' b = home b := fun b hb => if_neg (by omega)
  have hh : ∀ b, b < w.heap.size → (w.alloc (.cells vs.toArray e)).heap[b]? = w.heap[b]? := fun b hb => heap_alloc_old w _ b hb
  refine ⟨home', updL hd (.r id) (.pointer (some ⟨w.heap.size, 0, none⟩)), Step.mk2 (fun l => l = .r id) old (fun b hb h => ⟨hh b hb, (hold b hb).trans h⟩) (fun l hl b q hb h => ⟨hh b hb, (hold b hb).trans h⟩)
    (fun l hl => updL_ne _ _ hl) (fun l hl => ?_) ?_ ?_ ?_ ?_ ?_ ?_ rfl rfl rfl (by simp) ?_, updL_same _ _ _⟩
  · cases l with
    | x => rfl
    | r i => exact updF_ne _ _ (fun e => hl (by rw [e]))
    | t i => rfl
  · intro i hi x v hx hs _
    injection hi with hi; subst hi; rw [hid] at hs; cases hs
  · intro st l r hl hr
    subst hl
    simp only [ext, updF_same, Option.some.injEq] at hr; subst hr
    refine Or.inr ⟨w.heap.size, vs.toArray, e, updL_same _ _ _, if_pos rfl, heap_alloc_new w _, by simpa using hx.1, fun i x v h1 h2 => ?_⟩
    exact st x v (hw x (List.mem_of_getElem? h1)) (hx.2 i x v h1 (by simpa using h2))
  · intro b l p hl h
    simp only [home'] at h
    split at h
    · injection h with h; injection h with h1 h2; exact absurd h1.symm hl
    · exact ⟨(old.lab b l p h).1, h⟩
  · intro b l p hl h
    subst hl
    have hr : ∃ r, ext (upd rt id (.box xs)) F (.r id) = some r ∧ r ≠ .gone := ⟨.box xs, updF_same _ _ _, by simp⟩
    simp only [home'] at h
    split at h
    · rename_i hb; subst hb; exact ⟨by simp, hr⟩
    · exact absurd h (hidl b p)
  · intro l r hl hr
    subst hl
    simp only [ext, updF_same, Option.some.injEq] at hr; subst hr
    intro i hi
    simp only [Root.ids, List.mem_flatMap] at hi
    obtain ⟨x, hx1, hx2⟩ := hi
    have := hw x hx1 i hx2
    by_cases e : i = id
    · subst e; rw [updF_same]; rfl
    · rw [updF_ne _ _ e]; exact this
  · intro i hi
    by_cases e : i = id
    · subst e; rw [updF_same]; rfl
    · rw [updF_ne _ _ e]; exact hi
  · intro i hi hX
    injection hX with e; omega
end


section
variable {w w' : World} {home : Home} {hd : Lb → Value} {rt : Rts} {F : Nat → Option Root}
/-- What lay from k0 on goes below id, or is let go. -/
def excHome (home : Home) (k0 id : Nat) (g : Nat → Path → Option Path) : Home := fun b =>
  match home b with
    | some (.t m, q) => if k0 ≤ m then (g m q).map (fun p => (.r id, p)) else some (.t m, q)
    | x => x
theorem excHome_eq {home : Home} {k0 id : Nat} {g : Nat → Path → Option Path} {b : Nat} {x : Option (Lb × Path)} (h : home b = x) (hx : ∀ m q, x = some (.t m, q) → m < k0) : excHome home k0 id g b = x := by
  subst h
  simp only [excHome]
  split
  · rename_i m q hm
    have := hx m q hm
    rw [if_neg (by omega)]; exact hm.symm
  · rfl
theorem excHome_t {home : Home} {k0 id : Nat} {g : Nat → Path → Option Path} {b m : Nat} {q : Path} (h : home b = some (.t m, q)) (hm : k0 ≤ m) : excHome home k0 id g b = (g m q).map (fun p => (.r id, p)) := by
  simp [excHome, h, hm]
theorem excHome_inv {home : Home} {k0 id : Nat} {g : Nat → Path → Option Path} {b : Nat} {l : Lb} {p : Path} (h : excHome home k0 id g b = some (l, p)) :
    (home b = some (l, p) ∧ ∀ m, l = .t m → m < k0) ∨ (l = .r id ∧ ∃ m q, k0 ≤ m ∧ home b = some (.t m, q)) := by
  simp only [excHome] at h
  split at h
  · rename_i m q hm
    split at h
    · rename_i hk
      rw [Option.map_eq_some_iff] at h
      obtain ⟨q', _, h2⟩ := h
      injection h2 with h2 h3
      exact Or.inr ⟨h2.symm, m, q, hk, hm⟩
    · injection h with h; injection h with h1 h2; subst h1 h2
      rename_i hk
      exact Or.inl ⟨hm, fun m' e => by injection e with e; subst e; omega⟩
  · rename_i hne
    exact Or.inl ⟨h, fun m e => by subst e; exact absurd h (hne m p)⟩
/-- A row's content is exchanged, in its own blocks. -/
theorem exchange (old : RtR w home hd rt F) {k0 id : Nat} {d t t' : Bool} {c c' : C} (hr : rt id = some (.arr d t c)) (g : Nat → Path → Option Path)
    (hsh : c'.shape = c.shape) (hfl : t' = false → c'.flat = true)
    (hblk : ∀ b, b < w.heap.size → (∀ q, home b ≠ some (.r id, q)) → w'.heap[b]? = w.heap[b]?)
    (os : w'.os = w.os) (tape : w'.tape = w.tape) (output : w'.output = w.output) (size : w.heap.size ≤ w'.heap.size)
    (hc : CR w' (excHome home k0 id g) (arrTg d (.r id)) c' (hd (.r id))) :
    Step w home hd rt F w' (excHome home k0 id g) hd (upd rt id (.arr d t' c')) (asmF F k0) := by
  refine Step.mk2 (fun l => l = .r id ∨ ∃ m, k0 ≤ m ∧ l = .t m) old (fun b hb h => ?_) (fun l hl b q hb h => ?_) (fun l hl => rfl) (fun l hl => ?_) ?_ ?_ ?_ ?_ ?_ ?_ os tape output size ?_
  · exact ⟨hblk b hb (fun q e => by rw [h] at e; cases e), excHome_eq h (fun m q e => by cases e)⟩
  · refine ⟨hblk b hb (fun q' e => by rw [h] at e; injection e with e; injection e with e1 e2; exact hl (Or.inl e1)), excHome_eq h (fun m q e => ?_)⟩
    injection e with e; injection e with e1 e2
    have : ¬ k0 ≤ m := fun hm => hl (Or.inr ⟨m, hm, e1⟩)
    omega
  · cases l with
    | x => rfl
    | r i => exact updF_ne _ _ (fun e => hl (Or.inl (by rw [e])))
    | t i =>
      have : ¬ k0 ≤ i := fun e => hl (Or.inr ⟨i, e, rfl⟩)
      simp [ext, asmF, this]
  · intro i hi x v hx _ hv
    have hi : i = id := by rcases hi with e | ⟨m, _, e⟩ <;> cases e; rfl
    subst hi
    have hgi : upd rt i (.arr d t' c') i = some (.arr d t' c') := updF_same _ _ _
    have hget : ∀ {p : Path} {c3 : C}, (p = [] ∨ t' = false) → c'.get p = some c3 → p = [] := by
      intro p c3 h1 h2
      rcases h1 with h1 | h1
      · exact h1
      · have := hfl h1
        cases c' with
        | fl sz es sp => cases p with
          | nil => rfl
          | cons x p => obtain ⟨_, _⟩ := x; cases h2
        | _ => cases this
    have hat : ∀ w (c : C) (u : Value), hdAt w c u [] = some u := fun w c u => by cases c <;> rfl
    have hg0 : ∀ (c : C), c.get [] = some c := fun c => by cases c <;> rfl
    cases x with
    | c c => cases hx
    | nil k => cases hx
    | pm cs off => cases hx
    | ref j p off len =>
      simp only [SV.ids, List.cons.injEq, and_true] at hx; subst hx
      refine ⟨hv.1, fun d1 t1 c1 hr1 ht1 c3 u hg hu sz m tot hs => ?_⟩
      rw [hgi] at hr1
      injection hr1 with hr1
      injection hr1 with e1 e2 e3
      subst e1 e2 e3
      obtain rfl := hget ht1 hg
      rw [hg0] at hg; injection hg with hg; subst hg
      rw [hat] at hu; injection hu with hu; subst hu
      exact hv.2 d t c hr (Or.inl rfl) c (hd (.r j)) (hg0 c) (hat _ _ _) sz m tot (by rw [← hsh]; exact hs)
    | pb j off =>
      simp only [SV.ids, List.cons.injEq, and_true] at hx; subst hx
      exact ⟨hv.1, fun xs hr => by rw [hgi] at hr; cases hr⟩
    | pe j p i' off =>
      simp only [SV.ids, List.cons.injEq, and_true] at hx; subst hx
      refine ⟨hv.1, fun d1 t1 c1 hr1 ht1 c3 u hg hu sz m tot hs hi => ?_⟩
      rw [hgi] at hr1
      injection hr1 with hr1
      injection hr1 with e1 e2 e3
      subst e1 e2 e3
      obtain rfl := hget ht1 hg
      rw [hg0] at hg; injection hg with hg; subst hg
      rw [hat] at hu; injection hu with hu; subst hu
      exact hv.2 d t c hr (Or.inl rfl) c (hd (.r j)) (hg0 c) (hat _ _ _) sz m tot (by rw [← hsh]; exact hs) hi
  · intro _ l r hl hr2
    rcases hl with rfl | ⟨m, hm, rfl⟩
    · simp only [ext, updF_same, Option.some.injEq] at hr2; subst hr2; exact hc
    · simp only [ext, asmF, hm, if_true] at hr2; cases hr2
  · intro b l p hl h
    rcases excHome_inv h with ⟨e, _⟩ | ⟨e, _⟩
    · exact ⟨(old.lab b l p e).1, e⟩
    · exact absurd (Or.inl e) hl
  · intro b l p hl h
    have hroot : ∃ r, ext (upd rt id (.arr d t' c')) (asmF F k0) (.r id) = some r ∧ r ≠ .gone := ⟨_, updF_same _ _ _, by simp⟩
    rcases excHome_inv h with ⟨e, ht⟩ | ⟨rfl, m, q, _, e⟩
    · rcases hl with rfl | ⟨m, hm, rfl⟩
      · exact ⟨Nat.lt_of_lt_of_le (old.lab b _ _ e).1 size, hroot⟩
      · exact absurd (ht m rfl) (by omega)
    · exact ⟨Nat.lt_of_lt_of_le (old.lab b _ _ e).1 size, hroot⟩
  · intro l r hl hr2
    rcases hl with rfl | ⟨m, hm, rfl⟩
    · simp only [ext, updF_same, Option.some.injEq] at hr2; subst hr2; intro i hi; cases hi
    · simp only [ext, asmF, hm, if_true] at hr2; cases hr2
  · intro i hi
    by_cases e : i = id
    · subst e; rw [updF_same]; rfl
    · rw [updF_ne _ _ e]; exact hi
  · intro i hi hX r hr2 hne
    rcases hX with e | ⟨m, _, e⟩
    · injection e with e; subst e; exact ⟨rfl, _, hr, by simp⟩
    · cases e

/-- A variable's cells are exchanged. -/
theorem exc_box (old : RtR w home hd rt F) {id : Nat} {xs zs : List SV} (hr : rt id = some (.box xs)) {b : Nat} {cur : Array Value} {e : TypeId}
    (h1 : hd (.r id) = .pointer (some ⟨b, 0, none⟩)) (h2 : home b = some (.r id, [])) (h3 : w'.heap[b]? = some (.cells cur e (0, 0))) (h4 : F2 (SVR w home hd rt) zs cur.toList)
    (hw : ∀ x ∈ zs, ∀ i ∈ x.ids, (rt i).isSome = true)
    (hblk : ∀ k, k < w.heap.size → k ≠ b → w'.heap[k]? = w.heap[k]?)
    (os : w'.os = w.os) (tape : w'.tape = w.tape) (output : w'.output = w.output) (size : w.heap.size ≤ w'.heap.size) :
    Step w home hd rt F w' home hd (upd rt id (.box zs)) F := by
  refine Step.mk2 (fun l => l = .r id) old (fun k hk h => ⟨hblk k hk (fun e => by subst e; rw [h2] at h; cases h), h⟩)
    (fun l hl k q hk h => ⟨hblk k hk (fun e => by subst e; rw [h2] at h; injection h with h; injection h with h _; exact hl h.symm), h⟩) (fun l hl => rfl) (fun l hl => ?_) ?_ ?_ ?_ ?_ ?_ ?_ os tape output size ?_
  · cases l with
    | x => rfl
    | r i => exact updF_ne _ _ (fun e => hl (by rw [e]))
    | t i => rfl
  · intro i hi x v hx _ hv
    injection hi with hi
    subst hi
    have hgi : upd rt i (.box zs) i = some (.box zs) := updF_same _ _ _
    cases x with
    | c c => cases hx
    | nil k => cases hx
    | pm cs off => cases hx
    | ref j p off len =>
      simp only [SV.ids, List.cons.injEq, and_true] at hx; subst hx
      exact ⟨hv.1, fun d t c hr1 => by rw [hgi] at hr1; cases hr1⟩
    | pb j off =>
      simp only [SV.ids, List.cons.injEq, and_true] at hx; subst hx
      exact ⟨hv.1, fun ys _ => hv.2 xs hr⟩
    | pe j p i' off =>
      simp only [SV.ids, List.cons.injEq, and_true] at hx; subst hx
      exact ⟨hv.1, fun d t c hr1 => by rw [hgi] at hr1; cases hr1⟩
  · intro st l r hl hr2
    subst hl
    simp only [ext, updF_same, Option.some.injEq] at hr2; subst hr2
    exact Or.inr ⟨b, cur, e, h1, h2, h3, h4.1, fun i x v hx hv => st x v (hw x (List.mem_of_getElem? hx)) (h4.2 i x v hx hv)⟩
  · intro k l p hl h; exact ⟨(old.lab k _ _ h).1, h⟩
  · intro k l p hl h
    subst hl
    exact ⟨Nat.lt_of_lt_of_le (old.lab k _ _ h).1 size, .box zs, updF_same _ _ _, by simp⟩
  · intro l r hl hr2
    subst hl
    simp only [ext, updF_same, Option.some.injEq] at hr2; subst hr2
    intro i hi
    simp only [Root.ids, List.mem_flatMap] at hi
    obtain ⟨x, hx1, hx2⟩ := hi
    have := hw x hx1 i hx2
    by_cases e : i = id
    · subst e; rw [updF_same]; rfl
    · rw [updF_ne _ _ e]; exact this
  · intro i hi
    by_cases e : i = id
    · subst e; rw [updF_same]; rfl
    · rw [updF_ne _ _ e]; exact hi
  · intro i hi hX r hr2 hne
    injection hX with e; subst e; exact ⟨rfl, _, hr, by simp⟩
/-- Nothing turns but counts and new blocks that nobody holds. -/
theorem same_step (old : RtR w home hd rt F) (hblk : ∀ k, k < w.heap.size → w'.heap[k]? = w.heap[k]?)
    (os : w'.os = w.os) (tape : w'.tape = w.tape) (output : w'.output = w.output) (size : w.heap.size ≤ w'.heap.size) :
    Step w home hd rt F w' home hd rt F := by
  refine Step.mk2 (fun l => False) old (fun k hk h => ⟨hblk k hk, h⟩) (fun l _ k q hk h => ⟨hblk k hk, h⟩) (fun l _ => rfl) (fun l _ => rfl) (fun i hi => hi.elim) (fun _ l r hl => hl.elim) (fun k l p _ h => ⟨(old.lab k _ _ h).1, h⟩)
    (fun k l p hl => hl.elim) (fun l r hl => hl.elim) (fun i hi => hi) os tape output size (fun i _ hX => hX.elim)
end

end Go.Proofs.YtecmolmlojehgaaGreat.T
namespace Go.Proofs.YtecmolmlojehgaaGreat.T
open Go

/-! ### Which code is which -/
def beqV : Value → Value → Bool
  | .int k n, .int k' m => decide (k = k') && n == m
  | .bool a, .bool b => a == b
  | .string a, .string b => a.data.toList == b.data.toList
  | .pointer none, .pointer none => true
  | _, _ => false
theorem beqV_eq {a b : Value} (h : beqV a b = true) : a = b ∧ b.oneCell' = true := by
  cases a <;> cases b <;> simp only [beqV, Bool.and_eq_true, decide_eq_true_eq, beq_iff_eq, Bool.false_eq_true] at h
  · subst h; exact ⟨rfl, rfl⟩
  · obtain ⟨rfl, rfl⟩ := h; exact ⟨rfl, rfl⟩
  · rename_i a b
    refine ⟨?_, rfl⟩
    congr 1
    cases a; cases b; simp only at h ⊢; congr 1; exact Array.ext' h
  · rename_i a b
    cases a <;> cases b <;> simp at h
    exact ⟨rfl, rfl⟩
def svOk : Value → SV → Bool
  | .slice none 0 0, .nil k => decide (0 < k.sz)
  | v, .c (.val u) => beqV v u
  | _, _ => false
def all2 {α β : Type} (f : α → β → Bool) : List α → List β → Bool
  | [], [] => true
  | a :: as, b :: bs => f a b && all2 f as bs
  | _, _ => false
theorem all2_iff {α β : Type} {f : α → β → Bool} : ∀ {as : List α} {bs : List β}, all2 f as bs = true → as.length = bs.length ∧ ∀ (i : Nat) a b, as[i]? = some a → bs[i]? = some b → f a b = true
  | [], [], _ => ⟨rfl, fun i a b h => by simp at h⟩
  | [], _ :: _, h => by cases h
  | _ :: _, [], h => by cases h
  | a :: as, b :: bs, h => by
    simp only [all2, Bool.and_eq_true] at h
    obtain ⟨h1, h2⟩ := all2_iff h.2
    refine ⟨by simp [h1], fun i x y hx hy => ?_⟩
    cases i with
    | zero => simp at hx hy; subst hx hy; exact h.1
    | succ i => simp at hx hy; exact h2 i x y hx hy
def constOk : Value → A1 → Bool
  | .agg vs, .agg xs => all2 svOk vs.toList xs
  | v, .s x => svOk v x
  | _, _ => false
variable (ids : Nat → FuncId)
def mOpd : Operand → Opd → Bool
  | .tmp t, .t n => t == n
  | .const v, .k a => constOk v a
  | .func f, .k (.fn g []) => ids g == f
  | _, _ => false
theorem svOk_R {v : Value} {x : SV} (h : svOk v x = true) (w : World) (home : Home) (hd : Lb → Value) (rt : Rts) : SVR w home hd rt x v ∧ x.ids = [] := by
  unfold svOk at h
  split at h
  · exact ⟨⟨rfl, by simpa using h⟩, rfl⟩
  · obtain ⟨rfl, h1⟩ := beqV_eq h
    exact ⟨.val h1, rfl⟩
  · cases h
theorem constOk_R {v : Value} {a : A1} (h : constOk v a = true) (w : World) (home : Home) (hd : Lb → Value) (rt : Rts) : A1R ids w home hd rt a v ∧ a.ids = [] := by
  unfold constOk at h
  split at h
  · rename_i vs xs
    obtain ⟨h1, h2⟩ := all2_iff h
    refine ⟨⟨vs.toList, by simp, h1.symm, fun i x y hx hy => (svOk_R (h2 i y x hy hx) w home hd rt).1⟩, ?_⟩
    simp only [A1.ids, List.flatMap_eq_nil_iff]
    intro x hx
    obtain ⟨i, hi⟩ := List.getElem?_of_mem hx
    have hlt : i < vs.toList.length := by rw [h1]; exact (List.getElem?_eq_some_iff.1 hi).1
    exact (svOk_R (h2 i _ x (List.getElem?_eq_getElem hlt) hi) w home hd rt).2
  · obtain ⟨h1, h2⟩ := svOk_R h w home hd rt
    exact ⟨h1, h2⟩
  · cases h

/-- Evaluations agree. -/
def EvR (w : World) (home : Home) (hd : Lb → Value) (rt : Rts) (ev : Ev) (ρ : Operand → Value) : Prop :=
  ∀ x q a, mOpd ids x q = true → ev q = some a → A1R ids w home hd rt a (ρ x) ∧ ∀ i ∈ a.ids, (rt i).isSome = true

/-- What is owned by nobody lies nowhere. -/
def F0 : Nat → Option Root := fun _ => none
/-- The machine's operation does what the abstract one says. -/
def OpOk (P : Program) (o : Oper) (a : Act) (w : World) (home : Home) (hd : Lb → Value) (rt : Rts) (av : AV) (rt' : Rts) : Prop :=
  ∀ (next : Act → World → Prop) (Q : Exit → Act → World → Prop),
    (∀ v w' home' hd', Step w home hd rt F0 w' home' hd' rt' F0 → AVR ids w' home' hd' rt' av v → next (a.put o.dst v) w') → o.wp P a w next Q
section
variable {ids} {P : Program} {o : Oper} {a : Act} {w : World} {home : Home} {hd : Lb → Value} {rt rt' : Rts} {av : AV}
theorem OpOk.value {w' : World} {v : Value} {home' : Home} {hd' : Lb → Value} (hr : (execOp a.eval o).run P w = .ok (.value v) w') (hs : Step w home hd rt F0 w' home' hd' rt' F0) (hv : AVR ids w' home' hd' rt' av v) :
    OpOk ids P o a w home hd rt av rt' := by
  intro next Q h
  unfold Oper.wp
  rw [hr]
  exact h v w' home' hd' hs hv
theorem OpOk.skip {w' : World} {home' : Home} {hd' : Lb → Value} (hr : (execOp a.eval o).run P w = .ok .skip w') (hs : Step w home hd rt F0 w' home' hd' rt' F0) :
    OpOk ids P o a w home hd rt .undef rt' := by
  intro next Q h
  unfold Oper.wp
  rw [hr]
  exact h undef w' home' hd' hs rfl
end

def mMv (o : Op) (x : Opd) : Bool :=
  match o with
  | .move y => mOpd ids y x
  | .assign y => mOpd ids y x
  | _ => false
def mPick (o : Op) (c x y : Opd) : Bool :=
  match o with
  | .pick c' x' y' => mOpd ids c' c && mOpd ids x' x && mOpd ids y' y
  | _ => false
section
variable {ids} {P : Program} {o : Oper} {a : Act} {w : World} {home : Home} {hd : Lb → Value} {rt rt' : Rts} {av : AV} {ev : Ev}
theorem ok_mv (old : RtR w home hd rt F0) (he : EvR ids w home hd rt ev a.eval) {x : Opd} (hm : mMv ids o.op x = true) {c : A1} (h : ev x = some c) : OpOk ids P o a w home hd rt (.v c) rt := by
  unfold mMv at hm
  split at hm
  · rename_i y hy
    exact .value (v := a.eval y) (w' := w) (by unfold execOp; rw [hy]; rfl) (Step.refl old) (he y x c hm h).1
  · rename_i y hy
    exact .value (v := a.eval y) (w' := w) (by unfold execOp; rw [hy]; rfl) (Step.refl old) (he y x c hm h).1
  · cases hm
theorem evV_spec {x : Opd} {v : Value} (h : evV ev x = some v) : ev x = some (.s (.c (.val v))) := by
  unfold evV at h
  split at h
  · rename_i u hu; injection h with h; subst h; exact hu
  · cases h
theorem evI_spec {x : Opd} {n : Int} (h : evI ev x = some n) : ∃ k, ev x = some (.s (.c (.val (.int k n)))) := by
  unfold evI at h
  split at h
  · rename_i k m hm; injection h with h; subst h; exact ⟨k, evV_spec hm⟩
  · cases h
theorem evS_spec {x : Opd} {s : SV} (h : evS ev x = some s) : ev x = some (.s s) := by
  unfold evS at h
  split at h
  · rename_i u hu; injection h with h; subst h; exact hu
  · cases h
theorem EvR.V (he : EvR ids w home hd rt ev a.eval) {y : Operand} {x : Opd} (hm : mOpd ids y x = true) {v : Value} (h : evV ev x = some v) : a.eval y = v ∧ v.oneCell' = true := by
  have h1 : CR w home .imm (.val v) (a.eval y) := (he y x _ hm (evV_spec h)).1
  generalize a.eval y = u at h1 ⊢
  cases h1 with
  | val h => exact ⟨rfl, h⟩
theorem EvR.I (he : EvR ids w home hd rt ev a.eval) {y : Operand} {x : Opd} (hm : mOpd ids y x = true) {n : Int} (h : evI ev x = some n) : ∃ k, a.eval y = .int k n := by
  unfold evI at h
  split at h
  · rename_i k m hm'; injection h with h; subst h; exact ⟨k, (he.V hm hm').1⟩
  · cases h
theorem EvR.S (he : EvR ids w home hd rt ev a.eval) {y : Operand} {x : Opd} (hm : mOpd ids y x = true) {s : SV} (h : evS ev x = some s) : SVR w home hd rt s (a.eval y) ∧ ∀ i ∈ s.ids, (rt i).isSome = true :=
  he y x _ hm (evS_spec h)
theorem ok_pick (old : RtR w home hd rt F0) (he : EvR ids w home hd rt ev a.eval) {c x y : Opd} (hm : mPick ids o.op c x y = true) {t : Bool} (hc : evV ev c = some (.bool t)) {r : A1} (h : (if t then ev x else ev y) = some r) : OpOk ids P o a w home hd rt (.v r) rt := by
  unfold mPick at hm
  split at hm
  · rename_i c' x' y' hy
    simp only [Bool.and_eq_true] at hm
    obtain ⟨⟨h1, h2⟩, h3⟩ := hm
    have hcv := (he.V h1 hc).1
    refine .value (v := if t then a.eval x' else a.eval y') (w' := w) (by unfold execOp; rw [hy]; simp [asBool, hcv]) (Step.refl old) ?_
    cases t with
    | true => exact (he x' x r h2 h).1
    | false => exact (he y' y r h3 h).1
  · cases hm
/-- A scalar's relation. -/
theorem avr_v {v : Value} (h : v.oneCell' = true) : AVR ids w home hd rt (.sv (.v v)) v := CR.val h
end

/-! ### Sums and comparisons -/
def mBin (o : Op) (op : BinOp) (x y : Opd) : Bool :=
  match o with
  | .binOp op' _ x' y' _ => decide (op' = op) && mOpd ids x' x && mOpd ids y' y
  | _ => false
def isBoolT : TypeDesc → Bool
  | .bool => true
  | _ => false
theorem isBoolT_eq {d : TypeDesc} (h : isBoolT d = true) : d = .bool := by cases d <;> first | rfl | cases h
def isIntT : TypeDesc → Bool
  | .int _ => true
  | _ => false
def under (P : Program) (t : TypeId) (f : TypeDesc → Bool) : Bool :=
  match P.underlying t with
  | some d => f d
  | none => false
theorem under_spec {P : Program} {t : TypeId} {f : TypeDesc → Bool} (h : under P t f = true) : ∃ d, P.underlying t = some d ∧ f d = true := by
  unfold under at h
  split at h
  · rename_i d hd; exact ⟨d, hd, h⟩
  · cases h
def mEqb (P : Program) (o : Op) (neg : Bool) (x y : Opd) : Bool :=
  match o with
  | .binOp op' t x' y' _ => decide (op' = if neg then .neq else .eql) && mOpd ids x' x && mOpd ids y' y && under P t isBoolT
  | _ => false
def mUn (o : Op) (op : UnOp) (x : Opd) : Bool :=
  match o with
  | .unOp op' _ x' => decide (op' = op) && mOpd ids x' x
  | _ => false
theorem run_binS {P : Program} {w : World} {op : BinOp} {t : TypeId} {x y r : Value} (h : binS op x y = some r) :
    (binOp op t x y).run P w = .ok r w ∧ r.oneCell' = true := by
  unfold binS at h
  split at h <;> (first | (split at h) | skip) <;> simp only [Option.some.injEq, reduceCtorEq] at h
  all_goals (try subst h)
  all_goals (try (rename_i hc; first | (subst hc; exact ⟨rfl, rfl⟩) | (obtain ⟨rfl, hc⟩ := hc) | skip))
  all_goals (try exact ⟨rfl, rfl⟩)
  all_goals refine ⟨?_, rfl⟩
  all_goals first
    | (simp [binOp, Op.shift, Op.intArith, Op.intDiv, Op.intBits, Op.intCmp, Op.stringOp, *]; done)
    | (rename_i a b; have hm : ¬ (((a.size + b.size : Nat) : Int) > IntKind.i64.max) := by
        have : IntKind.i64.max = 9223372036854775807 := by decide
        omega
       simp only [binOp, Op.stringOp, if_neg hm, Sem.run_pure]; done)
theorem run_eqGuard {P : Program} {w : World} {op : BinOp} {t : TypeId} {x y : Operand} {u v : Value} (h1 : u ≠ .nilIface) (h2 : ∀ cs, u ≠ .agg cs) : (eqGuard op t x y u v).run P w = .ok () w := by
  unfold eqGuard
  cases u <;> first | exact absurd rfl h1 | exact absurd rfl (h2 _) | (cases op <;> cases v <;> rfl)
theorem binS_plain {op : BinOp} {x y r : Value} (h : binS op x y = some r) : x ≠ .nilIface ∧ ∀ cs, x ≠ .agg cs := by
  unfold binS at h
  split at h <;> first | (cases h; done) | exact ⟨by simp, by simp⟩
section
variable {ids} {P : Program} {o : Oper} {a : Act} {w : World} {home : Home} {hd : Lb → Value} {rt rt' : Rts} {av : AV} {ev : Ev}
theorem ok_bin (old : RtR w home hd rt F0) (he : EvR ids w home hd rt ev a.eval) {op : BinOp} {x y : Opd} (hm : mBin ids o.op op x y = true) {p q r : Value} (hx : evV ev x = some p) (hy : evV ev y = some q) (h : binS op p q = some r) :
    OpOk ids P o a w home hd rt (.sv (.v r)) rt := by
  unfold mBin at hm
  split at hm
  · rename_i op' t x' y' t' ho
    simp only [Bool.and_eq_true, decide_eq_true_eq] at hm
    obtain ⟨⟨rfl, h1⟩, h2⟩ := hm
    obtain ⟨g1, g2⟩ := binS_plain h
    obtain ⟨r1, r2⟩ := run_binS (P := P) (w := w) (t := t) h
    refine .value (v := r) (w' := w) ?_ (Step.refl old) (avr_v r2)
    unfold execOp
    rw [ho]
    simp only [(he.V h1 hx).1, (he.V h2 hy).1, Sem.run_bind, run_eqGuard g1 g2, Result.andThen_ok, r1, Sem.run_pure]
  · cases hm
theorem ok_eqb (old : RtR w home hd rt F0) (he : EvR ids w home hd rt ev a.eval) {neg : Bool} {x y : Opd} (hm : mEqb ids P o.op neg x y = true) {p q : Bool} (hx : evV ev x = some (.bool p)) (hy : evV ev y = some (.bool q)) :
    OpOk ids P o a w home hd rt (.sv (.v (.bool (if neg then !(p == q) else p == q)))) rt := by
  unfold mEqb at hm
  split at hm
  · rename_i op' t x' y' t' ho
    simp only [Bool.and_eq_true, decide_eq_true_eq] at hm
    obtain ⟨⟨⟨rfl, h1⟩, h2⟩, h3⟩ := hm
    obtain ⟨d, hd1, hd2⟩ := under_spec h3
    obtain rfl := isBoolT_eq hd2
    refine .value (v := .bool (if neg then !(p == q) else p == q)) (w' := w) ?_ (Step.refl old) (avr_v rfl)
    unfold execOp
    rw [ho]
    have e := run_equal_bool (P := P) w t p q hd1
    simp only [(he.V h1 hx).1, (he.V h2 hy).1, Sem.run_bind, run_eqGuard (u := .bool p) (by simp) (by simp), Result.andThen_ok]
    cases neg <;> simp [binOp, e]
  · cases hm
theorem ok_un (old : RtR w home hd rt F0) (he : EvR ids w home hd rt ev a.eval) {op : UnOp} {x : Opd} (hm : mUn ids o.op op x = true) {p r : Value} (hx : evV ev x = some p) (h : unS op p = some r) :
    OpOk ids P o a w home hd rt (.sv (.v r)) rt := by
  unfold mUn at hm
  split at hm
  · rename_i op' t x' ho
    simp only [Bool.and_eq_true, decide_eq_true_eq] at hm
    obtain ⟨rfl, h1⟩ := hm
    have hr : (Op.unary op' p).run P w = .ok r w ∧ r.oneCell' = true := by
      unfold unS at h
      split at h
      · injection h with h; subst h; exact ⟨by simp [Op.unary, Op.intArith], rfl⟩
      · injection h with h; subst h; exact ⟨rfl, rfl⟩
      · cases h
    refine .value (v := r) (w' := w) ?_ (Step.refl old) (avr_v hr.2)
    unfold execOp
    rw [ho]
    simp only [(he.V h1 hx).1, Sem.run_bind, hr.1, Result.andThen_ok, Sem.run_pure]
  · cases hm
end
def isIntK (k : IntKind) : TypeDesc → Bool
  | .int k' => decide (k' = k)
  | _ => false
theorem isIntK_eq {k : IntKind} {d : TypeDesc} (h : isIntK k d = true) : d = .int k := by
  cases d <;> simp [isIntK] at h
  subst h; rfl
def mConv (P : Program) (o : Op) (k : IntKind) (x : Opd) : Bool :=
  match o with
  | .convert src dst x' => mOpd ids x' x && under P dst (isIntK k) && under P src isIntT
  | _ => false
def isStructAt (off f : Nat) (P : Program) : TypeDesc → Bool
  | .struct fs => match fs[f]? with
    | some g => decide (g.offset = off) && match P.info? g.type with
      | some i => decide (0 < i.size)
      | none => false
    | none => false
  | _ => false
def mFa (P : Program) (o : Op) (off : Nat) (x : Opd) : Bool :=
  match o with
  | .fieldAddr s x' f => mOpd ids x' x && under P s (isStructAt off f P)
  | _ => false
theorem run_sizeOf' {P : Program} {w : World} {t : TypeId} {i : TypeInfo} (h : P.info? t = some i) : (sizeOf t).run P w = .ok i.size w := by simp [sizeOf, run_typeInfo w h]
section
variable {ids} {P : Program} {o : Oper} {a : Act} {w : World} {home : Home} {hd : Lb → Value} {rt rt' : Rts} {av : AV} {ev : Ev}
theorem ok_conv (old : RtR w home hd rt F0) (he : EvR ids w home hd rt ev a.eval) {k : IntKind} {x : Opd} (hm : mConv ids P o.op k x = true) {n : Int} (hx : evI ev x = some n) :
    OpOk ids P o a w home hd rt (.sv (.v (.int k (k.wrap n)))) rt := by
  unfold mConv at hm
  split at hm
  · rename_i src dst x' ho
    simp only [Bool.and_eq_true] at hm
    obtain ⟨⟨h1, h2⟩, h3⟩ := hm
    obtain ⟨d, hd1, hd2⟩ := under_spec h2
    obtain rfl := isIntK_eq hd2
    obtain ⟨ds, hs1, hs2⟩ := under_spec h3
    obtain ⟨k', hv⟩ := he.I h1 hx
    refine .value (v := .int k (k.wrap n)) (w' := w) ?_ (Step.refl old) (avr_v rfl)
    unfold execOp
    rw [ho]
    cases ds <;> simp only [isIntT, Bool.false_eq_true] at hs2
    simp only [hv, convert, Sem.run_bind, run_underlying hs1, run_underlying hd1, Result.andThen_ok, Conv.intToInt, Sem.run_pure]
  · cases hm
/-- Pointers with an offset. -/
theorem SVR.addOff {x y : SV} {v : Value} {n : Nat} (h : SVR w home hd rt x v) (hy : x.addOff n = some y) : ∃ ad, v = .pointer (some ad) ∧ SVR w home hd rt y (.pointer (some (ad.add n))) ∧ y.ids = x.ids := by
  cases x with
  | pb id off =>
    simp only [SV.addOff, Option.some.injEq] at hy
    subst hy
    obtain ⟨⟨ad, rfl⟩, h2⟩ := h
    refine ⟨ad, rfl, ⟨⟨_, rfl⟩, fun xs hr => ?_⟩, rfl⟩
    obtain ⟨b, h3, h4⟩ := h2 xs hr
    injection h4 with h4; injection h4 with h4; subst h4
    exact ⟨b, h3, by rw [addr_add]⟩
  | pe id p i off =>
    simp only [SV.addOff, Option.some.injEq] at hy
    subst hy
    obtain ⟨⟨ad, rfl⟩, h2⟩ := h
    refine ⟨ad, rfl, ⟨⟨_, rfl⟩, fun d t c hr ht c' u hg hu sz m tot hs hi => ?_⟩, rfl⟩
    obtain ⟨b, o', k, cap, h3, h4⟩ := h2 d t c hr ht c' u hg hu sz m tot hs hi
    injection h4 with h4; injection h4 with h4; subst h4
    exact ⟨b, o', k, cap, h3, by rw [addr_add]; congr 3; omega⟩
  | pm cs off =>
    simp only [SV.addOff, Option.some.injEq] at hy
    subst hy
    obtain ⟨b, o', rfl, h2⟩ := h
    exact ⟨_, rfl, ⟨b, o', by rw [addr_add, Nat.add_assoc], h2⟩, rfl⟩
  | c c => cases hy
  | nil k => cases hy
  | ref id p off len => cases hy
theorem ok_fa (old : RtR w home hd rt F0) (he : EvR ids w home hd rt ev a.eval) {off : Nat} {x : Opd} (hm : mFa ids P o.op off x = true) {p q : SV} (hx : evS ev x = some p) (h : p.addOff off = some q) :
    OpOk ids P o a w home hd rt (.sv q) rt := by
  unfold mFa at hm
  split at hm
  · rename_i s x' f ho
    simp only [Bool.and_eq_true] at hm
    obtain ⟨h1, h2⟩ := hm
    obtain ⟨d, hd1, hd2⟩ := under_spec h2
    unfold isStructAt at hd2
    split at hd2
    · rename_i fs
      split at hd2
      · rename_i g hg
        simp only [Bool.and_eq_true, decide_eq_true_eq] at hd2
        obtain ⟨rfl, h3⟩ := hd2
        split at h3
        · rename_i i hi
          obtain ⟨ad, hv, hq, _⟩ := (he.S h1 hx).1.addOff h
          have h0 : ¬ i.size = 0 := by simp at h3; omega
          refine .value (v := .pointer (some (ad.add g.offset))) (w' := w) ?_ (Step.refl old) hq
          unfold execOp
          rw [ho]
          simp [hv, Instr.fieldAt, run_underlying hd1, hg, Instr.sureAddr, fieldPlace, run_sizeOf' hi, h0]
        · cases h3
      · cases hd2
    · cases hd2
  · cases hm
end

def elemIs (P : Program) (sz : Nat) (e : TypeId) : Bool :=
  match P.info? e with
  | some i => decide (i.size = sz)
  | none => false
theorem elemIs_spec {P : Program} {sz : Nat} {e : TypeId} (h : elemIs P sz e = true) : ∃ i, P.info? e = some i ∧ i.size = sz := by
  unfold elemIs at h
  split at h
  · rename_i i hi; exact ⟨i, hi, by simpa using h⟩
  · cases h
def isSliceT (P : Program) (sz : Nat) : TypeDesc → Bool
  | .slice e => elemIs P sz e
  | _ => false
def isArrT (P : Program) (len sz : Nat) : TypeDesc → Bool
  | .array n e => decide (n = len) && elemIs P sz e
  | _ => false
def mIa (P : Program) (o : Op) (sz : Nat) (x i : Opd) : Bool :=
  match o with
  | .indexAddr t x' i' => mOpd ids x' x && mOpd ids i' i && under P t (isSliceT P sz)
  | _ => false
def mIap (P : Program) (o : Op) (len sz : Nat) (x i : Opd) : Bool :=
  match o with
  | .indexAddr t x' i' => mOpd ids x' x && mOpd ids i' i && under P t (isArrT P len sz)
  | _ => false
theorem isSliceT_spec {P : Program} {sz : Nat} {d : TypeDesc} (h : isSliceT P sz d = true) : ∃ e i, d = .slice e ∧ P.info? e = some i ∧ i.size = sz := by
  cases d <;> simp only [isSliceT, Bool.false_eq_true] at h
  obtain ⟨i, h1, h2⟩ := elemIs_spec h
  exact ⟨_, i, rfl, h1, h2⟩
theorem isArrT_spec {P : Program} {len sz : Nat} {d : TypeDesc} (h : isArrT P len sz d = true) : ∃ e i, d = .array len e ∧ P.info? e = some i ∧ i.size = sz := by
  cases d <;> simp only [isArrT, Bool.false_eq_true, Bool.and_eq_true, decide_eq_true_eq] at h
  obtain ⟨rfl, h⟩ := h
  obtain ⟨i, h1, h2⟩ := elemIs_spec h
  exact ⟨_, i, rfl, h1, h2⟩
def isStrT : TypeDesc → Bool
  | .string => true
  | _ => false
theorem isStrT_eq {d : TypeDesc} (h : isStrT d = true) : d = .string := by cases d <;> first | rfl | cases h
def mIxs (P : Program) (o : Op) (x i : Opd) : Bool :=
  match o with
  | .index t x' i' => mOpd ids x' x && mOpd ids i' i && under P t isStrT
  | _ => false
/-- A row's header, and where its elements lie, as a slot's value says. -/
theorem rowAt_spec {rt : Rts} {id : Nat} {p : Path} {d : Bool} {c' : C} (h : rowAt rt id p = some (d, c')) : ∃ t c, rt id = some (.arr d t c) ∧ (p = [] ∨ t = false) ∧ c.get p = some c' := by
  unfold rowAt at h
  split at h
  · rename_i d0 t c hr
    split at h
    · rename_i hc
      rw [Option.map_eq_some_iff] at h
      obtain ⟨c1, h1, h2⟩ := h
      injection h2 with h2 h3
      subst h2 h3
      refine ⟨t, c, hr, ?_, h1⟩
      simp only [Bool.or_eq_true, List.isEmpty_iff, Bool.not_eq_true'] at hc
      exact hc
    · cases h
  · cases h
section
variable {ids} {P : Program} {o : Oper} {a : Act} {w : World} {home : Home} {hd : Lb → Value} {rt rt' : Rts} {av : AV} {ev : Ev} {F : Nat → Option Root}
/-- What a reference leads to: the row's value u, the slot's value v is a part of it, and how the row is held. -/
theorem ref_open (old : RtR w home hd rt F) {id : Nat} {p : Path} {off n : Nat} {v : Value} (h : SVR w home hd rt (.ref id p off n) v) {d : Bool} {c' : C} (hr : rowAt rt id p = some (d, c')) {sz m tot : Nat} (hs : c'.shape = some (sz, m, tot)) :
    ∃ t c u, rt id = some (.arr d t c) ∧ (p = [] ∨ t = false) ∧ c.get p = some c' ∧ hdAt w c (hd (.r id)) p = some u ∧ CR w home ((arrTg d (.r id)).exts p) c' u ∧ Part u v sz off n := by
  obtain ⟨t, c, h1, h2, h3⟩ := rowAt_spec hr
  obtain ⟨u, h4, h5⟩ := CR.at p (old.root (.r id) _ h1) h3
  exact ⟨t, c, u, h1, h2, h3, h4, h5, h.2 d t c h1 h2 c' u h3 h4 sz m tot hs⟩
theorem exts_head {d : Bool} {l : Lb} {p : Path} {c : C} {u : Value} {sz m tot : Nat} (h : CR w home ((arrTg d l).exts p) c u) (hs : c.shape = some (sz, m, tot)) :
    ∃ vs, Hdr w home ((arrTg d l).exts p) u m tot sz vs ∧ ∀ i e, c.elemA i = some e → i < tot ∧ e.length = sz ∧ ∀ j d', e[j]? = some d' → CR w home (((arrTg d l).exts p).ext i j) d' (vs i j) := h.open hs
theorem C.elem_some {c : C} {sz n tot : Nat} (hs : c.shape = some (sz, n, tot)) {i : Nat} (hi : i < n) : ∃ e, c.elem i = some e := by
  cases c with
  | val v => cases hs
  | hole => cases hs
  | fl sz' es sp =>
    simp only [C.shape, Option.some.injEq, Prod.mk.injEq] at hs
    obtain ⟨_, rfl, _⟩ := hs
    exact ⟨_, by simp only [C.elem, List.getElem?_eq_getElem hi]; rfl⟩
  | sl sz' es sp =>
    simp only [C.shape, Option.some.injEq, Prod.mk.injEq] at hs
    obtain ⟨_, rfl, _⟩ := hs
    exact ⟨_, by simp only [C.elem]; exact List.getElem?_eq_getElem hi⟩
theorem run_asIntOf {k : IntKind} {n : Int} : (asIntOf (.int k n)).run P w = .ok (k, n) w := rfl
theorem Part.at {u v : Value} {sz off n i : Nat} (h : Part u v sz off n) (hi : i < n) {b o len cap : Nat} (hu : u = .slice (some ⟨b, o, none⟩) len cap) : ∃ cap', v = .slice (some ⟨b, o + off * sz, none⟩) n cap' := by
  obtain ⟨a, m, cap0, a', e1, e2, e3, e4⟩ := h
  subst hu
  injection e1 with e5 e6 e7
  subst e5 e7
  refine ⟨cap - off, ?_⟩
  rw [e3, e4 (by omega), Option.map_some, addr_add]
theorem run_indexAt {t e : TypeId} {i : TypeInfo} (ht : P.underlying t = some (.slice e)) (hi : P.info? e = some i) {b o n cap : Nat} {k : IntKind} {x : Int} (h0 : 0 ≤ x) (h1 : x < n) :
    (Instr.indexAt t (.slice (some ⟨b, o, none⟩) n cap) (.int k x)).run P w = .ok (.pointer (some ⟨b, o + x.toNat * i.size, none⟩)) w := by
  simp [Instr.indexAt, run_asIntOf, run_underlying ht, h0, h1, run_sizeOf' hi, addr_add]
theorem ok_ia (old : RtR w home hd rt F0) (he : EvR ids w home hd rt ev a.eval) {sz : Nat} {x i : Opd} (hm : mIa ids P o.op sz x i = true) {p q : SV} {n : Int} (hx : evS ev x = some p) (hi : evI ev i = some n) (h : index rt sz p n = some q) :
    OpOk ids P o a w home hd rt (.sv q) rt := by
  unfold mIa at hm
  split at hm
  · rename_i t x' i' ho
    simp only [Bool.and_eq_true] at hm
    obtain ⟨⟨h1, h2⟩, h3⟩ := hm
    obtain ⟨d, hd1, hd2⟩ := under_spec h3
    obtain ⟨e, ti, rfl, hti, hsz⟩ := isSliceT_spec hd2
    obtain ⟨k, hiv⟩ := he.I h2 hi
    have hp := (he.S h1 hx).1
    have hrun : ∀ {v : Value}, (Instr.indexAt t (a.eval x') (.int k n)).run P w = .ok v w → (execOp a.eval o).run P w = .ok (.value v) w := by
      intro v hv
      unfold execOp
      rw [ho]
      simp only [hiv, Sem.run_bind, hv, Result.andThen_ok, Sem.run_pure]
    unfold index at h
    split at h
    · rename_i c
      split at h
      · rename_i sz' m tot hs
        split at h
        · rename_i hc
          obtain ⟨rfl, hn0, hn1⟩ := hc
          rw [Option.map_eq_some_iff] at h
          obtain ⟨el, hel, rfl⟩ := h
          obtain ⟨vs, hh, hel2⟩ := CR.open hp hs
          obtain ⟨hlt, hlen, hcr⟩ := hel2 n.toNat el (C.elem_elemA hel)
          have hpos := hh.1
          obtain ⟨b, o', cap, hu, hb, _, hv0⟩ := hh.cell (i := n.toNat) (j := 0) hlt hpos
          have hnm : n < m := by
            have := C.elem_lt hel hs; omega
          refine .value (v := .pointer (some ⟨b, o' + n.toNat * ti.size, none⟩)) (w' := w) (hrun ?_) (Step.refl old) ?_
          · rw [hu]; exact run_indexAt hd1 hti hn0 hnm
          · refine ⟨b, o' + n.toNat * ti.size, by simp, fun j c' hj => ?_⟩
            have hj' : j < sz' := by rw [← hlen]; exact (List.getElem?_eq_some_iff.1 hj).1
            obtain ⟨b2, o2, cap2, hu2, hb2, _, hv2⟩ := hh.cell (i := n.toNat) (j := j) hlt hj'
            rw [hu] at hu2
            injection hu2 with e1 e2 e3
            injection e1 with e1
            injection e1 with e1 e4
            subst e1 e4
            refine ⟨hb, vs n.toNat j, ?_, hcr j c' hj⟩
            rw [← hv2, hsz]; congr 2; omega
        · cases h
      · cases h
    · rename_i id pa off len
      split at h
      · rename_i dd c' hr
        split at h
        · rename_i sz' m tot hs
          split at h
          · rename_i hc
            obtain ⟨rfl, hn0, hn1, hn2⟩ := hc
            injection h with h
            subst h
            obtain ⟨tt, c, u, g1, g2, g3, g4, g5, g6⟩ := ref_open old hp hr hs
            obtain ⟨vs, hh, hel2⟩ := g5.open hs
            have hpos := hh.1
            obtain ⟨b, o', cap, hu, hb, ho0, hv0⟩ := hh.cell (i := off + n.toNat) (j := 0) (by have := hh.2.1; omega) hpos
            obtain ⟨cap', hv⟩ := g6.at (i := n.toNat) (by omega) hu
            refine .value (v := .pointer (some ⟨b, o' + off * sz' + n.toNat * ti.size, none⟩)) (w' := w) (hrun ?_) (Step.refl old) ?_
            · rw [hv]; exact run_indexAt hd1 hti hn0 hn1
            · refine ⟨⟨_, rfl⟩, fun d1 t1 c1 k1 k2 c2 u2 k3 k4 sz2 m2 tot2 k5 k6 => ?_⟩
              rw [g1] at k1
              injection k1 with k1
              injection k1 with e1 e2 e3
              subst e1 e2 e3
              rw [g3] at k3; injection k3 with k3; subst k3
              rw [g4] at k4; injection k4 with k4; subst k4
              rw [hs] at k5; injection k5 with k5; injection k5 with e1 e2; injection e2 with e2 e3; subst e1 e2 e3
              exact ⟨b, o', m, cap, hu, by rw [hsz]; congr 3; rw [Nat.add_mul]; omega⟩
          · cases h
        · cases h
      · cases h
    · cases h
  · cases hm
end
end Go.Proofs.YtecmolmlojehgaaGreat.T
