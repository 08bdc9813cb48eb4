/- What a statement reads of memory, as trees. The catalogue that a statement reads of memory, as a tree. From the executor to calls and statements. -/
import Derived.Test.YtecmolmlojehgaaGreatMC
import Derived.Test.YtecmolmlojehgaaGreatMK
import Derived.ChangeArms
import Derived.SizedLaws
import Derived.Test.YtecmolmlojehgaaGreatMM
import Derived.Test.YtecmolmlojehgaaGreatMN
import Derived.WalkKit
import Derived.ProofKit
import Derived.OpenShut
import Derived.ShutString
import Derived.ChangeOld
import Derived.Below
namespace Go.Proofs.YtecmolmlojehgaaGreat.T
open Go
theorem pickL {α : Type} {Q : Nat → α → Prop} : ∀ {n : Nat}, (∀ i, i < n → ∃ x, Q i x) → ∃ xs : List α, xs.length = n ∧ ∀ i x, xs[i]? = some x → Q i x
  | 0, _ => ⟨[], rfl, fun i x h => by simp at h⟩
  | n + 1, h => by
    obtain ⟨xs, h1, h2⟩ := pickL (n := n) (Q := Q) (fun i hi => h i (by omega))
    obtain ⟨x, hx⟩ := h n (by omega)
    refine ⟨xs ++ [x], by simp [h1], fun i y hy => ?_⟩
    by_cases hi : i < n
    · rw [List.getElem?_append_left (by omega)] at hy
      exact h2 i y hy
    · rw [List.getElem?_append_right (by omega)] at hy
      have e : i = n := by
        have := (List.getElem?_eq_some_iff.1 hy).1
        simp at this
        omega
      subst e
      rw [h1, Nat.sub_self, List.getElem?_cons_zero, Option.some.injEq] at hy
      subst hy
      exact hx
def home0 : Home := fun _ => none
section
variable {H : Type} {enc : TypeId × Value → H} {P : Program} {w : World}
/-- A slice, read: its header and its elements' cells. -/
def RowR {α : Type} (w : World) (sz : Nat) (Q : List Value → α → Prop) (r : Row α) (u : Value) : Prop :=
  ∃ a cap, u = .slice a r.es.length cap ∧ r.es.length + r.sp.length ≤ cap ∧ cap ≤ maxLen ∧ ∀ i, i < r.es.length + r.sp.length → ∃ b o ci x, a = some ⟨b, o, none⟩ ∧ (r.es ++ r.sp)[i]? = some x ∧ Q ci x ∧ ci.length = sz ∧ ∀ j, j < sz → w.cell? ⟨b, o + (i * sz + j), none⟩ = ci[j]?
theorem read_row {t e : TypeId} {sz : Nat} (ht : P.underlying t = some (.slice e)) (hc : P.cellsOf e = sz) (hsz : 0 < sz) {α : Type} {Q : List Value → α → Prop} (hel : ∀ n cs y, DataW.trod enc P w 0 (fun _ => true) true n e cs = some y → ∃ x, Q cs x)
    {fuel : Nat} {cs : List Value} {x : DataW H × List MemPlace} (h : DataW.trod enc P w 0 (fun _ => true) true fuel t cs = some x) :
    ∃ (r : Row α) (u : Value), cs = [u] ∧ RowR w sz Q r u ∧ ((x.1 = .nil ∧ r.es = []) ∨ ∃ A B, x.1 = .slice A B ∧ A.length = r.es.length) := by
  rcases DataW.trod_slice ht h with ⟨rfl, rfl⟩ | ⟨a, len, cap, elems, rest, n, _, rfl, rfl, hb, hl, hm, hlen, hel1, hsp, _⟩
  · exact ⟨⟨[], [], by simp⟩, _, rfl, ⟨none, 0, rfl, Nat.le_refl _, Nat.zero_le _, fun i hi => by simp at hi⟩, Or.inl ⟨rfl, rfl⟩⟩
  · obtain ⟨hrl, hr⟩ := hsp rfl
    have each : ∀ i, i < cap → ∃ x, ∃ ci, Q ci x ∧ w.cells? 0 (a.add (i * P.cellsOf e)) (P.cellsOf e) = some ci := by
      intro i hi
      have hb' : ∃ y, (w.cells? 0 (a.add (i * P.cellsOf e)) (P.cellsOf e)).bind (DataW.trod enc P w 0 (fun _ => true) true n e) = some y := by
        by_cases hlt : i < len
        · rw [hel1 i hlt]
          exact ⟨_, List.getElem?_eq_getElem (by omega)⟩
        · have := hr (i - len) (by omega)
          rw [show len + (i - len) = i by omega] at this
          rw [this]
          exact ⟨_, List.getElem?_eq_getElem (by omega)⟩
      obtain ⟨y, hy⟩ := hb'
      rw [Option.bind_eq_some_iff] at hy
      obtain ⟨ci, h1, h2⟩ := hy
      obtain ⟨x, hx⟩ := hel n ci y h2
      exact ⟨x, ci, hx, h1⟩
    obtain ⟨xs, hx1, hx2⟩ := pickL each
    have spot : 0 < cap → a.spot = none := by
      intro h0
      obtain ⟨x, ci, _, h2⟩ := each 0 h0
      obtain ⟨_, g1, g2⟩ := World.cells?_some h2
      rw [hc] at g1 g2
      have := g2 0 hsz
      rw [List.getElem?_eq_getElem (by omega)] at this
      have e : (a.add (0 * sz)).add 0 = a := by simp [Addr.add]
      rw [e] at this
      unfold World.cell? at this
      split at this
      · split at this
        · cases this
        · rename_i hn
          cases h : a.spot with
          | none => rfl
          | some _ => rw [h] at hn; simp at hn
      · cases this
    have hM : maxLen = 9223372036854775807 := rfl
    refine ⟨⟨xs.take len, xs.drop len, by simp; omega⟩, _, rfl, ⟨some a, cap, ?_, ?_, hm, ?_⟩, Or.inr ⟨_, _, rfl, ?_⟩⟩
    · simp only [List.length_take]; congr 1; omega
    · simp; omega
    · intro i hi
      have hi' : i < xs.length := by simp at hi; omega
      obtain ⟨ci, h1, h2⟩ := hx2 i xs[i] (List.getElem?_eq_getElem hi')
      obtain ⟨_, g1, g2⟩ := World.cells?_some h2
      rw [hc] at g1 g2
      have hs := spot (by omega)
      obtain ⟨b, o, s⟩ := a
      have hs : s = none := hs
      subst hs
      refine ⟨b, o, ci, xs[i], rfl, ?_, h1, g1, fun j hj => ?_⟩
      · rw [List.take_append_drop]; exact List.getElem?_eq_getElem hi'
      · rw [← g2 j hj]
        have eb : ∀ (x y k : Nat), (⟨x, y, none⟩ : Addr).add k = ⟨x, y + k, none⟩ := by
          intro x y k
          unfold Addr.add
          split
          · rename_i h0; rw [h0]; rfl
          · rfl
        rw [eb, eb, Nat.add_assoc]
    · simp [hlen]; omega
theorem row_fl {α : Type} {sz : Nat} {Q : List Value → α → Prop} {r : Row α} {u : Value} (h : RowR w sz Q r u) (hsz : 0 < sz) (f : α → List Value) (hf : ∀ cs x, Q cs x → cs = f x ∧ ∀ v ∈ f x, v.oneCell' = true) : CR w home0 .imm (.fl sz (r.es.map f) (r.sp.map f)) u := by
  obtain ⟨a, cap, hu, h1, h2, h3⟩ := h
  refine .fl ?_ ⟨hsz, by simp, a, cap, by simp [hu], by simpa using h1, h2, ?_⟩
  · intro e he
    rw [← List.map_append, List.mem_map] at he
    obtain ⟨x, hx, rfl⟩ := he
    obtain ⟨i, hi⟩ := List.getElem?_of_mem hx
    obtain ⟨b, o, ci, y, _, g1, g2, g3, _⟩ := h3 i (by have := (List.getElem?_eq_some_iff.1 hi).1; simpa using this)
    rw [hi, Option.some.injEq] at g1
    subst g1
    obtain ⟨e1, e2⟩ := hf ci x g2
    exact ⟨by rw [← e1]; exact g3, e2⟩
  · show ∀ i j, _ → _ → _
    intro i j hi hj
    obtain ⟨b, o, ci, y, g0, g1, g2, g3, g4⟩ := h3 i (by simpa using hi)
    refine ⟨b, o, g0, rfl, ?_⟩
    rw [g4 j hj]
    obtain ⟨e1, _⟩ := hf ci y g2
    subst e1
    have e3 : (r.es.map f ++ r.sp.map f)[i]? = some (f y) := by rw [← List.map_append, List.getElem?_map, g1]; rfl
    simp [List.getD, e3, List.getElem?_eq_getElem (show j < (f y).length by omega)]
theorem row_sl {α : Type} {sz : Nat} {Q : List Value → α → Prop} {r : Row α} {u : Value} (h : RowR w sz Q r u) (hsz : 0 < sz) (f : α → List C) (hf : ∀ cs x, Q cs x → (f x).length = sz ∧ ∀ (j : Nat) c, (f x)[j]? = some c → ∃ v, cs[j]? = some v ∧ CR w home0 .imm c v) : CR w home0 .imm (.sl sz (r.es.map f) (r.sp.map f)) u := by
  obtain ⟨a, cap, hu, h1, h2, h3⟩ := h
  have key : ∀ i, i < r.es.length + r.sp.length → ∃ (b o : Nat) (ci : List Value), a = some ⟨b, o, none⟩ ∧ ci.length = sz ∧ (∀ j, j < sz → w.cell? ⟨b, o + (i * sz + j), none⟩ = ci[j]?) ∧ ∃ e, (r.es.map f ++ r.sp.map f)[i]? = some e ∧ e.length = sz ∧ ∀ (j : Nat) c, e[j]? = some c → ∃ v, ci[j]? = some v ∧ CR w home0 .imm c v := by
    intro i hi
    obtain ⟨b, o, ci, y, g0, g1, g2, g3, g4⟩ := h3 i hi
    obtain ⟨e1, e2⟩ := hf ci y g2
    exact ⟨b, o, ci, g0, g3, g4, f y, by rw [← List.map_append, List.getElem?_map, g1]; rfl, e1, e2⟩
  refine .sl (fun i j => (w.cell? ⟨(a.getD default).block, (a.getD default).off + (i * sz + j), none⟩).getD undef) ?_ ⟨hsz, by simp, a, cap, by simp [hu], by simpa using h1, h2, ?_⟩ ?_
  · intro e he
    obtain ⟨i, hi⟩ := List.getElem?_of_mem he
    obtain ⟨_, _, _, _, _, _, e', h5, h6, _⟩ := key i (by have := (List.getElem?_eq_some_iff.1 hi).1; simpa using this)
    rw [hi, Option.some.injEq] at h5
    subst h5
    exact h6
  · show ∀ i j, _ → _ → _
    intro i j hi hj
    obtain ⟨b, o, ci, g0, g3, g4, _⟩ := key i (by simpa using hi)
    refine ⟨b, o, g0, rfl, ?_⟩
    subst g0
    simp only [Option.getD_some]
    rw [g4 j hj, List.getElem?_eq_getElem (by omega)]
    rfl
  · intro i j e c he hc
    obtain ⟨b, o, ci, g0, g3, g4, e', h5, h6, h7⟩ := key i (by have := (List.getElem?_eq_some_iff.1 he).1; simpa using this)
    rw [he, Option.some.injEq] at h5
    subst h5
    obtain ⟨v, k1, k2⟩ := h7 j c hc
    have hj : j < sz := by rw [← h6]; exact (List.getElem?_eq_some_iff.1 hc).1
    subst g0
    simp only [Option.getD_some]
    rw [g4 j hj, k1]
    exact k2
end
end Go.Proofs.YtecmolmlojehgaaGreat.T
namespace Go.Proofs.YtecmolmlojehgaaGreat.T
open Go
section
variable {H : Type} {enc : TypeId × Value → H} {P : Program} {w : World} {n : Nat} {cs : List Value} {y : DataW H × List MemPlace} {t e : TypeId}
/-- These cells hold these trees. -/
def CellsR (w : World) (cs : List Value) (xs : List C) : Prop := cs.length = xs.length ∧ ∀ (j : Nat) c, xs[j]? = some c → ∃ v, cs[j]? = some v ∧ CR w home0 .imm c v
abbrev trodE (enc : TypeId × Value → H) (P : Program) (w : World) : Nat → TypeId → List Value → Option (DataW H × List MemPlace) := DataW.trod enc P w 0 (fun _ => true) true
theorem cells_nil : CellsR w [] [] := ⟨rfl, fun j c h => by simp at h⟩
theorem cells_cons {v : Value} {c : C} {xs : List C} (h : CR w home0 .imm c v) (hs : CellsR w cs xs) : CellsR w (v :: cs) (c :: xs) := by
  refine ⟨by simp [hs.1], fun j d hd => ?_⟩
  cases j with
  | zero => simp at hd; subst hd; exact ⟨v, rfl, h⟩
  | succ j => simpa using hs.2 j d (by simpa using hd)
def fieldsOf (fs : Array Field) : List (TypeId × Nat) := fs.toList.map (fun f => (f.type, f.offset))
theorem read_field {fs : Array Field} (ht : P.underlying t = some (.struct fs)) (h : trodE enc P w n t cs = some y) : cs.length = P.cellsOf t ∧ ∀ (i : Nat) ty off, (fieldsOf fs)[i]? = some (ty, off) → ∃ k z, trodE enc P w k ty ((cs.drop off).take (P.cellsOf ty)) = some z := by
  obtain ⟨xs, k, _, _, h1, h2, h3⟩ := DataW.trod_struct ht h
  refine ⟨h1, fun i ty off hi => ?_⟩
  simp only [fieldsOf, List.getElem?_map, Option.map_eq_some_iff, Array.getElem?_toList] at hi
  obtain ⟨f, hf, e⟩ := hi
  simp only [Prod.mk.injEq] at e
  obtain ⟨rfl, rfl⟩ := e
  have hlt : i < xs.length := by rw [h2]; exact (Array.getElem?_eq_some_iff.1 hf).1
  exact ⟨k, xs[i], by rw [← List.getElem?_eq_getElem hlt]; exact h3 i f hf⟩
theorem read_int (ht : P.underlying t = some (.int .i64)) (h : trodE enc P w n t cs = some y) : ∃ k : Int, cs = [int k] := by
  obtain ⟨k, h1, _⟩ := DataW.trod_int ht h
  exact ⟨k, h1⟩
theorem read_ints (ht : P.underlying t = some (.slice e)) (he : P.underlying e = some (.int .i64)) (hc : P.cellsOf e = 1) (h : trodE enc P w n t cs = some y) : ∃ (a : Ints) (u : Value), cs = [u] ∧ CR w home0 .imm (cI a) u := by
  obtain ⟨a, u, h1, h2, _⟩ := read_row (Q := fun cs k => cs = eI k) ht hc (by decide) (fun n cs y h => read_int he h) h
  exact ⟨a, u, h1, row_fl h2 (by decide) eI (fun cs x hq => ⟨hq, fun v hv => by simp at hv; subst hv; rfl⟩)⟩
theorem list4 {α : Type} {l : List α} (h : l.length = 4) : ∃ a b c d, l = [a, b, c, d] := by
  match l, h with
  | [a, b, c, d], _ => exact ⟨a, b, c, d, rfl⟩
theorem list3 {α : Type} {l : List α} (h : l.length = 3) : ∃ a b c, l = [a, b, c] := by
  match l, h with
  | [a, b, c], _ => exact ⟨a, b, c, rfl⟩
theorem list8 {α : Type} {l : List α} (h : l.length = 8) : ∃ a b c d e f g k, l = [a, b, c, d, e, f, g, k] := by
  match l, h with
  | [a, b, c, d, e, f, g, k], _ => exact ⟨a, b, c, d, e, f, g, k, rfl⟩
theorem read_term {fs : Array Field} {i : TypeId} (ht : P.underlying t = some (.struct fs)) (hs : P.cellsOf t = 4) (hf : fieldsOf fs = [(i, 0), (i, 1), (i, 2), (i, 3)]) (hi : P.underlying i = some (.int .i64)) (hc : P.cellsOf i = 1) (h : trodE enc P w n t cs = some y) : ∃ x : TermV, cs = eT x := by
  obtain ⟨h1, h2⟩ := read_field ht h
  rw [hs] at h1
  rw [hf] at h2
  obtain ⟨a, b, c, d, rfl⟩ := list4 h1
  obtain ⟨_, _, g0⟩ := h2 0 i 0 rfl
  obtain ⟨_, _, g1⟩ := h2 1 i 1 rfl
  obtain ⟨_, _, g2⟩ := h2 2 i 2 rfl
  obtain ⟨_, _, g3⟩ := h2 3 i 3 rfl
  rw [hc] at g0 g1 g2 g3
  obtain ⟨k0, e0⟩ := read_int hi g0
  obtain ⟨k1, e1⟩ := read_int hi g1
  obtain ⟨k2, e2⟩ := read_int hi g2
  obtain ⟨k3, e3⟩ := read_int hi g3
  simp at e0 e1 e2 e3
  subst e0 e1 e2 e3
  exact ⟨⟨k0, k1, k2, k3⟩, rfl⟩
theorem read_poly {fs : Array Field} {i : TypeId} (ht : P.underlying t = some (.slice e)) (he : P.underlying e = some (.struct fs)) (hs : P.cellsOf e = 4) (hf : fieldsOf fs = [(i, 0), (i, 1), (i, 2), (i, 3)]) (hi : P.underlying i = some (.int .i64)) (hc : P.cellsOf i = 1)
    (h : trodE enc P w n t cs = some y) : ∃ (a : Poly) (u : Value), cs = [u] ∧ CR w home0 .imm (cP a) u := by
  obtain ⟨a, u, h1, h2, _⟩ := read_row (Q := fun cs x => cs = eT x) ht hs (by decide) (fun n cs y h => read_term he hs hf hi hc h) h
  exact ⟨a, u, h1, row_fl h2 (by decide) eT (fun cs x hq => ⟨hq, fun v hv => by simp at hv; rcases hv with rfl | rfl | rfl | rfl <;> rfl⟩)⟩
theorem read_sys {fs : Array Field} {i p : TypeId} (ht : P.underlying t = some (.slice p)) (hcp : P.cellsOf p = 1) (hp : P.underlying p = some (.slice e)) (he : P.underlying e = some (.struct fs)) (hs : P.cellsOf e = 4) (hf : fieldsOf fs = [(i, 0), (i, 1), (i, 2), (i, 3)]) (hi : P.underlying i = some (.int .i64)) (hc : P.cellsOf i = 1)
    (h : trodE enc P w n t cs = some y) : ∃ (a : Sys) (u : Value), cs = [u] ∧ CR w home0 .imm (cS a) u := by
  obtain ⟨a, u, h1, h2, _⟩ := read_row (Q := fun cs (x : Poly) => CellsR w cs (eP x)) ht hcp (by decide) (fun n cs y h => by
    obtain ⟨a, u, rfl, h2⟩ := read_poly hp he hs hf hi hc h
    exact ⟨a, cells_cons h2 cells_nil⟩) h
  exact ⟨a, u, h1, row_sl h2 (by decide) eP (fun cs x hq => ⟨rfl, hq.2⟩)⟩
theorem read_box {fs : Array Field} {i s : TypeId} (ht : P.underlying t = some (.struct fs)) (hct : P.cellsOf t = 3) (hf : fieldsOf fs = [(i, 0), (s, 1), (s, 2)]) (hi : P.underlying i = some (.int .i64)) (hc : P.cellsOf i = 1) (hs : P.underlying s = some (.slice i)) (hcs : P.cellsOf s = 1)
    (h : trodE enc P w n t cs = some y) : ∃ (b : BoxV), CellsR w cs (eB b) := by
  obtain ⟨h1, h2⟩ := read_field ht h
  rw [hct] at h1
  rw [hf] at h2
  obtain ⟨a, b, c, rfl⟩ := list3 h1
  obtain ⟨_, _, g0⟩ := h2 0 i 0 rfl
  obtain ⟨_, _, g1⟩ := h2 1 s 1 rfl
  obtain ⟨_, _, g2⟩ := h2 2 s 2 rfl
  rw [hc] at g0
  rw [hcs] at g1 g2
  obtain ⟨k0, e0⟩ := read_int hi g0
  obtain ⟨k1, u1, e1, r1⟩ := read_ints hs hi hc g1
  obtain ⟨k2, u2, e2, r2⟩ := read_ints hs hi hc g2
  simp at e0 e1 e2
  subst e0 e1 e2
  exact ⟨⟨k0, k1, k2⟩, cells_cons (CR.val rfl) (cells_cons r1 (cells_cons r2 cells_nil))⟩
/-- What is known of the types. -/
structure EntT (P : Program) (t : TypeId) : Prop where
  all : ∃ (fs fb ft : Array Field) (i str s sys p tm bx : TypeId), P.underlying t = some (.struct fs) ∧ P.cellsOf t = 8 ∧ fieldsOf fs = [(str, 0), (sys, 1), (bx, 2), (i, 5), (i, 6), (i, 7)] ∧
    P.underlying str = some .string ∧ P.cellsOf str = 1 ∧ P.underlying i = some (.int .i64) ∧ P.cellsOf i = 1 ∧ P.underlying s = some (.slice i) ∧ P.cellsOf s = 1 ∧
    P.underlying bx = some (.struct fb) ∧ P.cellsOf bx = 3 ∧ fieldsOf fb = [(i, 0), (s, 1), (s, 2)] ∧
    P.underlying sys = some (.slice p) ∧ P.cellsOf sys = 1 ∧ P.underlying p = some (.slice tm) ∧ P.cellsOf p = 1 ∧ P.underlying tm = some (.struct ft) ∧ P.cellsOf tm = 4 ∧ fieldsOf ft = [(i, 0), (i, 1), (i, 2), (i, 3)]
theorem read_entry (T : EntT P t) (h : trodE enc P w n t cs = some y) : ∃ x : EntryV, CellsR w cs (eE x) := by
  obtain ⟨fs, fb, ft, i, str, s, sys, p, tm, bx, t1, t2, t3, s1, s2, i1, i2, a1, a2, b1, b2, b3, y1, y2, p1, p2, m1, m2, m3⟩ := T.all
  obtain ⟨h1, h2⟩ := read_field t1 h
  rw [t2] at h1
  rw [t3] at h2
  obtain ⟨c0, c1, c2, c3, c4, c5, c6, c7, rfl⟩ := list8 h1
  obtain ⟨_, _, g0⟩ := h2 0 str 0 rfl
  obtain ⟨_, _, g1⟩ := h2 1 sys 1 rfl
  obtain ⟨_, _, g2⟩ := h2 2 bx 2 rfl
  obtain ⟨_, _, g3⟩ := h2 3 i 5 rfl
  obtain ⟨_, _, g4⟩ := h2 4 i 6 rfl
  obtain ⟨_, _, g5⟩ := h2 5 i 7 rfl
  rw [s2] at g0
  rw [y2] at g1
  rw [b2] at g2
  rw [i2] at g3 g4 g5
  obtain ⟨nm, e0, _, hnm⟩ := DataW.trod_string s1 g0
  obtain ⟨ss, u1, e1, r1⟩ := read_sys y1 p2 p1 m1 m2 m3 i1 i2 g1
  obtain ⟨b, r2⟩ := read_box b1 b2 b3 i1 i2 a1 a2 g2
  obtain ⟨k3, e3⟩ := read_int i1 g3
  obtain ⟨k4, e4⟩ := read_int i1 g4
  obtain ⟨k5, e5⟩ := read_int i1 g5
  simp at e0 e1 e3 e4 e5
  subst e0 e1 e3 e4 e5
  have r2' : CellsR w [c2, c3, c4] (eB b) := r2
  obtain ⟨v2, q2, w2⟩ := r2'.2 0 _ rfl
  obtain ⟨v3, q3, w3⟩ := r2'.2 1 _ rfl
  obtain ⟨v4, q4, w4⟩ := r2'.2 2 _ rfl
  simp at q2 q3 q4
  subst q2 q3 q4
  exact ⟨⟨nm, hnm, ss, b, k3, k4, k5⟩, cells_cons (CR.val rfl) (cells_cons r1 (cells_cons w2 (cells_cons w3 (cells_cons w4 (cells_cons (CR.val rfl) (cells_cons (CR.val rfl) (cells_cons (CR.val rfl) cells_nil)))))))⟩
theorem read_entries (ht : P.underlying t = some (.slice e)) (T : EntT P e) (h : trodE enc P w n t cs = some y) :
    ∃ (a : Entries) (u : Value), cs = [u] ∧ CR w home0 .imm (cE a) u ∧ ((y.1 = .nil ∧ a.es = []) ∨ ∃ A B, y.1 = .slice A B ∧ A.length = a.es.length) := by
  have hc : P.cellsOf e = 8 := by
    obtain ⟨_, _, _, _, _, _, _, _, _, _, _, h, _⟩ := T.all
    exact h
  obtain ⟨a, u, h1, h2, h3⟩ := read_row (Q := fun cs (x : EntryV) => CellsR w cs (eE x)) ht hc (by decide) (fun n cs y h => read_entry T h) h
  exact ⟨a, u, h1, row_sl h2 (by decide) eE (fun cs x hq => ⟨rfl, hq.2⟩), h3⟩
end
end Go.Proofs.YtecmolmlojehgaaGreat.T
namespace Go.Proofs.YtecmolmlojehgaaGreat.T
open Go Go.ChangeShapes Go.WideShapes Go.ChangeAt Go.RowKit
theorem runs_calls {P : Program} {f : FuncId} {fn : Func} {vs : Array Value} {w : World} {R : Value → World → Prop} (hf : P.funcs[f]? = some fn) (hname : (fn.name == "runtime.NumGoroutine") = false) (hb : fn.body.isNone = false) (h : Runs P f vs w R) : Calls P f vs w (fun e w' => ∃ v, e = .returned v ∧ R v w') := by
  rcases h with ⟨_, h⟩ | ⟨v, w', h, _⟩
  · exact h
  · unfold callFunc at h
    simp only [Sem.run_bind, run_program, Result.andThen_ok, hf, hname, hb, Bool.false_eq_true, if_false, Sem.run_pure] at h
    cases h
/-- A function of read arguments that gives one bool. -/
theorem sat_bool {P : Program} {f : FuncId} {fn : Func} {w : World} {args : List Arg} {b : Bool} (hf : P.funcs[f]? = some fn) (hname : (fn.name == "runtime.NumGoroutine") = false) (hb : fn.body.isNone = false) (h : Sat ids P f args (resB b))
    (hrt : (initFr args).rt = asl []) (himm : ∀ (i : Nat) x, args[i]? = some (.imm x) → x.ids = []) (vs : List Value) (hlen : vs.length = args.length) (hargs : ∀ (i : Nat) a v, args[i]? = some a → vs[i]? = some v → A1R ids w home0 (fun _ => undef) (asl []) (initArg i a).1 v) :
    Calls P f vs.toArray w (fun e w' => e = .returned (.bool b) ∧ Below w.heap.size w w') := by
  have hrel : RtR w home0 (fun _ => undef) (asl []) F0 := by
    refine ⟨fun l r hr => ?_, fun b l p hb => (by cases hb), fun l r hr => ?_⟩
    · cases l with
      | r i => cases hr
      | t k => cases hr
      | x => simp only [ext, Option.some.injEq] at hr; subst hr; exact Or.inl rfl
    · cases l with
      | r i => cases hr
      | t k => cases hr
      | x => simp only [ext, Option.some.injEq] at hr; subst hr; intro i hi; simp [Root.ids] at hi
  have := h w home0 (fun _ => undef) vs hlen (by rw [hrt]; exact hrel) (by rw [hrt]; exact hargs) himm
  refine (runs_calls hf hname hb this).mono ?_
  rintro e w' ⟨v, rfl, home', hd', F', us, rfl, ret⟩
  obtain ⟨fl, hl, hh, hasm⟩ := ret.vals
  obtain ⟨u, fl', us', rfl, rfl, h1, h2⟩ := hasm
  subst h2
  obtain ⟨hu, _⟩ := hh 0 _ _ u rfl rfl
  have hu' : u = .bool b := by
    rcases hu with ⟨_, hu⟩ | ⟨hne, _⟩
    · cases hu with
      | val _ => rfl
    · exact absurd rfl hne
  subst hu'
  exact ⟨rfl, ret.os, ret.tape, ret.output, ret.size, fun k hk => (ret.blk k hk rfl).1⟩
theorem open_entries {H : Type} {enc : TypeId × Value → H} {P : Program} {W : World} {base : Nat} {te ts : TypeId} {v : Value} {d : DataW H} {p : List MemPlace} (hs : P.underlying ts = some (.slice te)) (ht : EntT P te) (hb : P.bytesOf te = 120) (hval : Value.okWide P W .any base ts v) (h : DataW.Trod enc P W 0 (fun _ => true) true ts v d p)
    (hz : ∀ el sp, d = .slice el sp → (el.length + sp.length) * P.bytesOf te ≤ reachBytes) : ∃ A : Entries, CR W home0 .imm (cE A) v ∧ A.es.length ≤ 140737488351232 := by
  obtain ⟨fuel, hf⟩ := h
  obtain ⟨A, u, e1, e2, e3⟩ := read_entries hs ht hf
  obtain ⟨x, len, cap, rfl⟩ := okWide_slice hs hval
  simp [Value.cells] at e1
  subst e1
  refine ⟨A, e2, ?_⟩
  rcases e3 with ⟨_, e3⟩ | ⟨B, C, e3, e4⟩
  · rw [e3]; simp
  · simp only at e3
    have z := hz _ _ e3
    have hr : reachBytes = 140737488351232 := rfl
    rw [hb, hr] at z
    omega
end Go.Proofs.YtecmolmlojehgaaGreat.T
