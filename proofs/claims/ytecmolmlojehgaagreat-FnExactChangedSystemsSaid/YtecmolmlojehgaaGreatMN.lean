/- Catalogues, joined: both ways come to the same. Rows of strings, abstractly. Changed names: both ways come to the same. Changed names: the reference. Changed names: the program. A catalogue and its copies. The law of changed systems, of the abstract executor. The functions that are proved by hand do what is said of them. What is proved by hand, told of the table. slices.Insert, as the abstract executor has it. What the executor gives, the program does. -/
import Derived.Test.YtecmolmlojehgaaGreatMM
import Derived.Test.YtecmolmlojehgaaGreatMJ
import Derived.Lib.RowBridge
import Derived.Test.YtecmolmlojehgaaGreatMI
import Derived.Test.YtecmolmlojehgaaGreatChecked
import Derived.KernelRfl
import Derived.Laws.Cover3
import Derived.Laws.Externs
import Derived.Lib.Bytealg
namespace Go.Proofs.YtecmolmlojehgaaGreat.T
open Go
set_option maxHeartbeats 2000000
theorem less_irrefl : ∀ l : List UInt8, Op.bytesLess l l = false
  | [] => rfl
  | x :: r => by simp [Op.bytesLess, less_irrefl r]
theorem found {l : List EntryV} (hs : SortedL l) (n : ByteArray) (x : EntryV) : (x ∈ l ∧ nmL x = n.toList) ↔ (atB l (placeGo n l) n = true ∧ l[placeGo n l]? = some x) := by
  constructor
  · rintro ⟨hx, hn⟩
    obtain ⟨i, hi, rfl⟩ := List.getElem_of_mem hx
    have h1 : ¬ i < placeGo n l := by
      intro h
      have h2 := (place_iff n hs i hi).2 h
      unfold lessN at h2
      rw [show (l[i]).name.toList = n.toList from hn, less_irrefl] at h2
      cases h2
    have h2 : ¬ placeGo n l < i := by
      intro h
      have hp : placeGo n l < l.length := by omega
      have h3 := placeGo_ge n l hp
      have h4 := List.pairwise_iff_getElem.1 hs _ i hp hi h
      unfold lessN at h3 h4
      rw [show (l[i]).name.toList = n.toList from hn, h3] at h4
      cases h4
    have e : placeGo n l = i := by omega
    rw [e, List.getElem?_eq_getElem hi]
    refine ⟨?_, rfl⟩
    simp only [atB, List.getElem?_eq_getElem hi, eqN, beq_iff_eq]
    exact hn
  · rintro ⟨h1, h2⟩
    refine ⟨List.mem_of_getElem? h2, ?_⟩
    simp only [atB, h2, eqN, beq_iff_eq] at h1
    exact h1
theorem not_found {l : List EntryV} (hs : SortedL l) (n : ByteArray) (h : ∀ x ∈ l, nmL x ≠ n.toList) : atB l (placeGo n l) n = false := by
  cases c : atB l (placeGo n l) n with
  | false => rfl
  | true =>
    cases hg : l[placeGo n l]? with
    | none => rw [atB, hg] at c; cases c
    | some x => exact absurd ((found hs n x).2 ⟨c, hg⟩).2 (h x ((found hs n x).2 ⟨c, hg⟩).1)
theorem mem_set_keep {l : List EntryV} {k : Nat} {x z y : EntryV} (hg : l[k]? = some x) (hz : nmL z = nmL x) (hy : nmL y ≠ nmL x) : y ∈ l.set k z ↔ y ∈ l := by
  constructor
  · intro h
    rcases List.mem_or_eq_of_mem_set h with h | rfl
    · exact h
    · exact absurd hz hy
  · intro h
    obtain ⟨i, hi, rfl⟩ := List.getElem_of_mem h
    have hik : k ≠ i := by
      rintro rfl
      rw [List.getElem?_eq_getElem hi] at hg
      injection hg with hg
      exact hy (by rw [hg])
    rw [List.mem_iff_getElem?]
    exact ⟨i, by rw [List.getElem?_set_ne hik, List.getElem?_eq_getElem hi]⟩
theorem mem_ins {l : List EntryV} {k : Nat} {m y : EntryV} : y ∈ l.take k ++ [m] ++ l.drop k ↔ y = m ∨ y ∈ l := by
  conv => rhs; rw [← List.take_append_drop k l]
  simp only [List.mem_append, List.mem_singleton]
  constructor
  · rintro ((h | h) | h)
    · exact Or.inr (Or.inl h)
    · exact Or.inl h
    · exact Or.inr (Or.inr h)
  · rintro (h | h | h)
    · exact Or.inl (Or.inr h)
    · exact Or.inl (Or.inl h)
    · exact Or.inr h
theorem catGo_all : ∀ {l : List QEntry} {prev : Option ByteArray}, catGo prev l = true → ∀ e ∈ l, entryOk e = true
  | [], _, _, e, he => by simp at he
  | q :: r, none, h, e, he => by
    simp only [catGo, Bool.and_eq_true] at h
    simp only [List.mem_cons] at he
    rcases he with rfl | he
    · exact h.1
    · exact catGo_all h.2 e he
  | q :: r, some p, h, e, he => by
    simp only [catGo, Bool.and_eq_true] at h
    simp only [List.mem_cons] at he
    rcases he with rfl | he
    · exact h.1
    · exact catGo_all h.2.2 e he
theorem joinFin_bad {l : List EntryV} {z : EntryV} (hz : z ∈ l) (hb : entryOk (qE z) = false) : joinFin (some l) = (false, []) := by
  unfold joinFin
  cases c : catOk (l.map qE) with
  | false => simp only [c, Bool.false_eq_true, if_false]
  | true =>
    simp only [catOk, Bool.and_eq_true] at c
    have := catGo_all c.1 _ (List.mem_map_of_mem hz)
    rw [hb] at this; cases this
/-- One that is not right and whose name does not come again spoils it all. -/
theorem implGo_bad {z : EntryV} (hb : entryOk (qE z) = false) : ∀ (r : List EntryV) {out : List EntryV}, SortedL out → z ∈ out → (∀ e ∈ r, nmL e ≠ nmL z) → joinFin (implGo out r) = (false, [])
  | [], out, _, hz, _ => joinFin_bad hz hb
  | e :: r, out, hs, hz, hr => by
    have h0 := hr e (List.mem_cons_self ..)
    have hr' : ∀ e ∈ r, nmL e ≠ nmL z := fun e he => hr e (List.mem_cons_of_mem _ he)
    cases c : atB out (placeGo e.name out) e.name with
    | false =>
      simp only [implGo, c, Bool.false_eq_true, if_false]
      exact implGo_bad hb r (sorted_ins hs e c) (mem_ins.2 (Or.inr hz)) hr'
    | true =>
      simp only [implGo, c, if_true]
      cases hg : out[placeGo e.name out]? with
      | none => rfl
      | some x =>
        have hx := ((found hs e.name x).2 ⟨c, hg⟩).2
        have hzx : nmL z ≠ nmL x := fun h => h0 (by rw [h, hx])
        simp only
        split
        · exact implGo_bad hb r (sorted_names (names_set hg hx.symm).symm hs) ((mem_set_keep hg hx.symm hzx).2 hz) hr'
        · split
          · split
            · exact implGo_bad hb r (sorted_names (names_set (e := meetE x e) hg rfl).symm hs) ((mem_set_keep (z := meetE x e) hg rfl hzx).2 hz) hr'
            · rfl
          · exact implGo_bad hb r hs hz hr'
theorem sameQ_comm (x e : EntryV) : sameQ x e = sameQ e x := by
  have : ∀ {α : Type} [BEq α] [LawfulBEq α] (a b : α), (a == b) = (b == a) := fun a b => by
    rw [Bool.eq_iff_iff, beq_iff_eq, beq_iff_eq]; exact eq_comm
  simp only [sameQ]
  rw [this (pS x.system), this (pB x.box)]
theorem nmL_bare (e : EntryV) : nmL (bareE e) = nmL e := rfl
theorem set_self {α : Type} {l : List α} {k : Nat} {x : α} (h : l[k]? = some x) : l.set k x = l := by
  apply List.ext_getElem?
  intro i
  by_cases hi : k = i
  · subst hi
    have : k < l.length := by
      apply Nat.lt_of_not_le; intro h2; rw [List.getElem?_eq_none h2] at h; simp at h
    rw [List.getElem?_set_self this, h]
  · rw [List.getElem?_set_ne hi]
theorem join_same {a : List EntryV} (ha : SortedL a) : ∀ (r : List EntryV) {out : List EntryV}, SortedL out → SortedL r → (∀ e ∈ r, ∀ y, (y ∈ out ∧ nmL y = nmL e) ↔ ∃ x ∈ a, nmL x = nmL e ∧ y = bareE x) →
    joinFin (specGo a out r) = joinFin (implGo out (r.map bareE))
  | [], _, _, _, _ => rfl
  | e :: r, out, hs, hr, hI => by
    obtain ⟨hr1, hr2⟩ := List.pairwise_cons.1 hr
    have hne : ∀ e' ∈ r, nmL e' ≠ nmL e := by
      intro e' he' h
      have := hr1 e' he'
      unfold lessN at this
      rw [show e'.name.toList = e.name.toList from h, less_irrefl] at this
      cases this
    have hI0 := hI e (List.mem_cons_self ..)
    have hI' : ∀ e ∈ r, ∀ y, (y ∈ out ∧ nmL y = nmL e) ↔ ∃ x ∈ a, nmL x = nmL e ∧ y = bareE x := fun e he => hI e (List.mem_cons_of_mem _ he)
    obtain ⟨k, hk⟩ : ∃ k, k = placeGo e.name out := ⟨_, rfl⟩
    obtain ⟨j, hj⟩ : ∃ j, j = placeGo e.name a := ⟨_, rfl⟩
    have hset : ∀ (x z : EntryV), out[k]? = some x → nmL x = nmL e → nmL z = nmL e → SortedL (out.set k z) ∧ ∀ e ∈ r, ∀ y, (y ∈ out.set k z ∧ nmL y = nmL e) ↔ ∃ x ∈ a, nmL x = nmL e ∧ y = bareE x := by
      intro x z hg hx hz
      refine ⟨sorted_names (names_set hg (hz.trans hx.symm)).symm hs, fun e' he' y => ?_⟩
      rw [← hI' e' he' y]
      constructor
      · rintro ⟨h1, h2⟩
        exact ⟨(mem_set_keep hg (hz.trans hx.symm) (by rw [h2, hx]; exact hne e' he')).1 h1, h2⟩
      · rintro ⟨h1, h2⟩
        exact ⟨(mem_set_keep hg (hz.trans hx.symm) (by rw [h2, hx]; exact hne e' he')).2 h1, h2⟩
    have hput : ∀ m : EntryV, nmL m = nmL e → atB out k e.name = true → putL out m = out.set k (bareE m) := by
      intro m hm hat
      have hp : placeGo m.name out = k := by rw [hk]; exact placeGo_congr hm out
      unfold putL
      rw [hp, if_pos]
      simp only [atB, eqN] at hat ⊢
      rw [show m.name.toList = e.name.toList from hm]
      exact hat
    have step : implGo out ((e :: r).map bareE) = if atB out k e.name = true then
        match out[k]? with
        | some x => if x.version < e.version then implGo (out.set k (bareE e)) (r.map bareE)
          else if e.version = x.version then (if sameQ (bareE e) x = true then implGo (out.set k (meetE x (bareE e))) (r.map bareE) else none)
          else implGo out (r.map bareE)
        | none => none
      else implGo (out.take k ++ [bareE e] ++ out.drop k) (r.map bareE) := by rw [hk]; rfl
    rw [step]
    cases hat : atB a j e.name with
    | false =>
      have hno : ∀ y ∈ out, nmL y ≠ nmL e := by
        intro y hy hn
        obtain ⟨x, hx, hxn, _⟩ := (hI0 y).1 ⟨hy, hn⟩
        have := ((found ha e.name x).1 ⟨hx, hxn⟩).1
        rw [← hj, hat] at this
        cases this
      have hat2 := not_found hs e.name hno
      have h1 : putL out e = out.take k ++ [bareE e] ++ out.drop k := by
        unfold putL
        rw [← hk] at hat2 ⊢
        rw [hat2, if_neg (by simp)]
      simp only [specGo, meetOpt]
      rw [← hj, hat]
      rw [← hk] at hat2
      rw [hat2]
      simp only [Bool.false_eq_true, if_false]
      rw [h1]
      have hins := sorted_ins hs (bareE e) (by rw [bareE_name, ← hk]; exact hat2)
      rw [bareE_name, ← hk] at hins
      refine join_same ha r hins hr2 (fun e' he' y => ?_)
      rw [← hI' e' he' y, mem_ins]
      constructor
      · rintro ⟨rfl | h1, h2⟩
        · exact absurd h2.symm (hne e' he')
        · exact ⟨h1, h2⟩
      · rintro ⟨h1, h2⟩
        exact ⟨Or.inr h1, h2⟩
    | true =>
      cases hg : a[j]? with
      | none => rw [atB, hg] at hat; cases hat
      | some x =>
        have hx := (found ha e.name x).2 ⟨by rw [← hj]; exact hat, by rw [← hj]; exact hg⟩
        have hin := (hI0 (bareE x)).2 ⟨x, hx.1, hx.2, rfl⟩
        have hf := (found hs e.name (bareE x)).1 hin
        rw [← hk] at hf
        obtain ⟨hf1, hf2⟩ := hf
        simp only [specGo, meetOpt]
        rw [← hj, hat, hf1, hg, hf2]
        obtain ⟨y, hyx⟩ : ∃ y, y = bareE x := ⟨_, rfl⟩
        have hyv : y.version = x.version := by rw [hyx]; rfl
        have hyq : sameQ (bareE e) y = sameQ x e := by rw [hyx, sameQ_bare, sameQ_comm]
        have hym : meetE y (bareE e) = bareE (meetE x e) := by rw [hyx]; rfl
        rw [← hyx] at hf2 ⊢
        simp only [if_true]
        by_cases v1 : e.version < x.version
        · simp only [if_pos v1]
          rw [if_neg (show ¬ y.version < e.version by omega), if_neg (show ¬ e.version = y.version by omega), hput x hx.2 hf1, ← hyx, set_self hf2]
          exact join_same ha r hs hr2 hI'
        · simp only [if_neg v1]
          by_cases v2 : x.version < e.version
          · simp only [if_pos v2]
            rw [hput e rfl hf1, if_pos (show y.version < e.version by omega)]
            obtain ⟨h1, h2⟩ := hset _ (bareE e) hf2 (by rw [hyx]; exact hx.2) rfl
            exact join_same ha r h1 hr2 h2
          · simp only [if_neg v2]
            rw [if_neg (show ¬ y.version < e.version by omega), if_pos (show e.version = y.version by omega), hyq, hym]
            cases v3 : sameQ x e with
            | false => rfl
            | true =>
              simp only [if_true]
              obtain ⟨h1, h2⟩ := hset _ (bareE (meetE x e)) hf2 (by rw [hyx]; exact hx.2) hx.2
              cases v4 : entryOk (qE (meetE x e)) with
              | true =>
                simp only [if_true]
                rw [hput (meetE x e) hx.2 hf1]
                exact join_same ha r h1 hr2 h2
              | false =>
                simp only [Bool.false_eq_true, if_false]
                have hkl : k < out.length := by
                  apply Nat.lt_of_not_le; intro h; rw [List.getElem?_eq_none h] at hf2; simp at hf2
                refine Eq.trans ?_ (implGo_bad (z := bareE (meetE x e)) (by rw [qE_bare]; exact v4) (r.map bareE) h1 (List.mem_set hkl _) ?_).symm
                · rfl
                · intro e' he'
                  simp only [List.mem_map] at he'
                  obtain ⟨e'', he'', rfl⟩ := he'
                  intro h
                  exact hne e'' he'' (h.trans hx.2)
theorem join_law {X Y : Entries} (hx : catOk (qL X) = true) (hy : catOk (qL Y) = true) : joinFin (specGo X.es (X.es.map bareE) Y.es) = joinFin (implGo (X.es.map bareE) (Y.es.map bareE)) := by
  have sx : ∀ {L : Entries}, catOk (qL L) = true → SortedL L.es := by
    intro L h
    simp only [catOk, Bool.and_eq_true] at h
    have := (catGo_sorted h.1).2
    unfold qL at this
    rw [List.pairwise_map] at this
    exact this
  refine join_same (sx hx) Y.es (sorted_names (by rw [List.map_map]; rfl) (sx hx)) (sx hy) (fun e _ y => ?_)
  constructor
  · rintro ⟨h1, h2⟩
    obtain ⟨x, hx, rfl⟩ := List.mem_map.1 h1
    exact ⟨x, hx, h2, rfl⟩
  · rintro ⟨x, hx, h2, rfl⟩
    exact ⟨List.mem_map_of_mem hx, h2⟩
theorem cat_sorted {L : Entries} (h : catOk (qL L) = true) : SortedL L.es := by
  simp only [catOk, Bool.and_eq_true] at h
  have := (catGo_sorted h.1).2
  unfold qL at this
  rw [List.pairwise_map] at this
  exact this
end Go.Proofs.YtecmolmlojehgaaGreat.T
namespace Go.Proofs.YtecmolmlojehgaaGreat.T
open Go
set_option maxHeartbeats 4000000
attribute [-simp] List.getElem_cons_drop List.map_drop List.map_take List.map_map eqCells
abbrev bStr (n : ByteArray) : List Value := [.string n]
abbrev cStr (l : List ByteArray) : C := .fl 1 (l.map bStr) []
def placeS (s : ByteArray) : List ByteArray → Nat
  | [] => 0
  | x :: r => if lessN x s then placeS s r + 1 else 0
theorem placeS_le (s : ByteArray) : ∀ l, placeS s l ≤ l.length
  | [] => Nat.le_refl _
  | e :: r => by
    have := placeS_le s r
    simp only [placeS]
    split <;> simp <;> omega
def atS (l : List ByteArray) (k : Nat) (s : ByteArray) : Bool :=
  match l[k]? with
  | some x => eqN x s
  | none => false
def putS (l : List ByteArray) (s : ByteArray) : List ByteArray := if atS l (placeS s l) s = true then l else l.take (placeS s l) ++ [s] ++ l.drop (placeS s l)
theorem L_jrPut (l : List ByteArray) (s : ByteArray) (hl : l.length ≤ 1000000) : ∃ ms, L0 n_spec_jrPut [own (cStr l) l.length, argV (.string s)] = some ⟨[.s (.mk .deep (cStr (putS l s)))], ms⟩ ∧ (ms = [none] ∨ ms = [some (.arr true false (cStr l))]) := by
  refine ⟨if atS l (placeS s l) s = true then [none] else [some (.arr true false (cStr l))], ?_, by split <;> simp⟩
  refine L_body (b := b_spec_jrPut) rfl rfl l.length ?_
  intro fuel hfuel
  simp -implicitDefEqProofs [b_spec_jrPut]
  have hwhole : ∀ k, k = placeS s l → k ≤ l.length → (atS l k s = true ∨ atS l k s = false) := fun k _ _ => by cases atS l k s <;> simp
  refine (K_it (fun i : Nat => [(5, vI i)]) (fun _ => []) (fun _ => some ⟨[.s (.mk .deep (cStr (putS l s)))], if atS l (placeS s l) s = true then [none] else [some (.arr true false (cStr l))]⟩) (fun i => l.length - i) (fun i => i ≤ l.length ∧ placeS s l = i + placeS s (l.drop i)) 0 ⟨by simp, by simp⟩ (by simp; omega) (by simp) ?_).trans (by simp)
  rintro i ⟨hi, hp⟩ K hK
  have hle := placeS_le s l
  by_cases hlt : i < l.length
  · rw [drop_cons hlt] at hp
    cases h : lessN l[i] s with
    | true =>
      have h' : Op.bytesLess l[i].toList s.toList = true := h
      have hs := wrap_succ (show i < 9223372036854775807 by omega)
      simp only [placeS, h, if_true] at hp
      simp -implicitDefEqProofs [l1_spec_jrPut, hlt, h']
      exact hK (i + 1) _ ⟨by omega, by omega⟩ (by omega) (by simp [hs])
    | false =>
      have h' : Op.bytesLess l[i].toList s.toList = false := h
      simp only [placeS, h, Bool.false_eq_true, if_false, Nat.add_zero] at hp
      cases h2 : eqN l[i] s with
      | true =>
        have h2' : (l[i].toList == s.toList) = true := h2
        have hat : atS l i s = true := by simp only [atS, List.getElem?_eq_getElem hlt, h2]
        have hput : putS l s = l := by unfold putS; rw [hp, hat, if_pos rfl]
        rw [hp, hat, hput]
        simp -implicitDefEqProofs [l1_spec_jrPut, hlt, h', h2']
      | false =>
        have h2' : (l[i].toList == s.toList) = false := h2
        have hat : atS l i s = false := by simp only [atS, List.getElem?_eq_getElem hlt, h2]
        have hput : putS l s = l.take i ++ [s] ++ l.drop i := by unfold putS; rw [hp, hat, if_neg (by simp)]
        rw [hp, hat, hput]
        have hm0 : i * 16 ≤ 140737488355328 := by omega
        have hmi : i ≤ 9223372036854775807 := by omega
        have hm1 : (i + 1) * 16 ≤ 140737488355328 := by omega
        have hm2 : i + 1 ≤ 9223372036854775807 := by omega
        have hm3 : (i + 1 + (l.length - i)) * 16 ≤ 140737488355328 := by omega
        have hm4 : i + 1 + (l.length - i) ≤ 9223372036854775807 := by omega
        have hkl : i ≤ l.length := by omega
        have t1 : (l.map bStr).take i = (l.take i).map bStr := by rw [List.map_take]
        have t2 : (l.map bStr).drop i = (l.drop i).map bStr := by rw [List.map_drop]
        have l1 : (l.take i).length = i := by simp; omega
        have l2 : (l.drop i).length = l.length - i := by simp
        simp -implicitDefEqProofs [l1_spec_jrPut, hlt, h', h2', hm0, hmi, hm1, hm2, hm3, hm4, hkl, t1, t2]
        have e1 : (List.map bStr (List.take i l)).take i = List.map bStr (List.take i l) := List.take_of_length_le (by simp; omega)
        have e2 : (List.map bStr (List.drop i l)).take (l.length - i) = List.map bStr (List.drop i l) := List.take_of_length_le (by simp)
        have e3 : (List.map bStr (List.take i l) ++ [[Value.string s]]).take (i + 1) = List.map bStr (List.take i l) ++ [[Value.string s]] := List.take_of_length_le (by simp; omega)
        rw [e1, e2, e3, List.take_of_length_le (by simp; omega), List.append_assoc]
        rfl
  · have h0 : l.drop i = [] := List.drop_eq_nil_of_le (by omega)
    rw [h0] at hp
    simp only [placeS, Nat.add_zero] at hp
    have hil : i = l.length := by omega
    subst hil
    have hat : atS l l.length s = false := by simp only [atS, List.getElem?_eq_none (Nat.le_refl _)]
    have hput : putS l s = l ++ [s] := by unfold putS; rw [hp, hat, if_neg (by simp), List.take_length, List.drop_length, List.append_nil]
    rw [hp, hat, hput]
    have hm0 : l.length * 16 ≤ 140737488355328 := by omega
    have hmi : l.length ≤ 9223372036854775807 := by omega
    have hm1 : (l.length + 1) * 16 ≤ 140737488355328 := by omega
    have hm2 : l.length + 1 ≤ 9223372036854775807 := by omega
    simp -implicitDefEqProofs [l1_spec_jrPut, hm0, hmi, hm1, hm2]
theorem L_eqStringS (l : List ByteArray) (hl : l.length ≤ 1000000) : L0 n_laws_eqStringS [arg (cStr l), arg (cStr l)] = some (resB true) := by
  refine L_body (b := b_laws_eqStringS) rfl rfl l.length ?_
  intro fuel hfuel
  simp -implicitDefEqProofs [b_laws_eqStringS]
  refine (K_it (fun i : Nat => [(5, vI i)]) (fun _ => []) (fun _ => some (resB true)) (fun i => l.length - i) (fun i => i ≤ l.length) 0 (by simp) (by simp; omega) (by simp) ?_).trans (by simp)
  intro i hi K hK
  by_cases hlt : i < l.length
  · have hs := wrap_succ (show i < 9223372036854775807 by omega)
    simp -implicitDefEqProofs [l1_laws_eqStringS, hlt]
    exact hK (i + 1) _ (by omega) (by omega) (by simp [hs])
  · simp -implicitDefEqProofs [l1_laws_eqStringS, hlt]
/-- Strings, marked from k on. -/
def mS (k : Nat) : Nat → List ByteArray
  | 0 => []
  | n + 1 => mText k :: mS (k + 1) n
theorem mS_length : ∀ (n k : Nat), (mS k n).length = n
  | 0, _ => rfl
  | n + 1, k => by simp [mS, mS_length n]
theorem mS_get : ∀ (n k i : Nat), i < n → (mS k n)[i]? = some (mText (k + i))
  | 0, _, _, h => by omega
  | n + 1, k, 0, _ => rfl
  | n + 1, k, i + 1, h => by
    simp only [mS, List.getElem?_cons_succ]
    rw [mS_get n (k + 1) i (by omega), show k + 1 + i = k + (i + 1) by omega]
theorem L_markStringS (l : List ByteArray) (k : Nat) (h0 : 0 < k) (h1 : l.length ≤ 1000000) (hk : k + l.length < 4611686018427387904) : L0 n_laws_markStringS [own (cStr l) l.length, argI k] = some (backI (k + l.length) (cStr (mS k l.length))) := by
  refine L_body (b := b_laws_markStringS) rfl rfl l.length ?_
  intro fuel hfuel
  obtain ⟨Y, hY⟩ : ∃ Y, Y = l.map bStr := ⟨_, rfl⟩
  obtain ⟨X, hX⟩ : ∃ X, X = (mS k l.length).map bStr := ⟨_, rfl⟩
  have hl : X.length = Y.length := by rw [hX, hY]; simp [mS_length]
  have hn : l.length = Y.length := by rw [hY]; simp
  have hXi : ∀ i, i < l.length → X[i]? = some (bStr (mText (k + i))) := by
    intro i hi
    rw [hX, List.getElem?_map, mS_get _ _ _ hi]
    rfl
  have hYi : ∀ (i : Nat) (h : i < Y.length), ∃ y, Y[i] = bStr y := by
    intro i h
    have : Y[i] ∈ Y := List.getElem_mem h
    subst hY
    obtain ⟨x, _, e⟩ := List.mem_map.1 this
    exact ⟨x, e.symm⟩
  have hrest : mixRow X Y l.length = X := by rw [hn, ← hl]; exact mix_all hl
  rw [show cStr l = .fl 1 Y [] by rw [hY], show cStr (mS k l.length) = .fl 1 X [] by rw [hX]]
  clear hX hY
  simp -implicitDefEqProofs [b_laws_markStringS]
  rw [K_start (fr' := ⟨asl [(0, .sv (.ref 0 [] 0 l.length)), (1, .sv (.v (int ((k + 0 : Nat) : Int)))), (5, .sv (.v (int (0 : Nat))))], asl [(0, .arr true false (.fl 1 (mixRow X Y 0) []))], [0]⟩) (by simp [mix_zero])]
  refine K_for (fun i => ⟨asl [(0, .sv (.ref 0 [] 0 l.length)), (1, .sv (.v (int ((k + i : Nat) : Int)))), (5, .sv (.v (int i)))], asl [(0, .arr true false (.fl 1 (mixRow X Y i) []))], [0]⟩) 0 l.length (by omega) (by omega) ?_ ?_
  · intro i _ hi K
    have h2 : i < Y.length := by omega
    have hs := mix_set (Y := Y) hl (hXi i hi)
    obtain ⟨y, hy⟩ := hYi i h2
    have hw := wrap64 (n := ((k : Int) + (i : Int)) + 1) (by omega) (by omega)
    have ha : (k : Int) + ((i : Int) + 1) = ((k : Int) + (i : Int)) + 1 := by omega
    have hT := L_markText (hand := handF) (k + i) (by omega) (by omega)
    simp only [Int.natCast_add] at hT
    simp -implicitDefEqProofs [l1_laws_markStringS, hi, h2, hn, hy, mix_at hl, mix_length hl, hs, hw, ha, hT, wrap_suc (show i < 9223372036854775807 by omega)]
  · intro _
    simp -implicitDefEqProofs [l1_laws_markStringS, hrest]
theorem L_heldStringS (n k : Nat) (h0 : 0 < k) (h1 : n ≤ 1000000) (hk : k + n < 4611686018427387904) : L0 n_laws_heldStringS [arg (cStr (mS k n)), argI k] = some (resI ((k + n : Nat) : Int)) := by
  refine L_body (b := b_laws_heldStringS) rfl rfl n ?_
  intro fuel hfuel
  have hlen : (mS k n).length = n := mS_length _ _
  simp -implicitDefEqProofs [b_laws_heldStringS]
  rw [K_start (fr' := ⟨asl [(0, .sv (.c (cStr (mS k n)))), (1, .sv (.v (int ((k + 0 : Nat) : Int)))), (5, .sv (.v (int (0 : Nat))))], asl [], []⟩) (by simp)]
  refine K_for (fun i => ⟨asl [(0, .sv (.c (cStr (mS k n)))), (1, .sv (.v (int ((k + i : Nat) : Int)))), (5, .sv (.v (int i)))], asl [], []⟩) 0 n (by omega) (by omega) ?_ ?_
  · intro i _ hi K
    have hi2 : i < (mS k n).length := by omega
    have hg : (mS k n)[i] = mText (k + i) := by
      have := mS_get n k i hi
      rw [List.getElem?_eq_getElem hi2] at this; injection this
    have hw := wrap64 (n := ((k : Int) + (i : Int)) + 1) (by omega) (by omega)
    have ha : (k : Int) + ((i : Int) + 1) = ((k : Int) + (i : Int)) + 1 := by omega
    have hT := L_markText (hand := handF) (k + i) (by omega) (by omega)
    simp only [Int.natCast_add] at hT
    simp -implicitDefEqProofs [l1_laws_heldStringS, hi, hi2, hlen, hg, hw, ha, hT, wrap_suc (show i < 9223372036854775807 by omega)]
  · intro _
    simp -implicitDefEqProofs [l1_laws_heldStringS, hlen]
end Go.Proofs.YtecmolmlojehgaaGreat.T
namespace Go.Proofs.YtecmolmlojehgaaGreat.T
open Go
set_option maxHeartbeats 2000000
theorem lt_bytes : ∀ a b : List UInt8, a < b ↔ Op.bytesLess a b = true
  | [], [] => by simp [Op.bytesLess]
  | [], y :: b => by simp [Op.bytesLess]
  | x :: a, [] => by simp [Op.bytesLess]
  | x :: a, y :: b => by
    rw [List.cons_lt_cons_iff, lt_bytes a b]
    simp [Op.bytesLess]
theorem le8_eq (x y : List UInt8) : le8 x y = !Op.bytesLess y x := by
  show decide (x ≤ y) = _
  have : x ≤ y ↔ ¬ y < x := Iff.rfl
  rw [Bool.eq_iff_iff, decide_eq_true_iff, this, lt_bytes]
  simp
abbrev LtL (a b : List UInt8) : Prop := Op.bytesLess a b = true
theorem lt_of_le_ne {x y : List UInt8} (h : le8 x y = true) (hn : x ≠ y) : LtL x y := by
  rw [le8_eq] at h
  exact bytes_tri y x (by simpa using h) (Ne.symm hn)
theorem le_trans8 (x y z : List UInt8) (h1 : le8 x y = true) (h2 : le8 y z = true) : le8 x z = true := by
  by_cases e1 : x = y
  · subst e1; exact h2
  · by_cases e2 : y = z
    · subst e2; exact h1
    · have h3 := bytesLess_trans (lt_of_le_ne h1 e1) (lt_of_le_ne h2 e2)
      rw [le8_eq]
      cases h4 : Op.bytesLess z x with
      | false => rfl
      | true => have := bytesLess_trans h3 h4; rw [less_irrefl] at this; cases this
theorem le_total8 (x y : List UInt8) : (le8 x y || le8 y x) = true := by
  rw [le8_eq, le8_eq]
  cases h1 : Op.bytesLess y x with
  | false => rfl
  | true =>
    cases h2 : Op.bytesLess x y with
    | false => rfl
    | true => have := bytesLess_trans h1 h2; rw [less_irrefl] at this; cases this
theorem sortL_sorted (l : List (List UInt8)) : (sortL l).Pairwise (fun a b => le8 a b = true) := List.pairwise_mergeSort le_trans8 le_total8 l
theorem sortL_mem (l : List (List UInt8)) (x : List UInt8) : x ∈ sortL l ↔ x ∈ l := List.mem_mergeSort
theorem compact_go (zs : List (List UInt8)) (hs : zs.Pairwise (fun a b => le8 a b = true)) : ∀ m, m ≤ zs.length → (∀ x, x ∈ Lib.compactUpTo zs.toArray m ↔ x ∈ zs.take m) ∧ (Lib.compactUpTo zs.toArray m).Pairwise LtL
  | 0, _ => ⟨fun x => by simp [Lib.compactUpTo], by simp [Lib.compactUpTo]⟩
  | m + 1, h => by
    obtain ⟨h1, h2⟩ := compact_go zs hs m (by omega)
    have hm : m < zs.length := by omega
    have hd : zs.toArray[m]! = zs[m] := by simp [hm]
    have ht : zs.take (m + 1) = zs.take m ++ [zs[m]] := List.take_succ_eq_append_getElem hm
    rw [Lib.compactUpTo_succ]
    have hle : ∀ x ∈ zs.take m, le8 x zs[m] = true := by
      intro x hx
      obtain ⟨i, hi, rfl⟩ := List.getElem_of_mem hx
      simp only [List.length_take] at hi
      rw [List.getElem_take]
      exact List.pairwise_iff_getElem.1 hs i m (by omega) hm (by omega)
    cases hk : Lib.keeps zs.toArray m with
    | true =>
      simp only [if_true, hd]
      refine ⟨fun x => by rw [ht, List.mem_append, List.mem_append, h1], ?_⟩
      refine List.pairwise_append.2 ⟨h2, List.pairwise_singleton _ _, fun a ha b hb => ?_⟩
      simp only [List.mem_singleton] at hb
      subst hb
      rw [h1] at ha
      refine lt_of_le_ne (hle a ha) (fun e => ?_)
      have hm0 : 0 < m := by
        apply Nat.pos_of_ne_zero
        intro h0
        subst h0
        simp at ha
      have hne : zs[m] ≠ zs[m - 1] := by
        simp only [Lib.keeps, decide_eq_true_eq] at hk
        rcases hk with hk | hk
        · omega
        · rw [hd] at hk
          have : zs.toArray[m - 1]! = zs[m - 1] := by simp [show m - 1 < zs.length by omega]
          rw [this] at hk
          exact hk
      obtain ⟨i, hi, rfl⟩ := List.getElem_of_mem ha
      simp only [List.length_take] at hi
      rw [List.getElem_take] at e
      have k1 : le8 zs[m - 1] zs[m] = true := List.pairwise_iff_getElem.1 hs (m - 1) m (by omega) hm (by omega)
      have k2 : LtL zs[m - 1] zs[m] := lt_of_le_ne k1 (Ne.symm hne)
      by_cases hi2 : i = m - 1
      · subst hi2; exact hne e.symm
      · have k3 : le8 zs[i] zs[m - 1] = true := List.pairwise_iff_getElem.1 hs i (m - 1) (by omega) (by omega) (by omega)
        rw [e, le8_eq, k2] at k3
        cases k3
    | false =>
      simp only [Bool.false_eq_true, if_false, List.append_nil]
      refine ⟨fun x => ?_, h2⟩
      rw [h1, ht, List.mem_append, List.mem_singleton]
      constructor
      · exact Or.inl
      · rintro (hx | rfl)
        · exact hx
        · simp only [Lib.keeps, decide_eq_false_iff_not, not_or, Decidable.not_not] at hk
          obtain ⟨hm0, hk⟩ := hk
          rw [hd] at hk
          have : zs.toArray[m - 1]! = zs[m - 1] := by simp [show m - 1 < zs.length by omega]
          rw [this] at hk
          rw [hk, List.mem_take_iff_getElem]
          exact ⟨m - 1, by omega, rfl⟩
theorem compact_sorted (zs : List (List UInt8)) (hs : zs.Pairwise (fun a b => le8 a b = true)) : (∀ x, x ∈ Lib.compact zs ↔ x ∈ zs) ∧ (Lib.compact zs).Pairwise LtL := by
  obtain ⟨h1, h2⟩ := compact_go zs hs zs.length (Nat.le_refl _)
  rw [List.take_length] at h1
  exact ⟨h1, h2⟩
theorem lt_ne {x y : List UInt8} (h : LtL x y) : x ≠ y := by
  rintro rfl
  unfold LtL at h
  rw [less_irrefl] at h; cases h
theorem strict_unique : ∀ {a b : List (List UInt8)}, a.Pairwise LtL → b.Pairwise LtL → (∀ x, x ∈ a ↔ x ∈ b) → a = b
  | [], [], _, _, _ => rfl
  | [], y :: b, _, _, h => absurd ((h y).2 (List.mem_cons_self ..)) (by simp)
  | x :: a, [], _, _, h => absurd ((h x).1 (List.mem_cons_self ..)) (by simp)
  | x :: a, y :: b, ha, hb, h => by
    obtain ⟨a1, a2⟩ := List.pairwise_cons.1 ha
    obtain ⟨b1, b2⟩ := List.pairwise_cons.1 hb
    have e : x = y := by
      have k1 := (h x).1 (List.mem_cons_self ..)
      have k2 := (h y).2 (List.mem_cons_self ..)
      simp only [List.mem_cons] at k1 k2
      rcases k1 with k1 | k1
      · exact k1
      · rcases k2 with k2 | k2
        · exact k2.symm
        · have := bytesLess_trans (a1 y k2) (b1 x k1)
          rw [less_irrefl] at this; cases this
    subst e
    have : a = b := strict_unique a2 b2 (fun z => by
      have hz := h z
      simp only [List.mem_cons] at hz
      constructor
      · intro hza
        rcases hz.1 (Or.inr hza) with e | hzb
        · exact absurd e.symm (lt_ne (a1 z hza))
        · exact hzb
      · intro hzb
        rcases hz.2 (Or.inr hzb) with e | hza
        · exact absurd e.symm (lt_ne (b1 z hzb))
        · exact hza)
    rw [this]
abbrev nmD (n : ByteArray) : List UInt8 := n.toList
/-! ### Putting names -/
abbrev StrictS (l : List ByteArray) : Prop := l.Pairwise (fun a b => lessN a b = true)
theorem placeS_ge (n : ByteArray) : ∀ (l : List ByteArray) (h : placeS n l < l.length), lessN (l[placeS n l]) n = false
  | [], h => by simp at h
  | e :: r, h => by
    cases c : lessN e n with
    | false =>
      have hpl : placeS n (e :: r) = 0 := by rw [placeS, if_neg (by rw [c]; simp)]
      simp only [hpl, List.getElem_cons_zero, c]
    | true =>
      have hpl : placeS n (e :: r) = placeS n r + 1 := by rw [placeS, if_pos c]
      simp only [hpl, List.getElem_cons_succ]
      rw [hpl] at h
      exact placeS_ge n r (by simpa using h)
theorem placeS_lt (n : ByteArray) : ∀ (l : List ByteArray) (i : Nat) (_ : i < placeS n l) (h2 : i < l.length), lessN l[i] n = true
  | [], i, _, h => by simp at h
  | e :: r, i, h, h2 => by
    cases c : lessN e n with
    | false =>
      have hpl : placeS n (e :: r) = 0 := by rw [placeS, if_neg (by rw [c]; simp)]
      rw [hpl] at h; omega
    | true =>
      have hpl : placeS n (e :: r) = placeS n r + 1 := by rw [placeS, if_pos c]
      rw [hpl] at h
      cases i with
      | zero => exact c
      | succ i => exact placeS_lt n r i (by omega) (by simpa using h2)
theorem eqN_iff {a b : ByteArray} : eqN a b = true ↔ a = b := by
  simp only [eqN, beq_iff_eq]
  constructor
  · intro h
    rw [toList_data, toList_data] at h
    exact Go.WideShapes.bytes_inj h
  · rintro rfl; rfl
theorem putS_strict {l : List ByteArray} (hs : StrictS l) (s : ByteArray) : StrictS (putS l s) ∧ ∀ x, x ∈ putS l s ↔ x ∈ l ∨ x = s := by
  unfold putS
  obtain ⟨k, hk⟩ : ∃ k, k = placeS s l := ⟨_, rfl⟩
  have hge := placeS_ge s l
  have hlt := placeS_lt s l
  rw [← hk]
  cases hat : atS l k s with
  | true =>
    simp only [if_true]
    refine ⟨hs, fun x => ⟨Or.inl, ?_⟩⟩
    rintro (h | rfl)
    · exact h
    · unfold atS at hat
      split at hat
      · rename_i y hy
        rw [← eqN_iff.1 hat]
        exact List.mem_of_getElem? hy
      · cases hat
  | false =>
    simp only [Bool.false_eq_true, if_false]
    have h1 : ∀ x ∈ l.take k, lessN x s = true := by
      intro x hx
      obtain ⟨i, hi, rfl⟩ := List.getElem_of_mem hx
      simp only [List.length_take] at hi
      rw [List.getElem_take]
      exact hlt i (by omega) (by omega)
    have h2 : ∀ x ∈ l.drop k, lessN s x = true := by
      intro x hx
      by_cases hkl : k < l.length
      · have h0 : lessN s l[k] = true := by
          have h3 := hge (by omega)
          simp only [← hk] at h3
          refine bytes_tri _ _ h3 ?_
          intro h
          have : atS l k s = true := by simp only [atS, List.getElem?_eq_getElem hkl, eqN, beq_iff_eq]; exact h
          rw [this] at hat; cases hat
        obtain ⟨i, hi, rfl⟩ := List.getElem_of_mem hx
        simp only [List.length_drop] at hi
        rw [List.getElem_drop]
        cases i with
        | zero => exact h0
        | succ i => exact lessN_trans h0 (List.pairwise_iff_getElem.1 hs k (k + (i + 1)) hkl (by omega) (by omega))
      · rw [List.drop_eq_nil_of_le (by omega)] at hx; simp at hx
    constructor
    · rw [List.append_assoc]
      refine List.pairwise_append.2 ⟨hs.sublist (List.take_sublist _ _), ?_, ?_⟩
      · simp only [List.singleton_append, List.pairwise_cons]
        exact ⟨h2, hs.sublist (List.drop_sublist _ _)⟩
      · intro a ha b hb
        simp only [List.singleton_append, List.mem_cons] at hb
        rcases hb with rfl | hb
        · exact h1 a ha
        · exact lessN_trans (h1 a ha) (h2 b hb)
    · intro x
      conv => rhs; rw [← List.take_append_drop k l]
      simp only [List.mem_append, List.mem_singleton]
      constructor
      · rintro ((h | h) | h)
        · exact Or.inl (Or.inl h)
        · exact Or.inr h
        · exact Or.inl (Or.inr h)
      · rintro ((h | h) | h)
        · exact Or.inl (Or.inl h)
        · exact Or.inr h
        · exact Or.inl (Or.inr h)
/-! ### The law -/
def caEq (e x : EntryV) : Bool := eqN e.name x.name && sameQ e x && decide (e.least = x.least) && decide (e.most = x.most) && decide (e.version = x.version)
/-- Is the entry another one, or missing, there? -/
def differs (b : List EntryV) (e : EntryV) : Bool :=
  !atB b (placeGo e.name b) e.name || (match b[placeGo e.name b]? with | some x => !caEq e x | none => true)
def gone (b : List EntryV) (e : EntryV) : Bool := !atB b (placeGo e.name b) e.name
def putIf (c : EntryV → Bool) : List ByteArray → List EntryV → List ByteArray
  | out, [] => out
  | out, e :: r => putIf c (if c e = true then putS out e.name else out) r
def specCh (a b : List EntryV) : List ByteArray := putIf (gone a) (putIf (differs b) [] a) b
def chIn (a b : List EntryV) : List ByteArray := (a.filter (differs b)).map (·.name)
def implCh (a b : List EntryV) : List (List UInt8) := Lib.compact (sortL ((chIn a b ++ chIn b a).map nmD))
theorem putIf_strict (c : EntryV → Bool) : ∀ (r : List EntryV) {out : List ByteArray}, StrictS out → StrictS (putIf c out r) ∧ ∀ x, x ∈ putIf c out r ↔ x ∈ out ∨ ∃ e ∈ r, c e = true ∧ e.name = x
  | [], out, hs => ⟨hs, fun x => by simp [putIf]⟩
  | e :: r, out, hs => by
    simp only [putIf]
    have h0 : StrictS (if c e = true then putS out e.name else out) ∧ ∀ x, x ∈ (if c e = true then putS out e.name else out) ↔ x ∈ out ∨ (c e = true ∧ e.name = x) := by
      split
      · rename_i hc
        obtain ⟨k1, k2⟩ := putS_strict hs e.name
        refine ⟨k1, fun x => ?_⟩
        rw [k2]
        constructor
        · rintro (h | rfl)
          · exact Or.inl h
          · exact Or.inr ⟨hc, rfl⟩
        · rintro (h | ⟨_, rfl⟩)
          · exact Or.inl h
          · exact Or.inr rfl
      · rename_i hc
        refine ⟨hs, fun x => ⟨Or.inl, ?_⟩⟩
        rintro (h | ⟨h, _⟩)
        · exact h
        · exact absurd h hc
    obtain ⟨k1, k2⟩ := putIf_strict c r h0.1
    refine ⟨k1, fun x => ?_⟩
    rw [k2, h0.2]
    simp only [List.mem_cons, exists_eq_or_imp]
    constructor
    · rintro ((h | h) | h)
      · exact Or.inl h
      · exact Or.inr (Or.inl h)
      · exact Or.inr (Or.inr h)
    · rintro (h | h | h)
      · exact Or.inl (Or.inl h)
      · exact Or.inl (Or.inr h)
      · exact Or.inr h
theorem caEq_comm (e x : EntryV) : caEq e x = caEq x e := by
  have h1 : eqN e.name x.name = eqN x.name e.name := by rw [Bool.eq_iff_iff, eqN_iff, eqN_iff]; exact eq_comm
  unfold caEq
  rw [h1, sameQ_comm e x]
  congr 1
  · congr 1
    · congr 1
      rw [decide_eq_decide]; exact eq_comm
    · rw [decide_eq_decide]; exact eq_comm
  · rw [decide_eq_decide]; exact eq_comm
theorem differs_iff {b : List EntryV} (hb : SortedL b) (e : EntryV) : differs b e = true ↔ ∀ x ∈ b, x.name = e.name → caEq e x = false := by
  unfold differs
  cases hat : atB b (placeGo e.name b) e.name with
  | false =>
    simp only [Bool.not_false, Bool.true_or, true_iff]
    intro x hx hn
    have := (found hb e.name x).1 ⟨hx, by show x.name.toList = _; rw [hn]⟩
    rw [hat] at this; cases this.1
  | true =>
    cases hg : b[placeGo e.name b]? with
    | none => rw [atB, hg] at hat; cases hat
    | some x =>
      have hx := (found hb e.name x).2 ⟨hat, hg⟩
      simp only [Bool.not_true, Bool.false_or, Bool.not_eq_true']
      constructor
      · intro h y hy hn
        have h2 := ((found hb e.name y).1 ⟨hy, by show y.name.toList = _; rw [hn]⟩).2
        rw [hg] at h2; injection h2 with h2
        rw [← h2]; exact h
      · intro h
        exact h x hx.1 (eqN_iff.1 (by simp only [eqN, beq_iff_eq]; exact hx.2))
theorem gone_iff {b : List EntryV} (hb : SortedL b) (e : EntryV) : gone b e = true ↔ ∀ x ∈ b, x.name ≠ e.name := by
  unfold gone
  cases hat : atB b (placeGo e.name b) e.name with
  | false =>
    simp only [Bool.not_false, true_iff]
    intro x hx hn
    have := (found hb e.name x).1 ⟨hx, by show x.name.toList = _; rw [hn]⟩
    rw [hat] at this; cases this.1
  | true =>
    simp only [Bool.not_true, Bool.false_eq_true, false_iff]
    intro h
    cases hg : b[placeGo e.name b]? with
    | none => rw [atB, hg] at hat; cases hat
    | some x =>
      have hx := (found hb e.name x).2 ⟨hat, hg⟩
      exact h x hx.1 (eqN_iff.1 (by simp only [eqN, beq_iff_eq]; exact hx.2))
theorem changed_same {a b : List EntryV} (ha : SortedL a) (hb : SortedL b) : implCh a b = (specCh a b).map nmD := by
  obtain ⟨k1, k2⟩ := putIf_strict (differs b) a (out := []) List.Pairwise.nil
  obtain ⟨k3, k4⟩ := putIf_strict (gone a) b k1
  obtain ⟨c1, c2⟩ := compact_sorted _ (sortL_sorted ((chIn a b ++ chIn b a).map nmD))
  refine strict_unique c2 (by rw [List.pairwise_map]; exact k3) (fun x => ?_)
  rw [show implCh a b = Lib.compact (sortL ((chIn a b ++ chIn b a).map nmD)) from rfl, c1, sortL_mem]
  simp only [List.mem_map, List.mem_append, chIn, List.mem_filter, specCh]
  constructor
  · rintro ⟨n, h, rfl⟩
    refine ⟨n, ?_, rfl⟩
    rw [k4, k2]
    rcases h with ⟨e, ⟨he, hd⟩, rfl⟩ | ⟨e, ⟨he, hd⟩, rfl⟩
    · exact Or.inl (Or.inr ⟨e, he, hd, rfl⟩)
    · by_cases hg : gone a e = true
      · exact Or.inr ⟨e, he, hg, rfl⟩
      · left; right
        rw [gone_iff ha] at hg
        simp only [ne_eq, Classical.not_forall, Decidable.not_not] at hg
        obtain ⟨x, hx, hn⟩ := hg
        refine ⟨x, hx, ?_, hn⟩
        rw [differs_iff hb]
        rw [differs_iff ha] at hd
        intro y hy hyn
        have e1 : y = e := by
          have h1 := ((found hb e.name y).1 ⟨hy, by show y.name.toList = _; rw [hyn, hn]⟩).2
          have h2 := ((found hb e.name e).1 ⟨he, rfl⟩).2
          rw [h1] at h2; injection h2
        subst e1
        rw [caEq_comm]
        exact hd x hx hn
  · rintro ⟨n, h, rfl⟩
    refine ⟨n, ?_, rfl⟩
    rw [k4, k2] at h
    rcases h with (h | ⟨e, he, hd, rfl⟩) | ⟨e, he, hg, rfl⟩
    · simp at h
    · exact Or.inl ⟨e, ⟨he, hd⟩, rfl⟩
    · right
      refine ⟨e, ⟨he, ?_⟩, rfl⟩
      rw [differs_iff ha]
      rw [gone_iff ha] at hg
      intro x hx hn
      exact absurd hn (hg x hx)
end Go.Proofs.YtecmolmlojehgaaGreat.T
namespace Go.Proofs.YtecmolmlojehgaaGreat.T
open Go
set_option maxHeartbeats 8000000
attribute [-simp] List.getElem_cons_drop List.map_drop List.map_take List.map_map eqCells
theorem L_caEqual (e x : EntryV) : L0 n_spec_caEqual [argE e, argE x] = some (resB (caEq e x)) := by
  refine L_body (b := b_spec_caEqual) rfl rfl 0 ?_
  intro fuel _
  have hS := L_caSame (hand := handF) e x
  unfold caEq
  cases c1 : eqN e.name x.name with
  | false =>
    have c1' : (e.name.toList == x.name.toList) = false := c1
    simp -implicitDefEqProofs [b_spec_caEqual, c1']
  | true =>
    have c1' : (e.name.toList == x.name.toList) = true := c1
    cases c2 : sameQ e x with
    | false =>
      rw [c2] at hS
      simp -implicitDefEqProofs [b_spec_caEqual, c1', hS]
    | true =>
      rw [c2] at hS
      obtain ⟨xn, xk, xs, xb, xl, xm, xv⟩ := x
      by_cases c3 : e.least = xl
      · subst c3
        by_cases c4 : e.most = xm
        · subst c4
          by_cases c5 : e.version = xv
          · subst c5
            simp -implicitDefEqProofs [b_spec_caEqual, c1', hS]
          · simp -implicitDefEqProofs [b_spec_caEqual, c1', hS, c5]
        · simp -implicitDefEqProofs [b_spec_caEqual, c1', hS, c4]
      · simp -implicitDefEqProofs [b_spec_caEqual, c1', hS, c3]
theorem putS_length (l : List ByteArray) (s : ByteArray) : (putS l s).length ≤ l.length + 1 := by
  unfold putS
  split
  · omega
  · simp; omega
abbrev resS (ok : Bool) (l : List ByteArray) : Res := ⟨[.s (.mk .deep (cStr l)), .s (.mk .imm (.val (.bool ok)))], []⟩
theorem L_specChanged (X Y : Entries) (hxy : X.es.length + Y.es.length ≤ 1000000) :
    L0 n_spec_ChangedSystems [arg (cE X), arg (cE Y)] = some (if catOk (qL X) = true ∧ catOk (qL Y) = true then resS true (specCh X.es Y.es) else resS false []) := by
  refine L_body (b := b_spec_ChangedSystems) rfl rfl (X.es.length + Y.es.length) ?_
  intro fuel hfuel
  cases c1 : catOk (qL X) with
  | false => simp -implicitDefEqProofs [b_spec_ChangedSystems, L_caGood, c1]
  | true =>
  cases c2 : catOk (qL Y) with
  | false => simp -implicitDefEqProofs [b_spec_ChangedSystems, L_caGood, c1, c2]
  | true =>
  simp -implicitDefEqProofs [b_spec_ChangedSystems, L_caGood, c1, c2]
  refine (K_it (fun s : Nat × List ByteArray => [(23, vI s.1), (6, .sv (.ref 64384 [] 0 s.2.length))]) (fun s => [(64384, .arr true false (.fl 1 (s.2.map bStr) []))]) (fun s => some (resS true (putIf (gone X.es) (putIf (differs Y.es) s.2 (X.es.drop s.1)) Y.es))) (fun s => X.es.length - s.1) (fun s => s.1 ≤ X.es.length ∧ s.2.length ≤ s.1) (0, []) ⟨by simp, by simp⟩ (by simp; omega) (by simp) ?_).trans (by simp [specCh])
  rintro ⟨i, out⟩ ⟨hi, hl⟩ K hK
  simp only at hi hl
  by_cases hlt : i < X.es.length
  · rw [drop_cons hlt]
    have hs := wrap_succ (show i < 9223372036854775807 by omega)
    have hP := L_caPlace Y X.es[i].name
    have hA := L_caAt Y (placeGo X.es[i].name Y.es) X.es[i].name
    obtain ⟨k, hk⟩ : ∃ k, k = placeGo X.es[i].name Y.es := ⟨_, rfl⟩
    obtain ⟨ms, hJ, hms⟩ := L_jrPut out X.es[i].name (by omega)
    have hjl := putS_length out X.es[i].name
    rw [← hk] at hP hA
    simp only [putIf]
    cases hat : atB Y.es k X.es[i].name with
    | false =>
      rw [hat] at hA
      have hd : differs Y.es X.es[i] = true := by unfold differs; rw [← hk, hat]; rfl
      rw [if_pos hd]
      have hgo := hK (i + 1, putS out X.es[i].name)
      generalize putS out X.es[i].name = out' at hJ hjl hgo ⊢
      rcases hms with rfl | rfl
      · simp -implicitDefEqProofs [l1_spec_ChangedSystems, hlt, hP, hA, hJ]
        exact hgo _ ⟨by simp; omega, by simp; omega⟩ (by simp; omega) (by simp [hs])
      · simp -implicitDefEqProofs [l1_spec_ChangedSystems, hlt, hP, hA, hJ]
        exact hgo _ ⟨by simp; omega, by simp; omega⟩ (by simp; omega) (by simp [hs])
    | true =>
      rw [hat] at hA
      have hkl : k < Y.es.length := by
        apply Nat.lt_of_not_le
        intro h
        simp [atB, List.getElem?_eq_none h] at hat
      have hE := L_caEqual X.es[i] Y.es[k]
      cases hc : caEq X.es[i] Y.es[k] with
      | false =>
        rw [hc] at hE
        have hd : differs Y.es X.es[i] = true := by unfold differs; rw [← hk, hat, List.getElem?_eq_getElem hkl]; simp only [hc]; rfl
        rw [if_pos hd]
        have hgo := hK (i + 1, putS out X.es[i].name)
        generalize putS out X.es[i].name = out' at hJ hjl hgo ⊢
        rcases hms with rfl | rfl
        · simp -implicitDefEqProofs [l1_spec_ChangedSystems, hlt, hkl, hP, hA, hE, hJ]
          exact hgo _ ⟨by simp; omega, by simp; omega⟩ (by simp; omega) (by simp [hs])
        · simp -implicitDefEqProofs [l1_spec_ChangedSystems, hlt, hkl, hP, hA, hE, hJ]
          exact hgo _ ⟨by simp; omega, by simp; omega⟩ (by simp; omega) (by simp [hs])
      | true =>
        rw [hc] at hE
        have hd : ¬ differs Y.es X.es[i] = true := by unfold differs; rw [← hk, hat, List.getElem?_eq_getElem hkl]; simp [hc]
        rw [if_neg hd]
        simp -implicitDefEqProofs [l1_spec_ChangedSystems, hlt, hkl, hP, hA, hE]
        exact hK (i + 1, out) _ ⟨by simp; omega, by simp; omega⟩ (by simp; omega) (by simp [hs])
  · rw [drop_end hlt]
    simp only [putIf]
    simp -implicitDefEqProofs [l1_spec_ChangedSystems, hlt]
    refine (K_it (fun s : Nat × List ByteArray => [(53, vI s.1), (6, .sv (.ref 1000000 [] 0 s.2.length))]) (fun s => [(1000000, .arr true false (.fl 1 (s.2.map bStr) []))]) (fun s => some (resS true (putIf (gone X.es) s.2 (Y.es.drop s.1)))) (fun s => Y.es.length - s.1) (fun s => s.1 ≤ Y.es.length ∧ s.2.length ≤ X.es.length + s.1) (0, out) ⟨by simp, by simp; omega⟩ (by simp; omega) (by simp) ?_).trans (by simp)
    rintro ⟨j, out2⟩ ⟨hj, hl2⟩ K2 hK2
    simp only at hj hl2
    by_cases hjt : j < Y.es.length
    · rw [drop_cons hjt]
      have hs := wrap_succ (show j < 9223372036854775807 by omega)
      have hP := L_caPlace X Y.es[j].name
      have hA := L_caAt X (placeGo Y.es[j].name X.es) Y.es[j].name
      obtain ⟨k, hk⟩ : ∃ k, k = placeGo Y.es[j].name X.es := ⟨_, rfl⟩
      obtain ⟨ms, hJ, hms⟩ := L_jrPut out2 Y.es[j].name (by omega)
      have hjl := putS_length out2 Y.es[j].name
      rw [← hk] at hP hA
      simp only [putIf]
      cases hat : atB X.es k Y.es[j].name with
      | false =>
        rw [hat] at hA
        have hd : gone X.es Y.es[j] = true := by unfold gone; rw [← hk, hat]; rfl
        rw [if_pos hd]
        have hgo := hK2 (j + 1, putS out2 Y.es[j].name)
        generalize putS out2 Y.es[j].name = out' at hJ hjl hgo ⊢
        rcases hms with rfl | rfl
        · simp -implicitDefEqProofs [l2_spec_ChangedSystems, hjt, hP, hA, hJ]
          exact hgo _ ⟨by simp; omega, by simp; omega⟩ (by simp; omega) (by simp [hs])
        · simp -implicitDefEqProofs [l2_spec_ChangedSystems, hjt, hP, hA, hJ]
          exact hgo _ ⟨by simp; omega, by simp; omega⟩ (by simp; omega) (by simp [hs])
      | true =>
        rw [hat] at hA
        have hd : ¬ gone X.es Y.es[j] = true := by unfold gone; rw [← hk, hat]; simp
        rw [if_neg hd]
        simp -implicitDefEqProofs [l2_spec_ChangedSystems, hjt, hP, hA]
        exact hK2 (j + 1, out2) _ ⟨by simp; omega, by simp; omega⟩ (by simp; omega) (by simp [hs])
    · rw [drop_end hjt]
      simp -implicitDefEqProofs [l2_spec_ChangedSystems, hjt, putIf]
end Go.Proofs.YtecmolmlojehgaaGreat.T
namespace Go.Proofs.YtecmolmlojehgaaGreat.T
open Go
set_option maxHeartbeats 8000000
attribute [-simp] List.getElem_cons_drop List.map_drop List.map_take List.map_map eqCells
theorem L_Sort (ss : List (List UInt8)) (n : Nat) (hn : n = ss.length) (hl : n ≤ 1000000) :
    L0 n_slices_Sort_Sstringstring [own (.fl 1 (ss.map eStr) []) n] = some ⟨[], [some (.arr true false (.fl 1 ((sortL ss).map eStr) []))]⟩ := by
  subst hn
  refine L_hand rfl ?_
  rw [show (prog handF).hand n_slices_Sort_Sstringstring [own (.fl 1 (ss.map eStr) []) ss.length] = handSort [own (.fl 1 (ss.map eStr) []) ss.length] from rfl]
  simp only [handSort, strs_map]
  rw [if_pos ⟨trivial, hl⟩]
theorem L_Compact (ss : List (List UInt8)) (n : Nat) (hn : n = ss.length) (hl : n ≤ 1000000) :
    L0 n_slices_Compact_Sstringstring [own (.fl 1 (ss.map eStr) []) n] = some ⟨[.s (.mk .deep (.fl 1 ((Lib.compact ss).map eStr) []))], [none]⟩ := by
  subst hn
  refine L_hand rfl ?_
  rw [show (prog handF).hand n_slices_Compact_Sstringstring [own (.fl 1 (ss.map eStr) []) ss.length] = handCompact [own (.fl 1 (ss.map eStr) []) ss.length] from rfl]
  simp only [handCompact, strs_map]
  rw [if_pos ⟨trivial, hl, Lib.compact_length_le ss⟩]
theorem eStr_nm (n : ByteArray) : eStr (nmD n) = bStr n := by
  show [Value.string ⟨(n.toList).toArray⟩] = [Value.string n]
  rw [toList_data]
theorem L_changedIn (X Y : Entries) (hx : X.es.length ≤ 1000000) (hy : Y.es.length ≤ 1000000) (sy : SortedL Y.es) (bx : ∀ e ∈ X.es, boxOk (pB e.box) = true) (by' : ∀ e ∈ Y.es, boxOk (pB e.box) = true) :
    L0 n_impl_changedIn [arg (cE X), arg (cE Y)] = some ⟨[.s (.mk .deep (cStr (chIn X.es Y.es)))], []⟩ := by
  refine L_body (b := b_impl_changedIn) rfl rfl X.es.length ?_
  intro fuel hfuel
  simp -implicitDefEqProofs [b_impl_changedIn]
  refine (K_it (fun s : Nat × List ByteArray => [(12, vI s.1), (5, .sv (.ref 64320 [] 0 s.2.length))]) (fun s => [(64320, .arr true false (.fl 1 (s.2.map bStr) []))]) (fun s => some ⟨[.s (.mk .deep (cStr (s.2 ++ chIn (X.es.drop s.1) Y.es)))], []⟩) (fun s => X.es.length - s.1) (fun s => s.1 ≤ X.es.length ∧ s.2.length ≤ s.1) (0, []) ⟨by simp, by simp⟩ (by simp; omega) (by simp) ?_).trans (by simp)
  rintro ⟨i, out⟩ ⟨hi, hl⟩ K hK
  simp only at hi hl
  by_cases hlt : i < X.es.length
  · rw [drop_cons hlt]
    have hs := wrap_succ (show i < 9223372036854775807 by omega)
    have hE : L0 n_impl_entryPlace [arg (cE Y), argV (.string X.es[i].name)] = _ := L_entryPlace Y X.es[i].name hy (place_mono _ sy)
    have hbx := bx _ (List.getElem_mem hlt)
    obtain ⟨k, hk⟩ : ∃ k, k = placeGo X.es[i].name Y.es := ⟨_, rfl⟩
    rw [← hk] at hE
    have hm1 : (out.length + 1) * 16 ≤ 140737488355328 := by omega
    have hm2 : out.length + 1 ≤ 9223372036854775807 := by omega
    have yes : differs Y.es X.es[i] = true → out ++ chIn (X.es[i] :: X.es.drop (i + 1)) Y.es = (out ++ [X.es[i].name]) ++ chIn (X.es.drop (i + 1)) Y.es := by
      intro h
      simp only [chIn, List.filter_cons, h, if_true, List.map_cons, List.append_assoc, List.singleton_append]
    have no : ¬ differs Y.es X.es[i] = true → out ++ chIn (X.es[i] :: X.es.drop (i + 1)) Y.es = out ++ chIn (X.es.drop (i + 1)) Y.es := by
      intro h
      simp only [chIn, List.filter_cons, if_neg h]
    have hon : (out ++ [X.es[i].name]).map bStr = out.map bStr ++ [[.string X.es[i].name]] := by simp
    cases hat : atB Y.es k X.es[i].name with
    | false =>
      rw [hat] at hE
      have hd : differs Y.es X.es[i] = true := by unfold differs; rw [← hk, hat]; rfl
      rw [yes hd]
      have hgo := hK (i + 1, out ++ [X.es[i].name])
      simp -implicitDefEqProofs [l1_impl_changedIn, hlt, hE, hm1, hm2]
      exact (hgo _ ⟨by simp; omega, by simp; omega⟩ (by simp; omega) (by simp [hs])).trans (by simp)
    | true =>
      rw [hat] at hE
      have hkl : k < Y.es.length := by
        apply Nat.lt_of_not_le
        intro h
        simp [atB, List.getElem?_eq_none h] at hat
      have hnm : eqN X.es[i].name Y.es[k].name = true := by
        simp only [atB, List.getElem?_eq_getElem hkl] at hat
        rw [eqN_iff] at hat ⊢
        exact hat.symm
      have hS : L0 n_impl_sameSystem [.imm (.s (.pm (eE X.es[i]) 0)), .imm (.s (.pm (eE Y.es[k]) 0))] = some (resB (sameQ X.es[i] Y.es[k])) := L_sameSystem (hand := handF) X.es[i] Y.es[k] hbx (by' _ (List.getElem_mem hkl))
      have hdf : differs Y.es X.es[i] = !caEq X.es[i] Y.es[k] := by unfold differs; rw [← hk, hat, List.getElem?_eq_getElem hkl]; simp
      have hce : caEq X.es[i] Y.es[k] = (sameQ X.es[i] Y.es[k] && decide (X.es[i].least = Y.es[k].least) && decide (X.es[i].most = Y.es[k].most) && decide (X.es[i].version = Y.es[k].version)) := by unfold caEq; rw [hnm, Bool.true_and]
      have hgo := hK (i + 1, out ++ [X.es[i].name])
      have hgo0 := hK (i + 1, out)
      cases c2 : sameQ X.es[i] Y.es[k] with
      | false =>
        have hd : differs Y.es X.es[i] = true := by rw [hdf, hce, c2]; rfl
        rw [c2] at hS
        rw [yes hd]
        simp -implicitDefEqProofs [l1_impl_changedIn, hlt, hkl, hE, hS, hm1, hm2]
        exact (hgo _ ⟨by simp; omega, by simp; omega⟩ (by simp; omega) (by simp [hs])).trans (by simp)
      | true =>
        rw [c2] at hS
        by_cases c3 : X.es[i].least = Y.es[k].least
        · by_cases c4 : X.es[i].most = Y.es[k].most
          · by_cases c5 : X.es[i].version = Y.es[k].version
            · have hd : ¬ differs Y.es X.es[i] = true := by rw [hdf, hce, c2]; simp [c3, c4, c5]
              rw [no hd]
              simp -implicitDefEqProofs [l1_impl_changedIn, hlt, hkl, hE, hS, c3, c4, c5]
              exact (hgo0 _ ⟨by simp; omega, by simp; omega⟩ (by simp; omega) (by simp [hs])).trans (by simp)
            · have hd : differs Y.es X.es[i] = true := by rw [hdf, hce, c2]; simp [c5]
              rw [yes hd]
              simp -implicitDefEqProofs [l1_impl_changedIn, hlt, hkl, hE, hS, c3, c4, c5, hm1, hm2]
              exact (hgo _ ⟨by simp; omega, by simp; omega⟩ (by simp; omega) (by simp [hs])).trans (by simp)
          · have hd : differs Y.es X.es[i] = true := by rw [hdf, hce, c2]; simp [c4]
            rw [yes hd]
            simp -implicitDefEqProofs [l1_impl_changedIn, hlt, hkl, hE, hS, c3, c4, hm1, hm2]
            exact (hgo _ ⟨by simp; omega, by simp; omega⟩ (by simp; omega) (by simp [hs])).trans (by simp)
        · have hd : differs Y.es X.es[i] = true := by rw [hdf, hce, c2]; simp [c3]
          rw [yes hd]
          simp -implicitDefEqProofs [l1_impl_changedIn, hlt, hkl, hE, hS, c3, hm1, hm2]
          exact (hgo _ ⟨by simp; omega, by simp; omega⟩ (by simp; omega) (by simp [hs])).trans (by simp)
  · rw [drop_end hlt]
    simp -implicitDefEqProofs [l1_impl_changedIn, hlt, chIn]
theorem chIn_length (a b : List EntryV) : (chIn a b).length ≤ a.length := by
  unfold chIn
  rw [List.length_map]
  exact List.length_filter_le _ _
theorem L_implChanged (X Y : Entries) (hxy : X.es.length + Y.es.length ≤ 1000000) (sx : catOk (qL X) = true → SortedL X.es) (sy : catOk (qL Y) = true → SortedL Y.es) (bx : catOk (qL X) = true → ∀ e ∈ X.es, boxOk (pB e.box) = true) (by' : catOk (qL Y) = true → ∀ e ∈ Y.es, boxOk (pB e.box) = true) :
    L0 n_impl_ChangedSystems [arg (cE X), arg (cE Y)] = some (if catOk (qL X) = true ∧ catOk (qL Y) = true then resS true (specCh X.es Y.es) else resS false []) := by
  refine L_body (b := b_impl_ChangedSystems) rfl rfl 0 ?_
  intro fuel _
  cases c1 : catOk (qL X) with
  | false => simp -implicitDefEqProofs [b_impl_ChangedSystems, L_isCatalogue, c1]
  | true =>
  cases c2 : catOk (qL Y) with
  | false => simp -implicitDefEqProofs [b_impl_ChangedSystems, L_isCatalogue, c1, c2]
  | true =>
  have h1 := L_changedIn X Y (by omega) (by omega) (sy c2) (bx c1) (by' c2)
  have h2 := L_changedIn Y X (by omega) (by omega) (sx c1) (by' c2) (bx c1)
  have k1 := chIn_length X.es Y.es
  have k2 := chIn_length Y.es X.es
  obtain ⟨ns, hns⟩ : ∃ ns, ns = chIn X.es Y.es ++ chIn Y.es X.es := ⟨_, rfl⟩
  have hnl : ns.length = (chIn X.es Y.es).length + (chIn Y.es X.es).length := by rw [hns]; simp
  have hcast : ∀ l : List ByteArray, (l.map nmD).map eStr = l.map bStr := fun l => by
    rw [List.map_map]
    apply List.map_congr_left
    intro x _
    exact eStr_nm x
  have hSort := L_Sort (ns.map nmD) ns.length (by simp) (by omega)
  rw [hcast] at hSort
  have hCompact := L_Compact (sortL (ns.map nmD)) ns.length (by rw [sortL_length]; simp) (by omega)
  have hres : (Lib.compact (sortL (ns.map nmD))).map eStr = (specCh X.es Y.es).map bStr := by
    rw [hns, ← hcast (specCh X.es Y.es), ← changed_same (sx c1) (sy c2)]; rfl
  rw [hres] at hCompact
  have hm1 : ns.length * 16 ≤ 140737488355328 := by omega
  have hm2 : ns.length ≤ 9223372036854775807 := by omega
  have happ : (chIn X.es Y.es).map bStr ++ (chIn Y.es X.es).map bStr = ns.map bStr := by rw [hns, List.map_append]
  obtain ⟨R, hR⟩ : ∃ R, R = (sortL (ns.map nmD)).map eStr := ⟨_, rfl⟩
  have hRl : R.length = ns.length := by rw [hR]; simp [sortL_length]
  rw [← hR] at hSort hCompact
  have hT : R.take ns.length = R := by rw [← hRl]; exact List.take_length
  have hD : R.drop ns.length = [] := by rw [← hRl]; exact List.drop_length
  simp -implicitDefEqProofs [b_impl_ChangedSystems, L_isCatalogue, c1, c2, h1, h2, happ, ← hnl, hm1, hm2, hSort, hCompact, hRl, hT, hD]
end Go.Proofs.YtecmolmlojehgaaGreat.T
namespace Go.Proofs.YtecmolmlojehgaaGreat.T
open Go
set_option maxHeartbeats 4000000
theorem row_ext {α : Type} {a b : Row α} (h1 : a.es = b.es) (h2 : a.sp = b.sp) : a = b := by
  cases a; cases b; simp only at h1 h2; subst h1 h2; rfl
theorem bareRow_congr {α : Type} {a b : Row α} (h : a.es = b.es) : bareRow a = bareRow b := row_ext h rfl
theorem bare_to (e : EntryV) (b : Bool) (h : SmallE e) : bareE (toEntryV e b) = bareE e := by
  obtain ⟨⟨h1, h2⟩, h3, h4⟩ := h
  have e1 : bareS (toSys e.system b) = bareS e.system := by
    refine row_ext ?_ rfl
    simp only [bareS_es]
    rw [toSys_es _ _ h1, List.map_map]
    apply List.map_congr_left
    intro p hp
    exact bareRow_congr (toPoly_es p b (h2 p hp))
  have e2 : bareB (toBoxV e.box b) = bareB e.box := by
    simp only [bareB, toBoxV]
    rw [bareRow_congr (toInts_es _ _ h3), bareRow_congr (toInts_es _ _ h4)]
  simp only [bareE, toEntryV, e1, e2]
theorem bares_to (a : Entries) (b : Bool) (h : a.es.length ≤ 1000000) (hp : ∀ e ∈ a.es, SmallE e) : (toEntries a b).es.map bareE = a.es.map bareE := by
  rw [toEntries_es a b h, List.map_map]
  apply List.map_congr_left
  intro e he
  exact bare_to e b (hp e he)
/-- What is known of a catalogue of bounded size and of its copies. -/
structure CatP (a X Y : Entries) : Prop where
  len : a.es.length ≤ nEntries a
  lX : X.es.length = a.es.length
  lY : Y.es.length = a.es.length
  small : ∀ e ∈ a.es, SmallE e
  pX : ∀ e ∈ X.es, SmallE e
  pY : ∀ e ∈ Y.es, SmallE e
  qX : qL X = qL a
  qY : qL Y = qL a
  bX : X.es.map bareE = a.es.map bareE
  bY : Y.es.map bareE = a.es.map bareE
  toX : L0 n_laws_toEntryS [arg (cE a), argV (.bool false)] = some ⟨[.s (.mk .deep (cE X))], []⟩
  toY : L0 n_laws_toEntryS [arg (cE a), argV (.bool true)] = some ⟨[.s (.mk .deep (cE Y))], []⟩
  int : L0 n_laws_intactEntryS [arg (cE X), arg (cE X)] = some (resB true)
  mark : ∀ k, 0 < k → k ≤ 1000000000 → ∃ (m : Nat) (M : List (List C)), m ≤ k + 9 * nEntries a ∧ k ≤ m ∧ X.es.length + X.sp.length ≤ M.length ∧ L0 n_laws_markEntryS [own (.sl 8 (X.es.map eE ++ X.sp.map eE) []) X.es.length, argI k] = some (backI m (.sl 8 M []))
theorem catP (a : Entries) (hN : nEntries a ≤ 1000000) : CatP a (toEntries a false) (toEntries a true) := by
  have hl0 : a.es.length ≤ nEntries a := by unfold nEntries; omega
  have hl : a.es.length ≤ 1000000 := by omega
  have hp : ∀ e ∈ a.es, SmallE e := by
    intro e he
    have h3 : nEntry e ≤ 1000000 := by have := mem_le_sum (f := nEntry) he; unfold nEntries at hN; omega
    simp only [nEntry, nSys, nBox] at h3
    refine ⟨⟨by omega, fun p hp => ?_⟩, by omega, by omega⟩
    have h4 := mem_le_sum (f := nPoly) hp
    have h5 : p.es.length = nPoly p := rfl
    omega
  have hcnt : ∀ k, endL cntE k a.es ≤ k + 9 * nEntries a := by
    intro k
    have := sum_le_of (l := a.es) (f := cntE) (g := nEntry) (c := 4) (d := 5) (fun e _ => cntE_le e)
    unfold endL
    unfold nEntries
    omega
  have sm : ∀ b, ∀ e ∈ (toEntries a b).es, SmallE e := by
    intro b e he
    rw [toEntries_es a b hl, List.mem_map] at he
    obtain ⟨x, hx, rfl⟩ := he
    exact small_to (hp x hx) _
  have ln : ∀ b, (toEntries a b).es.length = a.es.length := by intro b; rw [toEntries_es a b hl]; simp
  refine ⟨hl0, ln _, ln _, hp, sm _, sm _, qL_to a _ hl hp, qL_to a _ hl hp, bares_to a _ hl hp, bares_to a _ hl hp, L_toEntryS (hand := handF) a false hl hp, L_toEntryS (hand := handF) a true hl hp, L_intactEntryS (hand := handF) _ (roomy_to hl hp), fun k hk0 hk => ?_⟩
  have hq : endL cntE k (toEntries a false).es = endL cntE k a.es := endL_q (qL_to a false hl hp) k
  have h9 := hcnt k
  have hmk := L_markEntryS (hand := handF) (toEntries a false) k hk0 (by rw [ln]; exact hl) (sm _) (by rw [hq]; omega)
  have lM : (markEs k (toEntries a false)).es.length = (toEntries a false).es.length := markL_length _ _ _ _
  refine ⟨_, (markEs k (toEntries a false)).es.map eE ++ (markEs k (toEntries a false)).sp.map eE, by rw [← hq] at h9; exact h9, by unfold endL; omega, ?_, hmk⟩
  rw [List.length_append, List.length_map, List.length_map, lM, markEs_sp]
  exact Nat.le_refl _
/-- What is known of a result: bare entries, marked and read. -/
structure OutP (W : List EntryV) (m : Nat) (M : List (List C)) : Prop where
  eq : L0 n_laws_eqEntryS [arg (.sl 8 (W.map eE) []), arg (.sl 8 (W.map eE) [])] = some (resB true)
  mark : L0 n_laws_markEntryS [own (.sl 8 (W.map eE) []) (W.map eE).length, argI 101] = some (backI m (.sl 8 M []))
  held : L0 n_laws_heldEntryS [arg (.sl 8 M []), argI 101] = some (resI (m : Int))
  len : M.length = (W.map eE).length
theorem outP (W : List EntryV) (hl : W.length ≤ 1000000) (hp : ∀ e ∈ W, SmallE e) : ∃ m M, OutP W m M := by
  obtain ⟨R, hR⟩ : ∃ R : Entries, R = ⟨W, [], by simp; omega⟩ := ⟨_, rfl⟩
  have e1 : R.es = W := by rw [hR]
  have e2 : R.sp = [] := by rw [hR]
  have hc : ∀ e ∈ W, cntE e ≤ 4000002000010 := by
    intro e he
    obtain ⟨⟨h1, h2⟩, h3, h4⟩ := hp e he
    have h5 : (e.system.es.map cntP).sum ≤ 0 * (e.system.es.map nPoly).sum + 4000000 * e.system.es.length := sum_le_of (fun p hp => by have := h2 p hp; simp [cntP]; omega)
    unfold cntE
    omega
  have hk : endL cntE 101 R.es < 4611686018427387904 := by
    have h6 : (W.map cntE).sum ≤ 0 * (W.map nEntry).sum + 4000002000010 * W.length := sum_le_of (fun e he => by have := hc e he; omega)
    rw [e1]
    unfold endL
    omega
  have hpR : ∀ e ∈ R.es, SmallE e := by rw [e1]; exact hp
  have hEq := L_eqEntryS (hand := handF) R R
  have hM := L_markEntryS (hand := handF) R 101 (by omega) (by rw [e1]; exact hl) hpR hk
  have hH := L_heldEntryS (hand := handF) R 101 (by omega) (by rw [e1]; exact hl) hpR hk
  have c1 : cE R = .sl 8 (W.map eE) [] := by unfold cE; rw [e1, e2]; rfl
  have c2 : wE R = .sl 8 (W.map eE) [] := by unfold wE; rw [e1, e2]; simp
  have c3 : cE (markEs 101 R) = .sl 8 ((markEs 101 R).es.map eE) [] := by unfold cE; rw [markEs_sp, e2]; rfl
  have c4 : wE (markEs 101 R) = .sl 8 ((markEs 101 R).es.map eE) [] := by unfold wE; rw [markEs_sp, e2]; simp
  have lM : (markEs 101 R).es.length = R.es.length := markL_length _ _ _ _
  rw [c1] at hEq
  rw [c2, c4, e1] at hM
  rw [c3] at hH
  simp only [beq_self_eq_true] at hEq
  refine ⟨endL cntE 101 R.es, (markEs 101 R).es.map eE, hEq, ?_, hH, ?_⟩
  · rw [List.length_map, e1]; exact hM
  · rw [List.length_map, List.length_map, lM, e1]
end Go.Proofs.YtecmolmlojehgaaGreat.T
namespace Go.Proofs.YtecmolmlojehgaaGreat.T
open Go
set_option maxHeartbeats 16000000
attribute [-simp] List.getElem_cons_drop List.map_drop List.map_take List.map_map eqCells
theorem putIf_length (c : EntryV → Bool) : ∀ (r : List EntryV) (out : List ByteArray), (putIf c out r).length ≤ out.length + r.length
  | [], out => by simp [putIf]
  | e :: r, out => by
    have h := putIf_length c r (if c e = true then putS out e.name else out)
    have h2 := putS_length out e.name
    simp only [putIf, List.length_cons]
    split at h <;> simp_all <;> omega
theorem cat_boxes {L : Entries} (h : catOk (qL L) = true) : ∀ e ∈ L.es, boxOk (pB e.box) = true := by
  intro e he
  simp only [catOk, Bool.and_eq_true] at h
  have h4 := catGo_all h.1 _ (List.mem_map_of_mem (f := qE) he)
  simp only [entryOk, bothOk, Bool.and_eq_true] at h4
  exact h4.2.1.2.1
theorem atB_bare' (l : List EntryV) (k : Nat) (n : ByteArray) : atB (l.map bareE) k n = atB l k n := atB_bare l k n
theorem caEq_bare (e x : EntryV) : caEq (bareE e) (bareE x) = caEq e x := by
  unfold caEq
  rw [sameQ_bare]; rfl
theorem differs_bare (b : List EntryV) (e : EntryV) : differs (b.map bareE) (bareE e) = differs b e := by
  unfold differs
  rw [bareE_name, placeGo_bare, atB_bare, List.getElem?_map]
  cases b[placeGo e.name b]? with
  | none => rfl
  | some x => simp only [Option.map_some, caEq_bare]
theorem gone_bare (b : List EntryV) (e : EntryV) : gone (b.map bareE) (bareE e) = gone b e := by
  unfold gone
  rw [bareE_name, placeGo_bare, atB_bare]
theorem putIf_bare {c c' : EntryV → Bool} (h : ∀ e, c' (bareE e) = c e) : ∀ (r : List EntryV) (out : List ByteArray), putIf c' out (r.map bareE) = putIf c out r
  | [], out => rfl
  | e :: r, out => by
    simp only [List.map_cons, putIf, h, bareE_name]
    exact putIf_bare h r _
theorem specCh_bare (a b : List EntryV) : specCh (a.map bareE) (b.map bareE) = specCh a b := by
  unfold specCh
  rw [putIf_bare (gone_bare a), putIf_bare (differs_bare b)]
theorem L_law9 (a b : Entries) (hla : a.es.length ≤ 140737488355328) (hlb : b.es.length ≤ 140737488355328) : L0 n_laws_FnExactChangedSystems [arg (cE a), arg (cE b)] = some (resB true) := by
  refine L_body (b := b_laws_FnExactChangedSystems) rfl rfl 0 ?_
  intro fuel _
  have hs := L_szEntryS (hand := handF) a 1000000 (by omega) (by omega)
  by_cases h2 : (1000000 : Int) - nEntries a < 0
  · rw [less_neg h2] at hs
    simp -implicitDefEqProofs [b_laws_FnExactChangedSystems, hs]
  rw [less_pos h2] at hs
  have hs2 := L_szEntryS (hand := handF) b (1000000 - nEntries a) (by omega) (by omega)
  by_cases h3 : (1000000 : Int) - nEntries a - nEntries b < 0
  · rw [less_neg h3] at hs2
    simp -implicitDefEqProofs [b_laws_FnExactChangedSystems, hs, hs2, h2]
  rw [less_pos h3] at hs2
  have cA := catP a (by omega)
  have cB := catP b (by omega)
  generalize toEntries a false = A1 at cA
  generalize toEntries a true = A2 at cA
  generalize toEntries b false = B1 at cB
  generalize toEntries b true = B2 at cB
  have hab : a.es.length + b.es.length ≤ 1000000 := by have := cA.len; have := cB.len; omega
  have hSpec := L_specChanged A1 B1 (by rw [cA.lX, cB.lX]; exact hab)
  have hImpl := L_implChanged A1 B1 (by rw [cA.lX, cB.lX]; exact hab) cat_sorted cat_sorted cat_boxes cat_boxes
  have hImpl2 := L_implChanged A2 B2 (by rw [cA.lY, cB.lY]; exact hab) cat_sorted cat_sorted cat_boxes cat_boxes
  rw [← specCh_bare, cA.qY, cB.qY, cA.bY, cB.bY, specCh_bare] at hImpl2
  rw [← specCh_bare, cA.qX, cB.qX, cA.bX, cB.bX, specCh_bare] at hSpec hImpl
  obtain ⟨ok, W, hr, hWl⟩ : ∃ ok W, (if catOk (qL a) = true ∧ catOk (qL b) = true then resS true (specCh a.es b.es) else resS false []) = resS ok W ∧ W.length ≤ 1000000 := by
    by_cases h : catOk (qL a) = true ∧ catOk (qL b) = true
    · refine ⟨true, _, if_pos h, ?_⟩
      have k1 := putIf_length (differs b.es) a.es []
      have k2 := putIf_length (gone a.es) b.es (putIf (differs b.es) [] a.es)
      unfold specCh
      simp at k1
      omega
    · exact ⟨false, [], if_neg h, by simp⟩
  rw [hr] at hSpec hImpl hImpl2
  clear hr
  obtain ⟨m1, MA, kb1, kc1, la, hMA⟩ := cA.mark 101 (by omega) (by omega)
  obtain ⟨m2, MB, kb2, kc2, lb, hMB⟩ := cB.mark m1 (by omega) (by omega)
  have hMA : L0 n_laws_markEntryS [own (.sl 8 (A1.es.map eE ++ A1.sp.map eE) []) A1.es.length, argI 101] = some (backI m1 (.sl 8 MA [])) := hMA
  have hTA := cA.toX
  have hTA2 := cA.toY
  have hTB := cB.toX
  have hTB2 := cB.toY
  have hIA := cA.int
  have hIB := cB.int
  clear cA cB
  have hEq := L_eqStringS W hWl
  have hMW := L_markStringS W 101 (by omega) hWl (by omega)
  have hHW := L_heldStringS W.length 101 (by omega) hWl (by omega)
  obtain ⟨m, hm⟩ : ∃ m, m = 101 + W.length := ⟨_, rfl⟩
  rw [← hm] at hMW hHW
  obtain ⟨M, hM⟩ : ∃ M, M = (mS 101 W.length).map bStr := ⟨_, rfl⟩
  have lM : M.length = W.length := by rw [hM]; simp [mS_length]
  have hMW : L0 n_laws_markStringS [own (.fl 1 (W.map bStr) []) W.length, argI 101] = some (backI m (.fl 1 M [])) := by rw [hM]; exact hMW
  have hHW : L0 n_laws_heldStringS [arg (.fl 1 M []), argI 101] = some (resI (m : Int)) := by rw [hM]; exact hHW
  clear hM hm
  simp only [resS, cStr] at hSpec hImpl hImpl2
  obtain ⟨G, hG⟩ : ∃ G, G = W.map bStr := ⟨_, rfl⟩
  have lG : W.length = G.length := by rw [hG]; simp
  have hEq : L0 n_laws_eqStringS [arg (.fl 1 G []), arg (.fl 1 G [])] = some (resB true) := by rw [hG]; exact hEq
  rw [lG] at hMW lM
  rw [← hG] at hSpec hImpl hImpl2 hMW
  clear hG lG hWl
  have tG : G.take G.length = G := List.take_length
  have dG : G.drop G.length = [] := List.drop_length
  have tM : M.take G.length = M := by rw [← lM]; exact List.take_length
  have dM : M.drop G.length = [] := by rw [← lM]; exact List.drop_length
  have hm0 : ¬ ((m : Int) < 0) := by omega
  have hm20 : ¬ ((m2 : Int) < 0) := by omega
  simp -implicitDefEqProofs [b_laws_FnExactChangedSystems, hs, hs2, h2, h3, hTA, hTB, hTA2, hTB2, hSpec, hImpl, hImpl2, hIA, hIB, hMA, hMB, hEq, hMW, hHW, tG, dG, tM, dM, hm0, hm20, lM, la, lb]
end Go.Proofs.YtecmolmlojehgaaGreat.T
namespace Go.Proofs.YtecmolmlojehgaaGreat.T
open Go
section
variable {P : Program} {w : World} {home : Home} {hd : Lb → Value} {rt : Rts}
theorem cmpB_eq : ∀ a b : List UInt8, Lib.compareBytes a b = if Op.bytesLess a b then -1 else if a == b then 0 else 1
  | [], [] => rfl
  | [], _ :: _ => rfl
  | _ :: _, [] => by simp [Lib.compareBytes, Op.bytesLess]
  | x :: a, y :: b => by
    have ih := cmpB_eq a b
    unfold Lib.compareBytes Op.bytesLess
    by_cases h : x < y
    · simp [h]
    · by_cases e : x = y
      · subst e
        simp only [h, if_false, ih, decide_false, Bool.false_or, beq_self_eq_true, Bool.true_and, List.cons_beq_cons]
      · have h2 : y < x := UInt8.lt_of_le_of_ne (UInt8.not_lt.1 h) (Ne.symm e)
        simp [h, h2, e]
theorem sat_cmp {f : FuncId} {fn : Func} (hf : P.funcs[f]? = some fn) (hname : (fn.name == "runtime.NumGoroutine") = false) (hb : fn.body.isNone = true) (hn : Extern.findNext fn = none) (he : Extern.find fn = some Extern.BytealgCompare.compare) (a b : ByteArray) :
    Sat ids P f [argV (.string a), argV (.string b)] (resI (cmpN a b)) := by
  intro w home hd vs hlen hrel hargs _
  match vs, hlen with
  | [u, v], _ =>
    have h1 := hargs 0 _ u rfl rfl
    have h2 := hargs 1 _ v rfl rfl
    have e1 : u = .string a := svR_val (w := w) (home := home) (hd := hd) (rt := (initFr [argV (.string a), argV (.string b)]).rt) h1
    have e2 : v = .string b := svR_val (w := w) (home := home) (hd := hd) (rt := (initFr [argV (.string a), argV (.string b)]).rt) h2
    subst e1 e2
    refine Or.inr ⟨.int .i64 (cmpN a b), w, ?_, home, hd, F0, [.int .i64 (cmpN a b)], rfl, ?_⟩
    · rw [run_callFunc_extern hf hname hb hn he, Lib.run_compareString, cmpB_eq]
      simp only [cmpN, lessN, Lib.toList_data, Result.andThen_ok]
    · refine ⟨hrel, ⟨[.int .i64 (cmpN a b)], rfl, fun j o c v hc hv => ?_, ⟨_, [], [], rfl, rfl, rfl, rfl⟩⟩, fun j r h => (by cases h), rfl, rfl, rfl, Nat.le_refl _, fun _ _ h => ⟨rfl, h⟩, fun _ _ _ h => ⟨rfl, h⟩, fun _ _ _ _ _ => rfl⟩
      match j with
      | 0 =>
        simp only [resI, cellsOf, List.getElem?_cons_zero, Option.some.injEq, RC.mk.injEq] at hc hv
        obtain ⟨rfl, rfl⟩ := hc
        subst hv
        exact ⟨Or.inl ⟨rfl, CR.val rfl⟩, fun h => absurd rfl h⟩
      | j + 1 => simp [resI, cellsOf] at hc
def pc0 (sz : Nat) : PC := .ops [o 2 (.mkn (.fl sz))] [0]
def pc2 (sz : Nat) : PC := .seq (.ops [o 2 (.mkn (.fl sz))] [2]) .ret
def pc3 (sz bytes : Nat) : PC := .seq (.ops [o 5 (.bs (.fl sz) []), o 6 (.mv (.t 0)), o 7 (.app (.fl sz) bytes (.t 5) (.t 6)), o 2 (.mv (.t 7))] [2]) .ret
def noCall : Call := fun _ _ => none
def fr1 (c : C) : Fr := ⟨asl [(0, .v (.s (.c c)))], asl [], []⟩
def fr2 (c : C) : Fr := ⟨upd (fr1 c).sl 3 (.v (.s (.c c))), asl [], []⟩
def fr3 (c : C) (b : Bool) : Fr := ⟨upd (fr2 c).sl 4 (.sv (.v (.bool b))), asl [], []⟩
def pfC : PFunc := ⟨1, 8, .skip, [.t 2]⟩
theorem run0 (sz : Nat) (c : C) : runC noCall 0 (pc0 sz) (initFr [.imm (.s (.c c))]) = some (.normal, fr1 c) := by
  simp [pc0, runC, Fr.steps, fr1]
theorem run1 (c : C) : (fr1 c).step noCall (o 3 (.mv (.t 0))) = some (fr2 c) := by
  simp [fr1, fr2]
theorem of_runK {pc : PC} {fr : Fr} {r : Res} (h : runK noCall 0 pc (kRes [.t 2]) fr = some r) : ∃ e fr', runC noCall 0 pc fr = some (e, fr') ∧ (e = .normal ∨ e = .ret) ∧ finish pfC fr' = some r := by
  rw [runK_eq] at h
  cases hc : runC noCall 0 pc fr with
  | none => rw [hc] at h; cases h
  | some x =>
    obtain ⟨e, fr'⟩ := x
    rw [hc] at h
    refine ⟨e, fr', rfl, ?_⟩
    cases e with
    | normal => exact ⟨Or.inl rfl, h⟩
    | ret => exact ⟨Or.inr rfl, h⟩
    | exit i => cases h
theorem run2 (sz : Nat) (c : C) (b : Bool) : runK noCall 0 (pc2 sz) (kRes [.t 2]) (fr3 c b) = some ⟨[.s (.mk .deep (.fl sz [] []))], []⟩ := by
  simp [pc2, fr3, fr2, fr1]
theorem run3 (sz bytes : Nat) (es sp : List (List Value)) (b : Bool) (h : es.length * bytes ≤ 140737488355328) (h2 : es.length ≤ 9223372036854775807) :
    runK noCall 0 (pc3 sz bytes) (kRes [.t 2]) (fr3 (.fl sz es sp) b) = some ⟨[.s (.mk .deep (.fl sz es []))], []⟩ := by
  simp [pc3, fr3, fr2, fr1, h, h2]
theorem ops_ret {l : List POp} {k : List Nat} {fr fr' : Fr} {e : Ex} (h : runC noCall 0 (.seq (.ops l k) .ret) fr = some (e, fr')) : e = .ret := by
  simp only [runC] at h
  cases hs : fr.steps noCall l with
  | none => rw [hs] at h; cases h
  | some x => rw [hs] at h; simp at h; exact h.1.symm
theorem sat_clone {f : FuncId} {fn : Func} {code0 code2 code3 : Code} {oA oB : Oper} {i t t2 sz bytes : Nat} (hf : P.funcs[f]? = some fn) (hname : (fn.name == "runtime.NumGoroutine") = false)
    (hb : fn.body = some (.seq code0 (.seq (.seq (.region i #[oA, oB] false) (.cond (.tmp 4) code2 .skip)) code3))) (hN : fn.ntmps = 8)
    (a1 : oA.dst = some 3) (a2 : oA.guard = none) (a3 : oA.op = .move (.tmp 0)) (b1 : oB.dst = some 4) (b2 : oB.guard = none) (b3 : oB.op = .binOp .eql t (.tmp 3) (.const (.slice none 0 0)) t2)
    (ht : ∃ e, P.underlying t = some (.slice e)) (m0 : mC ids P 8 code0 (pc0 sz) = true) (m2 : mC ids P 8 code2 (pc2 sz) = true) (m3 : mC ids P 8 code3 (pc3 sz bytes) = true) (mr : all2 (mRes P) fn.results.toList [.t 2] = true)
    (hbytes : bytes ≤ 64) (hsz : 0 < sz) (es sp : List (List Value)) (hes : es.length ≤ 1000000) :
    Sat ids P f [.imm (.s (.c (.fl sz es sp)))] ⟨[.s (.mk .deep (.fl sz es []))], []⟩ := by
  intro w home hd vs hlen hrel hargs _
  match vs, hlen with
  | [v], _ =>
    obtain ⟨c, hc⟩ : ∃ c, c = C.fl sz es sp := ⟨_, rfl⟩
    rw [← hc] at hrel hargs ⊢
    have hcall : ∀ f args r, noCall f args = some r → SatG ids P (ids f) (shapeOf f) args r := fun f args r h => by cases h
    refine Or.inl ⟨?_, ?_⟩
    · unfold callFunc
      simp only [Sem.run_bind, run_program, Result.andThen_ok, hf, hname, hb, Option.isNone_some, Bool.false_eq_true, if_false, Sem.run_pure]
    · have h0 : CR w home .imm c v := hargs 0 _ v rfl rfl
      have hfr : FrR ids w home hd 8 (initFr [.imm (.s (.c c))]) { tmps := #[v] ++ Array.replicate (8 - 1) undef, defers := [] } := by
        refine ⟨hrel, fun t av ht => ?_, by simp, rfl⟩
        have e : (initFr [.imm (.s (.c c))]).sl t = if t = 0 then some (.v (.s (.c c))) else none := by simp
        rw [e] at ht
        split at ht
        · rename_i e0
          subst e0
          injection ht with ht
          subst ht
          exact ⟨v, rfl, h0, fun i hi => by cases hi⟩
        · cases ht
      refine calls_of_wp hf hb ?_
      rw [hN]
      have fin : ∀ {pc : PC} {code : Code} {fr : Fr} {a : Act} {w1 : World} {home1 : Home} {hd1 : Lb → Value}, mC ids P 8 code pc = true → fr.ps = [] → Grow w home hd (initFr [.imm (.s (.c c))]).rt w1 home1 hd1 fr.rt → FrR ids w1 home1 hd1 8 fr a → runK noCall 0 pc (kRes [.t 2]) fr = some ⟨[.s (.mk .deep (.fl sz es []))], []⟩ →
          ∀ Q : Exit → Act → World → Prop, (∀ (e : Ex) fr' a' w', runC noCall 0 pc fr = some (e, fr') → bodyPost P fn (fun e w' => ∃ v, e = .returned v ∧ ∃ home' hd' F' us, v = retV us ∧ Ret w home hd (initFr [.imm (.s (.c c))]).ps w' home' hd' F' ⟨[.s (.mk .deep (.fl sz es []))], []⟩ us) (exOf e) a' w' → Q (exOf e) a' w') → code.wp P Q a w1 := by
        intro pc code fr a w1 home1 hd1 hm hps hg hfr hrun Q hQ
        obtain ⟨e, fr', hc', he, hfin⟩ := of_runK hrun
        refine runC_ok hcall pc hm hc' hfr (fun a' w' home' hd' g hf' => ?_)
        obtain ⟨us, hr, home2, hd2, F', hret⟩ := finish_ok (P := P) (hg.trans g) hf' (pf := pfC) mr hfin
        rw [runC_ps _ hc', hps] at hret
        rcases he with rfl | rfl
        · exact hQ .normal fr' _ _ hc' ⟨hf'.nd, _, hr, _, rfl, home2, hd2, F', us, rfl, hret⟩
        · exact hQ .ret fr' _ _ hc' ⟨hf'.nd, _, hr, _, rfl, home2, hd2, F', us, rfl, hret⟩
      refine wp_seq (runC_ok hcall (pc0 sz) m0 (run0 sz c) hfr (fun a1' w1 home1 hd1 g1 hf1 => ?_))
      refine wp_seq (wp_seq (wp_region ?_))
      have hr2 : List.range #[oA, oB].size = [0, 1] := rfl
      rw [hr2]
      have hA : mOp ids P 8 #[oA, oB] oA (o 3 (.mv (.t 0))) = true := by
        simp [mOp, mDst, mG, mAny, mPO, mMv, mOpd, a1, a2, a3]
      refine step_ok hcall hf1 hA (run1 c) (fun a2' w2 home2 hd2 g2 hf2 => ?_)
      have hw : Region.wanted oB (yielded #[oA, oB] a2'.tmps) = true := by unfold Region.wanted; rw [b2]
      show if Region.wanted oB (yielded #[oA, oB] a2'.tmps) then _ else _
      rw [hw, if_pos rfl]
      have h3 : CR w2 home2 .imm c (a2'.eval (.tmp 3)) := (hf2.tmp (t := 3) (av := .v (.s (.c c))) (by simp [fr2])).1
      rw [hc] at h3
      cases h3 with
      | fl he hh =>
        obtain ⟨_, hle, ad, cap, hu, hcap, _, hcells⟩ := hh
        obtain ⟨e, hte⟩ := ht
        have hok : OpOk ids P oB a2' w2 home2 hd2 (fr2 c).rt (.sv (.v (.bool ad.isNone))) (fr2 c).rt := by
          refine .value (v := .bool ad.isNone) (w' := w2) ?_ (Step.refl hf2.rel) (avr_v rfl)
          unfold execOp
          rw [b3]
          have hk : a2'.eval (.const (.slice none 0 0)) = .slice none 0 0 := rfl
          simp only [hk, hu, Sem.run_bind, run_eqGuard (u := .slice ad es.length cap) (by simp) (by simp), Result.andThen_ok, binOp, run_equal_slice_nil w2 t e ad es.length cap hte, Sem.run_pure]
        refine Or.inl (hok _ _ (fun v4 w3 home3 hd3 s3 hv4 => ?_))
        have hf3 : FrR ids w3 home3 hd3 8 (fr3 c ad.isNone) (a2'.put oB.dst v4) := by
          have := hf2.put s3 (d := some 4) (fun t e => by injection e with e; subst e; decide) hv4 (fun i hi => by cases hi)
          rw [b1]
          exact this
        have hg3 : Grow w home hd (initFr [.imm (.s (.c c))]).rt w3 home3 hd3 (fr3 c ad.isNone).rt := (g1.trans g2).trans s3.grow
        have ht4 : (a2'.put oB.dst v4).eval (.tmp 4) = .bool ad.isNone := by
          have := (hf3.tmp (t := 4) (av := .sv (.v (.bool ad.isNone))) (by simp [fr3])).1
          exact svR_val (w := w3) (home := home3) (hd := hd3) (rt := (fr3 c ad.isNone).rt) this
        refine wp_cond ht4 ?_
        cases hb0 : ad.isNone with
        | true =>
          have hes0 : es = [] := by
            have hnil : ad = none := by cases ad <;> first | rfl | cases hb0
            subst hnil
            cases es with
            | nil => rfl
            | cons x es =>
              obtain ⟨b, o, h, _⟩ := hcells 0 0 (by simp only [List.length_cons]; omega) hsz
              cases h
          rw [if_pos rfl]
          rw [hb0] at hf3 hg3
          refine fin m2 rfl hg3 hf3 (by rw [hes0]; exact run2 sz c true) _ (fun e fr' a' w' he hp => ?_)
          obtain rfl := ops_ret he
          exact hp
        | false =>
          rw [if_neg (by simp)]
          refine wp_skip ?_
          rw [hb0] at hf3 hg3
          refine fin m3 rfl hg3 hf3 (by rw [hc]; exact run3 sz bytes es sp false (Nat.le_trans (Nat.mul_le_mul hes hbytes) (by decide)) (by omega)) _ (fun e fr' a' w' he hp => ?_)
          obtain rfl := ops_ret he
          exact hp
end
end Go.Proofs.YtecmolmlojehgaaGreat.T
namespace Go.Proofs.YtecmolmlojehgaaGreat.T
open Go
section
variable {P : Program} {f : FuncId}
theorem ok_clone {sz : Nat} (hs : ∀ es sp : List (List Value), es.length ≤ 1000000 → Sat ids P f [.imm (.s (.c (.fl sz es sp)))] ⟨[.s (.mk .deep (.fl sz es []))], []⟩) (args : List Arg) (r : Res) (h : handClone sz args = some r) : Sat ids P f args r := by
  unfold handClone at h
  split at h
  · split at h
    · rename_i hc
      injection h with h
      obtain ⟨rfl, hn⟩ := hc
      subst h
      exact hs _ _ hn
    · cases h
  · cases h
theorem ok_cmp (hs : ∀ a b : ByteArray, Sat ids P f [argV (.string a), argV (.string b)] (resI (cmpN a b))) (args : List Arg) (r : Res) (h : handCmp args = some r) : Sat ids P f args r := by
  unfold handCmp at h
  split at h
  · injection h with h
    subst h
    exact hs _ _
  · cases h
theorem ok_insert {sz : Nat} (hs : ∀ (es : List (List C)) (e : List C) (i : Nat), i ≤ es.length → es.length ≤ 1000000 → Sat ids P f [.arr true (.sl sz es []) es.length, argI i, .arr true (.sl sz [e] []) 1] ⟨[.s (.mk .deep (.sl sz (es.take i ++ [e] ++ es.drop i) []))], [none, none]⟩) (args : List Arg) (r : Res) (h : handInsert sz args = some r) : Sat ids P f args r := by
  unfold handInsert at h
  split at h
  · rename_i s0 es n0 i s1 e
    split at h
    · rename_i hc
      injection h with h
      obtain ⟨rfl, rfl, rfl, h1, h2, h3⟩ := hc
      subst h
      obtain ⟨n, rfl⟩ : ∃ n : Nat, i = n := ⟨i.toNat, by omega⟩
      have := hs es e n (by omega) h3
      simpa using this
    · cases h
  · cases h
theorem ok_sort (hs : ∀ ss : List (List UInt8), ss.length ≤ 1000000 → Sat ids P f [.arr true (.fl 1 (ss.map eStr) []) ss.length] ⟨[], [some (.arr true false (.fl 1 ((sortL ss).map eStr) []))]⟩) (args : List Arg) (r : Res) (h : handSort args = some r) : Sat ids P f args r := by
  unfold handSort at h
  split at h
  · split at h
    · rename_i ss hss
      split at h
      · rename_i hc
        injection h with h
        obtain ⟨rfl, hn⟩ := hc
        subst h
        rw [strs_some hss]
        exact hs ss hn
      · cases h
    · cases h
  · cases h
theorem ok_compact (hs : ∀ ss : List (List UInt8), ss.length ≤ 1000000 → (Lib.compact ss).length ≤ ss.length → Sat ids P f [.arr true (.fl 1 (ss.map eStr) []) ss.length] ⟨[.s (.mk .deep (.fl 1 ((Lib.compact ss).map eStr) []))], [none]⟩) (args : List Arg) (r : Res) (h : handCompact args = some r) : Sat ids P f args r := by
  unfold handCompact at h
  split at h
  · split at h
    · rename_i ss hss
      split at h
      · rename_i hc
        injection h with h
        obtain ⟨rfl, hn, hl⟩ := hc
        subst h
        rw [strs_some hss]
        exact hs ss hn hl
      · cases h
    · cases h
  · cases h
theorem hand_shape {args : List Arg} {r : Res} (l : List (Nat × (List Arg → Option Res))) (hl : l.all (fun x => (shapeOf x.1).isEmpty) = true) (f : Nat) (h : (match l.lookup f with | some g => g args | none => none) = some r) : shapeOf f = [] := by
  split at h
  · rename_i g hg
    have key : ∀ (l : List (Nat × (List Arg → Option Res))), l.lookup f = some g → (f, g) ∈ l := by
      intro l
      induction l with
      | nil => intro h; cases h
      | cons x l ih =>
        intro h
        obtain ⟨k, q⟩ := x
        rw [List.lookup_cons] at h
        split at h
        · rename_i e
          have e := eq_of_beq e
          subst e
          injection h with h
          subst h
          exact List.mem_cons_self
        · exact List.mem_cons_of_mem _ (ih h)
    have := List.all_eq_true.1 hl _ (key l hg)
    simpa using this
  · cases h
theorem ok_nil {args : List Arg} {r : Res} (l : List (Nat × (List Arg → Option Res))) (F : Nat → Nat) (n : Nat) (h : (match l.lookup n with | some g => g args | none => none) = some r) (hl : ∀ x ∈ l, ∀ args r, x.2 args = some r → Sat ids P (F x.1) args r) : Sat ids P (F n) args r := by
  split at h
  · rename_i g hg
    have key : ∀ (l : List (Nat × (List Arg → Option Res))), l.lookup n = some g → (n, g) ∈ l := by
      intro l
      induction l with
      | nil => intro h; cases h
      | cons x l ih =>
        intro h
        obtain ⟨k, q⟩ := x
        rw [List.lookup_cons] at h
        split at h
        · rename_i e
          have e := eq_of_beq e
          subst e
          injection h with h
          subst h
          exact List.mem_cons_self
        · exact List.mem_cons_of_mem _ (ih h)
    exact hl (n, g) (key l hg) args r h
  · cases h
end
end Go.Proofs.YtecmolmlojehgaaGreat.T
namespace Go.Proofs.YtecmolmlojehgaaGreat.T
open Go
section
variable {P : Program}
theorem setCells_heap (b : Nat) : ∀ (vs : List Value) (o : Nat) (w : World) (cur : Array Value) (e : TypeId), w.heap[b]? = some (.cells cur e (0, 0)) → o + vs.length ≤ cur.size →
    ∃ cur2, (w.setCells b o vs).heap[b]? = some (.cells cur2 e (0, 0)) ∧ cur2.size = cur.size ∧ (∀ j, cur2[j]? = if o ≤ j ∧ j < o + vs.length then vs[j - o]? else cur[j]?) ∧ (∀ k, k ≠ b → (w.setCells b o vs).heap[k]? = w.heap[k]?) ∧
      (w.setCells b o vs).heap.size = w.heap.size ∧ (w.setCells b o vs).os = w.os ∧ (w.setCells b o vs).tape = w.tape ∧ (w.setCells b o vs).output = w.output
  | [], o, w, cur, e, hg, _ => ⟨cur, hg, rfl, fun j => by rw [if_neg (by simp)], fun _ _ => rfl, rfl, rfl, rfl, rfl⟩
  | v :: vs, o, w, cur, e, hg, hl => by
    simp only [List.length_cons] at hl
    have h1 := heap_setCell_same w b o cur e v hg
    obtain ⟨cur2, g1, g2, g3, g4, g5, g6, g7, g8⟩ := setCells_heap b vs (o + 1) (w.setCell ⟨b, o, none⟩ v) _ e h1 (by simp; omega)
    refine ⟨cur2, g1, by rw [g2]; simp, fun j => ?_, fun k hk => (g4 k hk).trans (heap_setCell_other w _ k v hk), g5.trans (by simp [World.setCell]), g6, g7, g8⟩
    rw [g3]
    by_cases hj : j = o
    · subst hj
      rw [if_neg (by omega), if_pos (by simp), Nat.sub_self, Array.getElem?_setIfInBounds_self_of_lt (by omega)]
      rfl
    · by_cases hr : o + 1 ≤ j ∧ j < o + 1 + vs.length
      · rw [if_pos hr, if_pos (by simp; omega), show j - o = (j - (o + 1)) + 1 by omega, List.getElem?_cons_succ]
      · rw [if_neg hr, if_neg (by simp; omega), Array.getElem?_setIfInBounds_ne (Ne.symm hj)]
end
theorem frozen_row {w : World} {b j : Nat} {cur : Array Value} {e : TypeId} (h : w.heap[b]? = some (.cells cur e (0, 0))) : w.frozen? ⟨b, j, none⟩ = false := by
  simp [World.frozen?, h]
theorem shape_row {w : World} {b : Nat} {cur : Array Value} {e : TypeId} {f : Nat × Nat} (h : w.heap[b]? = some (.cells cur e f)) : w.shape? b = some (e, cur.size) := by
  simp [World.shape?, h]
/-- What the call leaves: a row in some block, all else as it was. -/
def InsEnd (w : World) (rows : List Value) (n : Nat) (home1 : Home) (v' : Value) (w2 : World) : Prop :=
  ∃ B cap' cur' e1, v' = .slice (some ⟨B, 0, none⟩) n cap' ∧ n ≤ cap' ∧ cap' ≤ maxLen ∧ w2.heap[B]? = some (.cells cur' e1 (0, 0)) ∧ cur'.size = cap' * 8 ∧ (∀ (j : Nat) u, rows[j]? = some u → cur'[j]? = some u) ∧
    (∀ b', b' < w.heap.size → b' ≠ B → w2.heap[b']? = w.heap[b']?) ∧ (B < w.heap.size → home1 B = some (.t 0, [])) ∧ w2.os = w.os ∧ w2.tape = w.tape ∧ w2.output = w.output ∧ w.heap.size ≤ w2.heap.size
theorem getElem?_three {α : Type} (a b c : List α) (j : Nat) : (a ++ b ++ c)[j]? = if j < a.length then a[j]? else if j < a.length + b.length then b[j - a.length]? else c[j - (a.length + b.length)]? := by
  by_cases h1 : j < a.length
  · rw [if_pos h1, List.append_assoc, List.getElem?_append_left h1]
  · rw [if_neg h1]
    by_cases h2 : j < a.length + b.length
    · rw [if_pos h2, List.getElem?_append_left (by rw [List.length_append]; omega), List.getElem?_append_right (by omega)]
    · rw [if_neg h2, List.getElem?_append_right (by rw [List.length_append]; omega), List.length_append]
set_option maxRecDepth 100000 in
set_option maxHeartbeats 2000000 in
theorem sat_insert (es : List (List C)) (e : List C) (i : Nat) (hi : i ≤ es.length) (hes : es.length ≤ 1000000) :
    Sat ids Go.Proofs.Tryz.prog 57 [.arr true (.sl 8 es []) es.length, argI i, .arr true (.sl 8 [e] []) 1] ⟨[.s (.mk .deep (.sl 8 (es.take i ++ [e] ++ es.drop i) []))], [none, none]⟩ := by
  intro w home hd vs hlen hrel hargs himm
  match vs, hlen with
  | [v0, v1, v2], _ =>
    have q0 : SVR w home hd (initFr [.arr true (.sl 8 es []) es.length, argI i, .arr true (.sl 8 [e] []) 1]).rt (.ref 0 [] 0 es.length) v0 := hargs 0 _ v0 rfl rfl
    have q1 : v1 = .int .i64 i := svR_val (w := w) (home := home) (hd := hd) (rt := (initFr [.arr true (.sl 8 es []) es.length, argI i, .arr true (.sl 8 [e] []) 1]).rt) (hargs 1 _ v1 rfl rfl)
    have q2 : SVR w home hd (initFr [.arr true (.sl 8 es []) es.length, argI i, .arr true (.sl 8 [e] []) 1]).rt (.ref 128 [] 0 1) v2 := hargs 2 _ v2 rfl rfl
    subst q1
    have hps : (initFr [.arr true (.sl 8 es []) es.length, argI i, .arr true (.sl 8 [e] []) 1]).ps = [0, 128] := rfl
    obtain ⟨rt, hrt⟩ : ∃ rt, rt = (initFr [.arr true (.sl 8 es []) es.length, argI i, .arr true (.sl 8 [e] []) 1]).rt := ⟨_, rfl⟩
    have r0 : rt 0 = some (.arr true false (.sl 8 es [])) := by rw [hrt]; rfl
    have r2 : rt 128 = some (.arr true false (.sl 8 [e] [])) := by rw [hrt]; rfl
    have r3 : rt 64000 = none := by rw [hrt]; rfl
    rw [← hrt] at hrel q0 q2
    rw [hps]
    have htk : takes rt [.ref 0 [] 0 es.length, .ref 128 [] 0 1] = some ([(.deep, .sl 8 es []), (.deep, .sl 8 [e] [])], upd (upd rt 0 .gone) 128 .gone) := by
      have h128 : upd rt 0 .gone 128 = some (.arr true false (.sl 8 [e] [])) := by rw [updF_ne _ _ (by decide)]; exact r2
      have e1 : take rt (.ref 0 [] 0 es.length) = some (.deep, .sl 8 es [], upd rt 0 .gone) := by simp [take, r0, C.shape, C.sub, -upd_at]
      have e2 : take (upd rt 0 .gone) (.ref 128 [] 0 1) = some (.deep, .sl 8 [e] [], upd (upd rt 0 .gone) 128 .gone) := by simp only [take, h128]; simp [C.shape, C.sub, -upd_at]
      simp only [takes, e1, e2]
    obtain ⟨home1, hd1, F1, st1, _, fn, _, _, _, held⟩ := takes_step [.ref 0 [] 0 es.length, .ref 128 [] 0 1] (k := 0) hrel (vs := [v0, v2]) ⟨rfl, fun i x v hx hv => by
        match i with
        | 0 => simp at hx hv; subst hx hv; exact q0
        | 1 => simp at hx hv; subst hx hv; exact q2
        | i + 2 => simp at hx⟩ (fun x hx => by
        simp only [List.mem_cons, List.not_mem_nil, or_false] at hx
        rcases hx with rfl | rfl
        · intro i hi; simp only [SV.ids, List.mem_singleton] at hi; subst hi; rw [r0]; rfl
        · intro i hi; simp only [SV.ids, List.mem_singleton] at hi; subst hi; rw [r2]; rfl) (fun _ _ => rfl) htk
    obtain ⟨Tx, htx, hTx⟩ := ((held 0 _ _ rfl rfl).1).tree st1.rel
    obtain ⟨Ty, hty, hTy⟩ := ((held 1 _ _ rfl rfl).1).tree st1.rel
    simp only [Nat.zero_add] at hTx hTy
    have hlx : Tx.lab = some (.t 0, []) := by
      rcases hTx with ⟨e1, _⟩ | ⟨_, rfl⟩
      · cases e1
      · rfl
    have hly : Ty.lab = some (.t 1, []) := by
      rcases hTy with ⟨e1, _⟩ | ⟨_, rfl⟩
      · cases e1
      · rfl
    obtain ⟨olds, os1, os2, os3, _, os4, ad, cap, osu, osc, osm, osb, _⟩ := sl_cells htx
    obtain ⟨news, ns1, ns2, ns3, _, ns4, ady, capy, nsu, nsc, nsm, nsb, _⟩ := sl_cells hty
    simp only [List.length_nil, Nat.add_zero, List.length_cons, Nat.zero_add, Nat.one_mul] at osc ns1 nsc nsu
    have nsu : v2 = .slice ady 1 capy := nsu
    obtain ⟨vb, curv, ev, ny1, ny2, ny3, ny4, ny5⟩ := nsb _ hly (by omega)
    subst ny1 nsu osu
    have hblk : ∃ b cur e', 0 < cap → ad = some ⟨b, 0, none⟩ ∧ home1 b = some (.t 0, []) ∧ w.heap[b]? = some (.cells cur e' (0, 0)) ∧ cur.size = cap * 8 ∧ ∀ (k : Nat) v, olds[k]? = some v → cur[k]? = some v := by
      by_cases hc : 0 < cap
      · obtain ⟨b, cur, e', k⟩ := osb _ hlx hc
        exact ⟨b, cur, e', fun _ => k⟩
      · exact ⟨0, #[], 0, fun h => absurd h hc⟩
    obtain ⟨b, cur, e', hbk⟩ := hblk
    have hM : maxLen = 9223372036854775807 := rfl
    have hnc : es.length ≤ cap := osc
    have hchk : (match Go.Proofs.Tryz.prog.info? 39 with | some i => i.zero.isSome && i.size == 8 && i.bytes == 120 && (i.zero.getD default).cells.size == 8 | none => false) = true := by kernel_rfl
    obtain ⟨i0, hi0, hz⟩ : ∃ i0, Go.Proofs.Tryz.prog.info? 39 = some i0 ∧ i0.zero.isSome = true ∧ i0.size = 8 ∧ i0.bytes = 120 ∧ (i0.zero.getD default).cells.size = 8 := by
      split at hchk
      · rename_i i0 hi0
        simp only [Bool.and_eq_true, beq_iff_eq] at hchk
        exact ⟨i0, hi0, hchk.1.1.1, hchk.1.1.2, hchk.1.2, hchk.2⟩
      · cases hchk
    obtain ⟨z1, z2, z3, z4⟩ := hz
    obtain ⟨z, hz0⟩ := Option.isSome_iff_exists.1 z1
    rw [hz0] at z4
    simp only [Option.getD_some] at z4
    have ht : Go.Proofs.Tryz.prog.underlying 23 = some (.slice 39) := by kernel_rfl
    have hvb : ∀ (j : Nat) u, news[j]? = some u → w.cell? ⟨vb, j, none⟩ = some u := fun j u hj => by rw [cell_row ny3]; exact ny5 j u hj
    have hrows : ∀ (j : Nat), (olds.take (i * 8) ++ news ++ olds.drop (i * 8))[j]? = if j < i * 8 then olds[j]? else if j < (i + 1) * 8 then news[j - i * 8]? else olds[j - 8]? := by
      intro j
      have hl : (olds.take (i * 8)).length = i * 8 := by rw [List.length_take, os1]; omega
      rw [getElem?_three, hl, ns1]
      by_cases h1 : j < i * 8
      · rw [if_pos h1, if_pos h1, List.getElem?_take_of_lt h1]
      · rw [if_neg h1, if_neg h1]
        by_cases h2 : j < (i + 1) * 8
        · rw [if_pos h2, if_pos (by omega)]
        · rw [if_neg h2, if_neg (by omega), List.getElem?_drop]
          exact congrArg (fun k => olds[k]?) (by omega)
    have hbody : ∃ v' w2, InsEnd w (olds.take (i * 8) ++ news ++ olds.drop (i * 8)) (es.length + 1) home1 v' w2 ∧ Calls Go.Proofs.Tryz.prog 57 #[.slice ad es.length cap, .int .i64 i, .slice (some ⟨vb, 0, none⟩) 1 capy] w (fun e w1 => e = .returned v' ∧ w1 = w2) := by
      by_cases hend : i = es.length
      · subst hend
        have hall : olds.take (es.length * 8) ++ news ++ olds.drop (es.length * 8) = olds ++ news := by
          rw [List.take_of_length_le (by omega), List.drop_eq_nil_of_le (by omega), List.append_nil]
        have hsrc : ∀ w1 : World, w1.heap = w.heap → (Builtin.firstCells i0.size 1 (.slice (some ⟨vb, 0, none⟩) 1 capy)).run Go.Proofs.Tryz.prog w1 = .ok news.toArray w1 := by
          intro w1 hw1
          refine run_firstCells_some w1 i0.size 1 ⟨vb, 0, none⟩ 1 capy news (by rw [z2, ns1]) (fun j u hj => ?_)
          rw [addr_add, Nat.zero_add]
          have := hvb j u hj
          simpa [World.cell?, hw1] using this
        have hold : ∀ (j : Nat) u, olds[j]? = some u → cur[j]? = some u := by
          intro j u hj
          have : 0 < cap := by
            have := (List.getElem?_eq_some_iff.1 hj).1
            omega
          exact (hbk this).2.2.2.2 j u hj
        have happ := fun ty => run_append (P := Go.Proofs.Tryz.prog) (w := w) (t := 23) (t2 := 23) (ty := ty) ht (Or.inr ⟨39, ht⟩) hi0 hz0 (by rw [z4, z2]) (ad := ad) (n := es.length) (cap := cap) (by omega) (b := b) (cur := cur) (e' := e') (fun h0 => ⟨(hbk h0).1, (hbk h0).2.2.1, by rw [z2]; exact (hbk h0).2.2.2.1⟩) (olds := olds) (by rw [z2]; exact os1) hold
          (yv := .slice (some ⟨vb, 0, none⟩) 1 capy) (m := 1) (news := news) (by rw [z2, ns1]) rfl hsrc ns2 (by rw [z3]; omega) (by omega)
        obtain ⟨v', w2, hrun, hcases⟩ := happ 0
        have hrun' : ∀ ty, (Builtin.append_ #[23, 23] ty #[.slice ad es.length cap, .slice (some ⟨vb, 0, none⟩) 1 capy]).run Go.Proofs.Tryz.prog w = .ok v' w2 := fun ty => hrun
        refine ⟨v', w2, ?_, ins_end ad es.length cap vb capy w w2 v' hrun' (by omega) (by omega) (fun h => ?_)⟩
        · rw [hall]
          rw [z2] at hcases
          rcases hcases with ⟨c1, _⟩ | ⟨c1, c2, rfl, rfl⟩ | ⟨cap', c1, c2, c3, rfl, rfl⟩
          · omega
          · obtain ⟨had, hhb, hg, hcs, hcell⟩ := hbk c2
            subst had
            have hle : es.length * 8 + news.length ≤ cur.toList.length := by
              have hsz : cur.toList.length = cur.size := Array.length_toList
              rw [ns1, hsz, hcs]; omega
            obtain ⟨r1, r2⟩ := setRow_step_heap (w := w) (cs := (cur.toList.take (es.length * 8) ++ news ++ cur.toList.drop (es.length * 8 + news.length)).toArray) hg
            refine ⟨b, cap, _, _, rfl, c1, osm, r1, by rw [List.size_toArray, splice_len hle]; simpa using hcs, fun j u hj => ?_, fun b' _ hne => r2 b' hne, fun _ => hhb, rfl, rfl, rfl, by simp⟩
            rw [List.getElem?_toArray, splice_get hle]
            by_cases hjj : j < olds.length
            · rw [List.getElem?_append_left hjj] at hj
              rw [if_neg (by rw [os1] at hjj; omega)]
              have := hold j u hj
              simpa using this
            · rw [List.getElem?_append_right (by omega)] at hj
              have hlt := (List.getElem?_eq_some_iff.1 hj).1
              rw [os1] at hjj hj hlt
              rw [if_pos ⟨by omega, by omega⟩]
              exact hj
          · have hg := heap_alloc_new w.drew (.cells (olds.toArray ++ news.toArray ++ Builtin.zeroCells z.cells (cap' - (es.length + 1))) 39)
            refine ⟨w.heap.size, cap', _, _, rfl, c2, c3, hg, ?_, fun j u hj => ?_, fun b' hb' _ => heap_alloc_old w.drew _ hb', fun h => by omega, rfl, rfl, rfl, Nat.le_of_lt (heap_lt hg)⟩
            · simp only [Array.size_append, List.size_toArray, size_zeroCells, z4, os1, ns1]; omega
            · rw [Array.getElem?_append_left (by have := (List.getElem?_eq_some_iff.1 hj).1; simpa using this)]
              simpa using hj
        · subst h
          apply Nat.eq_zero_of_not_pos
          intro h0
          cases (hbk h0).1
      · have hil : i < es.length := by omega
        obtain ⟨had, hhb, hg, hcs, hcell⟩ := hbk (by omega)
        subst had
        have hcc : ∀ (j : Nat) u, olds[j]? = some u → w.cell? ⟨b, j, none⟩ = some u := fun j u hj => by rw [cell_row hg]; exact hcell j u hj
        have hne : vb ≠ b := fun e => by subst e; rw [hhb] at ny2; cases ny2
        have hdl : (olds.drop (i * 8)).length = (es.length - i) * 8 := by rw [List.length_drop, os1]; omega
        by_cases hroom : es.length + 1 ≤ cap
        · have hc := ins_shift b es.length cap i vb capy olds news w hil hroom (by omega) hne os1 ns1 hcc (fun j hj => by rw [cell_row hg, Array.getElem?_eq_getElem (by omega)]; rfl) (fun j => frozen_row hg) hvb os2 ns2 _ _ _ _ (shape_row ny3) (shape_row hg) (by omega) (frozen_row ny3) (frozen_row ny3)
          obtain ⟨c1, g1, g2, g3, g4, g5, g6, g7, g8⟩ := setCells_heap b (olds.drop (i * 8)) ((i + 1) * 8) w.drew cur e' hg (by rw [hdl, hcs]; omega)
          obtain ⟨c2, f1, f2, f3, f4, f5, f6, f7, f8⟩ := setCells_heap b news (i * 8) _ c1 e' g1 (by rw [g2, ns1, hcs]; omega)
          refine ⟨_, _, ⟨b, cap, c2, e', rfl, hroom, osm, f1, by rw [f2, g2, hcs], fun j u hj => ?_, fun b' _ hb => (f4 b' hb).trans (g4 b' hb), fun _ => hhb, f6.trans g6, f7.trans g7, f8.trans g8, by rw [f5, g5]; exact Nat.le_refl _⟩, hc⟩
          rw [hrows] at hj
          rw [f3, g3, ns1, hdl]
          by_cases h1 : j < i * 8
          · rw [if_pos h1] at hj
            rw [if_neg (by omega), if_neg (by omega)]
            exact hcell j u hj
          · rw [if_neg h1] at hj
            by_cases h2 : j < (i + 1) * 8
            · rw [if_pos h2] at hj
              rw [if_pos (by omega)]
              exact hj
            · rw [if_neg h2] at hj
              have := (List.getElem?_eq_some_iff.1 hj).1
              rw [if_neg (by omega), if_pos (by omega), List.getElem?_drop, show i * 8 + (j - (i + 1) * 8) = j - 8 by omega]
              exact hj
        · have hc := ins_grow b es.length cap i vb capy olds news w hil hnc (by omega) (by omega) os1 ns1 hcc (heap_lt hg) (heap_lt ny3) hvb os2 ns2 z i0 hi0 hz0 z3 z4
          obtain ⟨G, hG⟩ : ∃ G, G = grownCap w (es.length + 1) cap 39 := ⟨_, rfl⟩
          rw [← hG] at hc
          have hGn : es.length + 1 ≤ G := by rw [hG]; exact grownCap_ge w _ _ _
          have hG63 : G ≤ maxLen := by
            have := grownCap_le_maxLen w (es.length + 1) cap 39 (by unfold maxLen; omega)
            rw [← hG] at this
            exact this
          obtain ⟨ROW, hROW⟩ : ∃ ROW : Array Value, ROW = (olds.take (i * 8)).toArray ++ Builtin.zeroCells z.cells (es.length + 1 - i) ++ Builtin.zeroCells z.cells (G - (es.length + 1)) := ⟨_, rfl⟩
          rw [← hROW] at hc
          have hRl : ROW.size = G * 8 := by
            rw [hROW]
            simp only [Array.size_append, List.size_toArray, List.length_take, size_zeroCells, z4, os1]
            omega
          have hn0 := heap_alloc_new w (.cells ROW 39)
          have hn1 : (w.alloc (.cells ROW 39)).drew.heap[w.heap.size]? = some (.cells ROW 39 (0, 0)) := hn0
          obtain ⟨c1, g1, g2, g3, g4, g5, g6, g7, g8⟩ := setCells_heap w.heap.size news (i * 8) (w.alloc (.cells ROW 39)).drew ROW 39 hn1 (by rw [ns1, hRl]; omega)
          have g1' : ((w.alloc (.cells ROW 39)).drew.setCells w.heap.size (i * 8) news).drew.heap[w.heap.size]? = some (.cells c1 39 (0, 0)) := g1
          obtain ⟨c2, f1, f2, f3, f4, f5, f6, f7, f8⟩ := setCells_heap w.heap.size (olds.drop (i * 8)) ((i + 1) * 8) _ c1 39 g1' (by rw [g2, hdl, hRl]; omega)
          refine ⟨_, _, ⟨w.heap.size, G, c2, 39, rfl, hGn, hG63, f1, by rw [f2, g2, hRl], fun j u hj => ?_, fun b' hb' hb => (f4 b' hb).trans ((g4 b' hb).trans (heap_alloc_old w _ hb')), fun h => by omega, f6.trans g6, f7.trans g7, f8.trans g8, ?_⟩, hc⟩
          · rw [hrows] at hj
            rw [f3, g3, ns1, hdl]
            by_cases h1 : j < i * 8
            · rw [if_pos h1] at hj
              rw [if_neg (by omega), if_neg (by omega), hROW]
              have hlt : j < (olds.take (i * 8)).length := by rw [List.length_take, os1]; omega
              rw [Array.append_assoc, Array.getElem?_append_left (by simpa using hlt), List.getElem?_toArray, List.getElem?_take_of_lt h1]
              exact hj
            · rw [if_neg h1] at hj
              by_cases h2 : j < (i + 1) * 8
              · rw [if_pos h2] at hj
                rw [if_neg (by omega), if_pos (by omega)]
                exact hj
              · rw [if_neg h2] at hj
                have := (List.getElem?_eq_some_iff.1 hj).1
                rw [if_pos (by omega), List.getElem?_drop, show i * 8 + (j - (i + 1) * 8) = j - 8 by omega]
                exact hj
          · rw [f5]
            show w.heap.size ≤ ((w.alloc (.cells ROW 39)).drew.setCells w.heap.size (i * 8) news).heap.size
            rw [g5]
            exact Nat.le_of_lt (heap_lt hn1)
    obtain ⟨v', w2, ⟨B, cap', cur', e1, rfl, p1, p2, p3, p4, p5, p6, p7, p8, p9, p10, p11⟩, hcalls⟩ := hbody
    let g : Nat → Path → Option Path := fun m q => match m, q with
      | 0, (a, j) :: q => some ((if a < i then a else a + 1, j) :: q)
      | 1, (a, j) :: q => some ((i + a, j) :: q)
      | _, _ => none
    obtain ⟨rows, hrw⟩ : ∃ rows, rows = olds.take (i * 8) ++ news ++ olds.drop (i * 8) := ⟨_, rfl⟩
    rw [← hrw] at p5 hrows
    obtain ⟨new, hnew⟩ : ∃ new, new = es.take i ++ [e] ++ es.drop i := ⟨_, rfl⟩
    have hnl : new.length = es.length + 1 := by rw [hnew]; simp; omega
    have hng : ∀ a, new[a]? = if a < i then es[a]? else if a = i then some e else es[a - 1]? := by
      intro a
      rw [hnew, getElem?_three, List.length_take, Nat.min_eq_left hi]
      by_cases h1 : a < i
      · rw [if_pos h1, if_pos h1, List.getElem?_take_of_lt h1]
      · rw [if_neg h1, if_neg h1]
        by_cases h2 : a = i
        · rw [if_pos h2, if_pos (by simp; omega), h2, Nat.sub_self]; rfl
        · rw [if_neg h2, if_neg (by simp; omega), List.getElem?_drop]
          exact congrArg (fun k => es[k]?) (by simp; omega)
    have helen : ∀ x ∈ new, x.length = 8 := by
      intro x hx
      rw [hnew] at hx
      simp only [List.mem_append, List.mem_singleton] at hx
      rcases hx with (hx | hx) | hx
      · exact os3 x (List.mem_of_mem_take hx)
      · rw [hx]; exact ns3 e (by simp)
      · exact os3 x (List.mem_of_mem_drop hx)
    have hcr : CR w2 (asmHome home1 0 64000 (some B) g) (arrTg true (.r 64000)) (.sl 8 new []) (.slice (some ⟨B, 0, none⟩) (es.length + 1) cap') := by
      have himm : ∀ b', b' < w.heap.size → home1 b' = none → w2.heap[b']? = w.heap[b']? ∧ asmHome home1 0 64000 (some B) g b' = none := by
        intro b' hb' hn
        have hne : b' ≠ B := fun e => by subst e; rw [p7 hb'] at hn; cases hn
        exact ⟨p6 b' hb' hne, asmHome_none (by simp [hne]) hn⟩
      have hval : ∀ a j x c, new[a]? = some x → x[j]? = some c → ∃ v, rows[a * 8 + j]? = some v ∧ CR w2 (asmHome home1 0 64000 (some B) g) ((arrTg true (.r 64000)).ext a j) c v := by
        intro a j x c h1 h2
        have hj : j < 8 := by rw [← helen x (List.mem_of_getElem? h1)]; exact (List.getElem?_eq_some_iff.1 h2).1
        rw [hng] at h1
        rw [hrows]
        have hown : ∀ m a0 a1, (∀ q, g m ((a0, j) :: q) = some ((a1, j) :: q)) → ∀ q' b', b' < w.heap.size → home1 b' = some (.t m, (a0, j) :: q') → w2.heap[b']? = w.heap[b']? ∧ asmHome home1 0 64000 (some B) g b' = if true = true then some (.r 64000, (a1, j) :: q') else none := by
          intro m a0 a1 hg' q' b' hb' hl
          have hne : b' ≠ B := fun e => by
            subst e
            rw [p7 hb'] at hl
            injection hl with hl
            injection hl with _ hl
            cases hl
          refine ⟨p6 b' hb' hne, ?_⟩
          rw [asmHome_t (by simp [hne]) hl (Nat.zero_le _), hg']
          rfl
        by_cases c1 : a < i
        · rw [if_pos c1] at h1
          rw [if_pos (by omega)]
          obtain ⟨v, k1, k2⟩ := os4 a j x c h1 h2
          exact ⟨v, k1, elem_goes (D := true) hTx k2 (fun _ => rfl) himm (hown 0 a a (fun q => by simp [g, c1]))⟩
        · rw [if_neg c1] at h1
          by_cases c2 : a = i
          · rw [if_pos c2] at h1
            injection h1 with h1
            subst h1 c2
            rw [if_neg (by omega), if_pos (by omega), show a * 8 + j - a * 8 = 0 * 8 + j by omega]
            obtain ⟨v, k1, k2⟩ := ns4 0 j e c rfl h2
            exact ⟨v, k1, elem_goes (D := true) hTy k2 (fun _ => rfl) himm (hown 1 0 a (fun q => by simp [g]))⟩
          · rw [if_neg c2] at h1
            rw [if_neg (by omega), if_neg (by omega), show a * 8 + j - 8 = (a - 1) * 8 + j by omega]
            obtain ⟨v, k1, k2⟩ := os4 (a - 1) j x c h1 h2
            exact ⟨v, k1, elem_goes (D := true) hTx k2 (fun _ => rfl) himm (hown 0 (a - 1) a (fun q => by
              have : ¬ (a - 1 < i) := by omega
              simp only [g, if_neg this, show a - 1 + 1 = a by omega]))⟩
      have hd' : Hdr w2 (asmHome home1 0 64000 (some B) g) (arrTg true (.r 64000)) (.slice (some ⟨B, 0, none⟩) (es.length + 1) cap') (es.length + 1) (es.length + 1) 8 (fun a j => rows.getD (a * 8 + j) undef) := by
        refine Hdr.new (t := arrTg true (.r 64000)) rfl (by decide) p1 p2 asmHome_B p3 p4 (fun a j ha hj => ?_)
        have hlt : a < new.length := by omega
        have hx := helen _ (List.getElem_mem hlt)
        obtain ⟨v, k1, _⟩ := hval a j new[a] _ (List.getElem?_eq_getElem hlt) (List.getElem?_eq_getElem (by omega))
        rw [p5 _ _ k1]
        simp [List.getD_eq_getElem?_getD, k1]
      refine .sl (fun a j => rows.getD (a * 8 + j) undef) (by rw [List.append_nil]; exact helen) ?_ (fun a j x c h1 h2 => ?_)
      · rw [List.length_nil, Nat.add_zero, hnl]
        exact hd'
      · rw [List.append_nil] at h1
        obtain ⟨v, k1, k2⟩ := hval a j x c h1 h2
        have : rows.getD (a * 8 + j) undef = v := by simp [List.getD_eq_getElem?_getD, k1]
        simp only [this]
        exact k2
    have hn2 : upd (upd rt 0 .gone) 128 .gone 64000 = none := by rw [updF_ne _ _ (by decide), updF_ne _ _ (by decide)]; exact r3
    have s2 := assemble (w' := w2) st1.rel hn2 (by decide) (k0 := 0) (B := some B) g
      (fun b' hb' => by injection hb' with hb'; subst hb'; exact ⟨heap_lt p3, fun h => ⟨0, [], Nat.zero_le _, p7 h⟩⟩) (fun b' hb' hne => p6 b' hb' (fun e => hne (by rw [e]))) p8 p9 p10 p11 hcr
    have hF0 : asmF F1 0 = F0 := by funext j; simp [asmF, F0]
    rw [hF0] at s2
    have st := st1.trans s2
    have hfr : FrR ids w2 (asmHome home1 0 64000 (some B) g) (updL hd1 (.r 64000) (.slice (some ⟨B, 0, none⟩) (es.length + 1) cap')) 7 ⟨asl [(6, .sv (.ref 64000 [] 0 (es.length + 1)))], upd (upd (upd rt 0 .gone) 128 .gone) 64000 (.arr true false (.sl 8 new [])), [0, 128]⟩
        { tmps := #[undef, undef, undef, undef, undef, undef, .slice (some ⟨B, 0, none⟩) (es.length + 1) cap'], defers := [] } := by
      refine ⟨st.rel, fun t av hav => ?_, rfl, rfl⟩
      have e6 : asl [(6, AV.sv (.ref 64000 [] 0 (es.length + 1)))] t = if t = 6 then some (AV.sv (.ref 64000 [] 0 (es.length + 1))) else none := by simp
      have hav : asl [(6, AV.sv (.ref 64000 [] 0 (es.length + 1)))] t = some av := hav
      rw [e6] at hav
      split at hav
      · rename_i e0
        subst e0
        injection hav with hav
        subst hav
        refine ⟨.slice (some ⟨B, 0, none⟩) (es.length + 1) cap', rfl, new_ref (w := w2) (home := asmHome home1 0 64000 (some B) g) (rt := upd (upd rt 0 .gone) 128 .gone) (id := 64000) (d := true) (c := .sl 8 new []) (updL_same hd1 (.r 64000) (.slice (some ⟨B, 0, none⟩) (es.length + 1) cap')) p1, fun j hj => ?_⟩
        simp only [AV.ids, A1.ids, SV.ids, List.mem_singleton] at hj
        subst hj
        show (upd (upd (upd rt 0 .gone) 128 .gone) 64000 (.arr true false (.sl 8 new [])) 64000).isSome = true
        rw [updF_same]; rfl
      · cases hav
    have hfin : finish ⟨3, 7, .skip, [.t 6]⟩ ⟨asl [(6, .sv (.ref 64000 [] 0 (es.length + 1)))], upd (upd (upd rt 0 .gone) 128 .gone) 64000 (.arr true false (.sl 8 new [])), [0, 128]⟩ = some ⟨[.s (.mk .deep (.sl 8 new []))], [none, none]⟩ := by
      have ht' : new.take (es.length + 1) = new := List.take_of_length_le (by omega)
      have hd' : new.drop (es.length + 1) = [] := List.drop_eq_nil_of_le (by omega)
      simp [finish, hnl, ht', hd']
    obtain ⟨us, hrun, home2, hd2, F', hret⟩ := finish_ok (P := Go.Proofs.Tryz.prog) st.grow hfr (fn := Go.Proofs.Tryz.f57) (by kernel_rfl) hfin
    have hv : retV us = .slice (some ⟨B, 0, none⟩) (es.length + 1) cap' := by
      have : (Go.results Go.Proofs.Tryz.f57 #[undef, undef, undef, undef, undef, undef, .slice (some ⟨B, 0, none⟩) (es.length + 1) cap']).run Go.Proofs.Tryz.prog w2 = .ok (.slice (some ⟨B, 0, none⟩) (es.length + 1) cap') w2 := by
        have hres : Go.Proofs.Tryz.f57.results = #[.tmp 6] := by kernel_rfl
        unfold Go.results
        rw [hres]
        simp [resOne]
      rw [this] at hrun
      injection hrun with h1 _
      exact h1.symm
    rw [← hnew]
    refine Or.inl ⟨?_, hcalls.mono ?_⟩
    · unfold callFunc
      simp only [Sem.run_bind, run_program, Result.andThen_ok, Go.Proofs.Tryz.func57]
      rfl
    · rintro e w1 ⟨rfl, rfl⟩
      exact ⟨_, rfl, home2, hd2, F', us, hv.symm, hret⟩
end Go.Proofs.YtecmolmlojehgaaGreat.T
namespace Go.Proofs.YtecmolmlojehgaaGreat.T
open Go
theorem hand_ok (f : Nat) (args : List Arg) (r : Res) (h : handF f args = some r) : Sat ids Go.Proofs.Tryz.prog (ids f) args r := by
  refine ok_nil hands ids f h ?_
  intro x hx
  simp only [hands, List.mem_cons, List.not_mem_nil, or_false] at hx
  rcases hx with rfl | rfl | rfl | rfl | rfl | rfl
  · show ∀ args r, _ → Sat ids Go.Proofs.Tryz.prog (ids n_slices_Insert_SimplEntryimplEntry) args r
    rw [show ids n_slices_Insert_SimplEntryimplEntry = 57 by kernel_rfl]
    exact ok_insert (fun es e i h1 h2 => sat_insert es e i h1 h2)
  · show ∀ args r, _ → Sat ids Go.Proofs.Tryz.prog (ids n_slices_Sort_Sstringstring) args r
    rw [show ids n_slices_Sort_Sstringstring = 99 by kernel_rfl]
    exact ok_sort (fun ss h => sat_sort (fn := Go.Proofs.Tryz.f99) (by kernel_rfl) (by kernel_rfl) (by kernel_rfl) (fun blk off cap ss w h1 h2 h3 => Go.Proofs.Tryz.slices_Sort_string blk off cap ss w h1 h2 h3) (fun p cap w => Go.Proofs.Tryz.slices_Sort_string_none p cap w) ss h)
  · show ∀ args r, _ → Sat ids Go.Proofs.Tryz.prog (ids n_slices_Compact_Sstringstring) args r
    rw [show ids n_slices_Compact_Sstringstring = 100 by kernel_rfl]
    exact ok_compact (fun ss h h2 => sat_compact (fn := Go.Proofs.Tryz.f100) (by kernel_rfl) (by kernel_rfl) (by kernel_rfl) (fun blk off cap zs w h1 h2 h3 => Go.Proofs.Tryz.slices_Compact_string blk off cap zs w h1 h2 h3) (fun a cap w => Go.Proofs.Tryz.slices_Compact_string_empty a cap w) ss h h2)
  · show ∀ args r, _ → Sat ids Go.Proofs.Tryz.prog (ids n_slices_Clone_SimplTermimplTerm) args r
    rw [show ids n_slices_Clone_SimplTermimplTerm = 138 by kernel_rfl]
    exact ok_clone (fun es sp h => sat_clone (sz := 4) (bytes := 32) (fn := Go.Proofs.Tryz.f138) (by kernel_rfl) (by kernel_rfl) rfl rfl rfl rfl rfl rfl rfl rfl ⟨105, by kernel_rfl⟩ (by kernel_rfl) (by kernel_rfl) (by kernel_rfl) (by kernel_rfl) (by decide) (by decide) es sp h)
  · show ∀ args r, _ → Sat ids Go.Proofs.Tryz.prog (ids n_slices_Clone_Sintint) args r
    rw [show ids n_slices_Clone_Sintint = 139 by kernel_rfl]
    exact ok_clone (fun es sp h => sat_clone (sz := 1) (bytes := 8) (fn := Go.Proofs.Tryz.f139) (by kernel_rfl) (by kernel_rfl) rfl rfl rfl rfl rfl rfl rfl rfl ⟨3, by kernel_rfl⟩ (by kernel_rfl) (by kernel_rfl) (by kernel_rfl) (by kernel_rfl) (by decide) (by decide) es sp h)
  · show ∀ args r, _ → Sat ids Go.Proofs.Tryz.prog (ids n_bytealg_abigen_runtime_cmpstring) args r
    rw [show ids n_bytealg_abigen_runtime_cmpstring = 162 by kernel_rfl]
    exact ok_cmp (fun a b => sat_cmp (fn := Go.Proofs.Tryz.f162) (by kernel_rfl) (by kernel_rfl) (by kernel_rfl) (by kernel_rfl) (by kernel_rfl) a b)
theorem L_sat {f : Nat} {args : List Arg} {r : Res} (h : L0 f args = some r) : SatG ids Go.Proofs.Tryz.prog (ids f) (shapeOf f) args r := by
  obtain ⟨m, hm⟩ := L_den.1 h
  exact den_ok (pp := prog handF) (fun i pf h => tab_ok i pf h) (fun f args r _ h => hand_ok f args r h) (fun f args r h => hand_shape (args := args) (r := r) hands (by kernel_rfl) f h) m f args r (hm m (Nat.le_refl _))
end Go.Proofs.YtecmolmlojehgaaGreat.T
