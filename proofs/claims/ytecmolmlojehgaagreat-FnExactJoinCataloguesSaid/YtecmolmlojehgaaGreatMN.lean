/- Catalogues, joined: both ways come to the same. A catalogue and its copies. The law of joined catalogues, of the abstract executor. The functions that are proved by hand do what is said of them. What is proved by hand, told of the table. slices.Insert, as the abstract executor has it. What the executor gives, the program does. What a statement reads of memory, as trees. The catalogue that a statement reads of memory, as a tree. From the executor to calls and statements. -/
import Derived.Test.YtecmolmlojehgaaGreatMM
import Derived.Test.YtecmolmlojehgaaGreatMI
import Derived.Test.YtecmolmlojehgaaGreatChecked
import Derived.KernelRfl
import Derived.Laws.Cover3
import Derived.Laws.Externs
import Derived.Lib.Bytealg
import Derived.Test.YtecmolmlojehgaaGreatMJ
import Derived.Test.YtecmolmlojehgaaGreatMC
import Derived.Test.YtecmolmlojehgaaGreatMK
import Derived.ChangeArms
import Derived.SizedLaws
import Derived.WalkKit
import Derived.ProofKit
import Derived.OpenShut
import Derived.ShutString
import Derived.ChangeOld
import Derived.Below
namespace Go.Proofs.YtecmolmlojehgaaGreat.T
open Go
set_option maxHeartbeats 2000000
theorem less_irrefl : ∀ l : List UInt8, Op.bytesLess l l = false
  | [] => rfl
  | x :: r => by simp [Op.bytesLess, less_irrefl r]
theorem found {l : List EntryV} (hs : SortedL l) (n : ByteArray) (x : EntryV) : (x ∈ l ∧ nmL x = n.toList) ↔ (atB l (placeGo n l) n = true ∧ l[placeGo n l]? = some x) := by
  constructor
  · rintro ⟨hx, hn⟩
    obtain ⟨i, hi, rfl⟩ := List.getElem_of_mem hx
    have h1 : ¬ i < placeGo n l := by
      intro h
      have h2 := (place_iff n hs i hi).2 h
      unfold lessN at h2
      rw [show (l[i]).name.toList = n.toList from hn, less_irrefl] at h2
      cases h2
    have h2 : ¬ placeGo n l < i := by
      intro h
      have hp : placeGo n l < l.length := by omega
      have h3 := placeGo_ge n l hp
      have h4 := List.pairwise_iff_getElem.1 hs _ i hp hi h
      unfold lessN at h3 h4
      rw [show (l[i]).name.toList = n.toList from hn, h3] at h4
      cases h4
    have e : placeGo n l = i := by omega
    rw [e, List.getElem?_eq_getElem hi]
    refine ⟨?_, rfl⟩
    simp only [atB, List.getElem?_eq_getElem hi, eqN, beq_iff_eq]
    exact hn
  · rintro ⟨h1, h2⟩
    refine ⟨List.mem_of_getElem? h2, ?_⟩
    simp only [atB, h2, eqN, beq_iff_eq] at h1
    exact h1
theorem not_found {l : List EntryV} (hs : SortedL l) (n : ByteArray) (h : ∀ x ∈ l, nmL x ≠ n.toList) : atB l (placeGo n l) n = false := by
  cases c : atB l (placeGo n l) n with
  | false => rfl
  | true =>
    cases hg : l[placeGo n l]? with
    | none => rw [atB, hg] at c; cases c
    | some x => exact absurd ((found hs n x).2 ⟨c, hg⟩).2 (h x ((found hs n x).2 ⟨c, hg⟩).1)
theorem mem_set_keep {l : List EntryV} {k : Nat} {x z y : EntryV} (hg : l[k]? = some x) (hz : nmL z = nmL x) (hy : nmL y ≠ nmL x) : y ∈ l.set k z ↔ y ∈ l := by
  constructor
  · intro h
    rcases List.mem_or_eq_of_mem_set h with h | rfl
    · exact h
    · exact absurd hz hy
  · intro h
    obtain ⟨i, hi, rfl⟩ := List.getElem_of_mem h
    have hik : k ≠ i := by
      rintro rfl
      rw [List.getElem?_eq_getElem hi] at hg
      injection hg with hg
      exact hy (by rw [hg])
    rw [List.mem_iff_getElem?]
    exact ⟨i, by rw [List.getElem?_set_ne hik, List.getElem?_eq_getElem hi]⟩
theorem mem_ins {l : List EntryV} {k : Nat} {m y : EntryV} : y ∈ l.take k ++ [m] ++ l.drop k ↔ y = m ∨ y ∈ l := by
  conv => rhs; rw [← List.take_append_drop k l]
  simp only [List.mem_append, List.mem_singleton]
  constructor
  · rintro ((h | h) | h)
    · exact Or.inr (Or.inl h)
    · exact Or.inl h
    · exact Or.inr (Or.inr h)
  · rintro (h | h | h)
    · exact Or.inl (Or.inr h)
    · exact Or.inl (Or.inl h)
    · exact Or.inr h
theorem catGo_all : ∀ {l : List QEntry} {prev : Option ByteArray}, catGo prev l = true → ∀ e ∈ l, entryOk e = true
  | [], _, _, e, he => by simp at he
  | q :: r, none, h, e, he => by
    simp only [catGo, Bool.and_eq_true] at h
    simp only [List.mem_cons] at he
    rcases he with rfl | he
    · exact h.1
    · exact catGo_all h.2 e he
  | q :: r, some p, h, e, he => by
    simp only [catGo, Bool.and_eq_true] at h
    simp only [List.mem_cons] at he
    rcases he with rfl | he
    · exact h.1
    · exact catGo_all h.2.2 e he
theorem joinFin_bad {l : List EntryV} {z : EntryV} (hz : z ∈ l) (hb : entryOk (qE z) = false) : joinFin (some l) = (false, []) := by
  unfold joinFin
  cases c : catOk (l.map qE) with
  | false => simp only [c, Bool.false_eq_true, if_false]
  | true =>
    simp only [catOk, Bool.and_eq_true] at c
    have := catGo_all c.1 _ (List.mem_map_of_mem hz)
    rw [hb] at this; cases this
/-- One that is not right and whose name does not come again spoils it all. -/
theorem implGo_bad {z : EntryV} (hb : entryOk (qE z) = false) : ∀ (r : List EntryV) {out : List EntryV}, SortedL out → z ∈ out → (∀ e ∈ r, nmL e ≠ nmL z) → joinFin (implGo out r) = (false, [])
  | [], out, _, hz, _ => joinFin_bad hz hb
  | e :: r, out, hs, hz, hr => by
    have h0 := hr e (List.mem_cons_self ..)
    have hr' : ∀ e ∈ r, nmL e ≠ nmL z := fun e he => hr e (List.mem_cons_of_mem _ he)
    cases c : atB out (placeGo e.name out) e.name with
    | false =>
      simp only [implGo, c, Bool.false_eq_true, if_false]
      exact implGo_bad hb r (sorted_ins hs e c) (mem_ins.2 (Or.inr hz)) hr'
    | true =>
      simp only [implGo, c, if_true]
      cases hg : out[placeGo e.name out]? with
      | none => rfl
      | some x =>
        have hx := ((found hs e.name x).2 ⟨c, hg⟩).2
        have hzx : nmL z ≠ nmL x := fun h => h0 (by rw [h, hx])
        simp only
        split
        · exact implGo_bad hb r (sorted_names (names_set hg hx.symm).symm hs) ((mem_set_keep hg hx.symm hzx).2 hz) hr'
        · split
          · split
            · exact implGo_bad hb r (sorted_names (names_set (e := meetE x e) hg rfl).symm hs) ((mem_set_keep (z := meetE x e) hg rfl hzx).2 hz) hr'
            · rfl
          · exact implGo_bad hb r hs hz hr'
theorem sameQ_comm (x e : EntryV) : sameQ x e = sameQ e x := by
  have : ∀ {α : Type} [BEq α] [LawfulBEq α] (a b : α), (a == b) = (b == a) := fun a b => by
    rw [Bool.eq_iff_iff, beq_iff_eq, beq_iff_eq]; exact eq_comm
  simp only [sameQ]
  rw [this (pS x.system), this (pB x.box)]
theorem nmL_bare (e : EntryV) : nmL (bareE e) = nmL e := rfl
theorem set_self {α : Type} {l : List α} {k : Nat} {x : α} (h : l[k]? = some x) : l.set k x = l := by
  apply List.ext_getElem?
  intro i
  by_cases hi : k = i
  · subst hi
    have : k < l.length := by
      apply Nat.lt_of_not_le; intro h2; rw [List.getElem?_eq_none h2] at h; simp at h
    rw [List.getElem?_set_self this, h]
  · rw [List.getElem?_set_ne hi]
theorem join_same {a : List EntryV} (ha : SortedL a) : ∀ (r : List EntryV) {out : List EntryV}, SortedL out → SortedL r → (∀ e ∈ r, ∀ y, (y ∈ out ∧ nmL y = nmL e) ↔ ∃ x ∈ a, nmL x = nmL e ∧ y = bareE x) →
    joinFin (specGo a out r) = joinFin (implGo out (r.map bareE))
  | [], _, _, _, _ => rfl
  | e :: r, out, hs, hr, hI => by
    obtain ⟨hr1, hr2⟩ := List.pairwise_cons.1 hr
    have hne : ∀ e' ∈ r, nmL e' ≠ nmL e := by
      intro e' he' h
      have := hr1 e' he'
      unfold lessN at this
      rw [show e'.name.toList = e.name.toList from h, less_irrefl] at this
      cases this
    have hI0 := hI e (List.mem_cons_self ..)
    have hI' : ∀ e ∈ r, ∀ y, (y ∈ out ∧ nmL y = nmL e) ↔ ∃ x ∈ a, nmL x = nmL e ∧ y = bareE x := fun e he => hI e (List.mem_cons_of_mem _ he)
    obtain ⟨k, hk⟩ : ∃ k, k = placeGo e.name out := ⟨_, rfl⟩
    obtain ⟨j, hj⟩ : ∃ j, j = placeGo e.name a := ⟨_, rfl⟩
    have hset : ∀ (x z : EntryV), out[k]? = some x → nmL x = nmL e → nmL z = nmL e → SortedL (out.set k z) ∧ ∀ e ∈ r, ∀ y, (y ∈ out.set k z ∧ nmL y = nmL e) ↔ ∃ x ∈ a, nmL x = nmL e ∧ y = bareE x := by
      intro x z hg hx hz
      refine ⟨sorted_names (names_set hg (hz.trans hx.symm)).symm hs, fun e' he' y => ?_⟩
      rw [← hI' e' he' y]
      constructor
      · rintro ⟨h1, h2⟩
        exact ⟨(mem_set_keep hg (hz.trans hx.symm) (by rw [h2, hx]; exact hne e' he')).1 h1, h2⟩
      · rintro ⟨h1, h2⟩
        exact ⟨(mem_set_keep hg (hz.trans hx.symm) (by rw [h2, hx]; exact hne e' he')).2 h1, h2⟩
    have hput : ∀ m : EntryV, nmL m = nmL e → atB out k e.name = true → putL out m = out.set k (bareE m) := by
      intro m hm hat
      have hp : placeGo m.name out = k := by rw [hk]; exact placeGo_congr hm out
      unfold putL
      rw [hp, if_pos]
      simp only [atB, eqN] at hat ⊢
      rw [show m.name.toList = e.name.toList from hm]
      exact hat
    have step : implGo out ((e :: r).map bareE) = if atB out k e.name = true then
        match out[k]? with
        | some x => if x.version < e.version then implGo (out.set k (bareE e)) (r.map bareE)
          else if e.version = x.version then (if sameQ (bareE e) x = true then implGo (out.set k (meetE x (bareE e))) (r.map bareE) else none)
          else implGo out (r.map bareE)
        | none => none
      else implGo (out.take k ++ [bareE e] ++ out.drop k) (r.map bareE) := by rw [hk]; rfl
    rw [step]
    cases hat : atB a j e.name with
    | false =>
      have hno : ∀ y ∈ out, nmL y ≠ nmL e := by
        intro y hy hn
        obtain ⟨x, hx, hxn, _⟩ := (hI0 y).1 ⟨hy, hn⟩
        have := ((found ha e.name x).1 ⟨hx, hxn⟩).1
        rw [← hj, hat] at this
        cases this
      have hat2 := not_found hs e.name hno
      have h1 : putL out e = out.take k ++ [bareE e] ++ out.drop k := by
        unfold putL
        rw [← hk] at hat2 ⊢
        rw [hat2, if_neg (by simp)]
      simp only [specGo, meetOpt]
      rw [← hj, hat]
      rw [← hk] at hat2
      rw [hat2]
      simp only [Bool.false_eq_true, if_false]
      rw [h1]
      have hins := sorted_ins hs (bareE e) (by rw [bareE_name, ← hk]; exact hat2)
      rw [bareE_name, ← hk] at hins
      refine join_same ha r hins hr2 (fun e' he' y => ?_)
      rw [← hI' e' he' y, mem_ins]
      constructor
      · rintro ⟨rfl | h1, h2⟩
        · exact absurd h2.symm (hne e' he')
        · exact ⟨h1, h2⟩
      · rintro ⟨h1, h2⟩
        exact ⟨Or.inr h1, h2⟩
    | true =>
      cases hg : a[j]? with
      | none => rw [atB, hg] at hat; cases hat
      | some x =>
        have hx := (found ha e.name x).2 ⟨by rw [← hj]; exact hat, by rw [← hj]; exact hg⟩
        have hin := (hI0 (bareE x)).2 ⟨x, hx.1, hx.2, rfl⟩
        have hf := (found hs e.name (bareE x)).1 hin
        rw [← hk] at hf
        obtain ⟨hf1, hf2⟩ := hf
        simp only [specGo, meetOpt]
        rw [← hj, hat, hf1, hg, hf2]
        obtain ⟨y, hyx⟩ : ∃ y, y = bareE x := ⟨_, rfl⟩
        have hyv : y.version = x.version := by rw [hyx]; rfl
        have hyq : sameQ (bareE e) y = sameQ x e := by rw [hyx, sameQ_bare, sameQ_comm]
        have hym : meetE y (bareE e) = bareE (meetE x e) := by rw [hyx]; rfl
        rw [← hyx] at hf2 ⊢
        simp only [if_true]
        by_cases v1 : e.version < x.version
        · simp only [if_pos v1]
          rw [if_neg (show ¬ y.version < e.version by omega), if_neg (show ¬ e.version = y.version by omega), hput x hx.2 hf1, ← hyx, set_self hf2]
          exact join_same ha r hs hr2 hI'
        · simp only [if_neg v1]
          by_cases v2 : x.version < e.version
          · simp only [if_pos v2]
            rw [hput e rfl hf1, if_pos (show y.version < e.version by omega)]
            obtain ⟨h1, h2⟩ := hset _ (bareE e) hf2 (by rw [hyx]; exact hx.2) rfl
            exact join_same ha r h1 hr2 h2
          · simp only [if_neg v2]
            rw [if_neg (show ¬ y.version < e.version by omega), if_pos (show e.version = y.version by omega), hyq, hym]
            cases v3 : sameQ x e with
            | false => rfl
            | true =>
              simp only [if_true]
              obtain ⟨h1, h2⟩ := hset _ (bareE (meetE x e)) hf2 (by rw [hyx]; exact hx.2) hx.2
              cases v4 : entryOk (qE (meetE x e)) with
              | true =>
                simp only [if_true]
                rw [hput (meetE x e) hx.2 hf1]
                exact join_same ha r h1 hr2 h2
              | false =>
                simp only [Bool.false_eq_true, if_false]
                have hkl : k < out.length := by
                  apply Nat.lt_of_not_le; intro h; rw [List.getElem?_eq_none h] at hf2; simp at hf2
                refine Eq.trans ?_ (implGo_bad (z := bareE (meetE x e)) (by rw [qE_bare]; exact v4) (r.map bareE) h1 (List.mem_set hkl _) ?_).symm
                · rfl
                · intro e' he'
                  simp only [List.mem_map] at he'
                  obtain ⟨e'', he'', rfl⟩ := he'
                  intro h
                  exact hne e'' he'' (h.trans hx.2)
theorem join_law {X Y : Entries} (hx : catOk (qL X) = true) (hy : catOk (qL Y) = true) : joinFin (specGo X.es (X.es.map bareE) Y.es) = joinFin (implGo (X.es.map bareE) (Y.es.map bareE)) := by
  have sx : ∀ {L : Entries}, catOk (qL L) = true → SortedL L.es := by
    intro L h
    simp only [catOk, Bool.and_eq_true] at h
    have := (catGo_sorted h.1).2
    unfold qL at this
    rw [List.pairwise_map] at this
    exact this
  refine join_same (sx hx) Y.es (sorted_names (by rw [List.map_map]; rfl) (sx hx)) (sx hy) (fun e _ y => ?_)
  constructor
  · rintro ⟨h1, h2⟩
    obtain ⟨x, hx, rfl⟩ := List.mem_map.1 h1
    exact ⟨x, hx, h2, rfl⟩
  · rintro ⟨x, hx, h2, rfl⟩
    exact ⟨List.mem_map_of_mem hx, h2⟩
theorem cat_sorted {L : Entries} (h : catOk (qL L) = true) : SortedL L.es := by
  simp only [catOk, Bool.and_eq_true] at h
  have := (catGo_sorted h.1).2
  unfold qL at this
  rw [List.pairwise_map] at this
  exact this
end Go.Proofs.YtecmolmlojehgaaGreat.T
namespace Go.Proofs.YtecmolmlojehgaaGreat.T
open Go
set_option maxHeartbeats 4000000
theorem row_ext {α : Type} {a b : Row α} (h1 : a.es = b.es) (h2 : a.sp = b.sp) : a = b := by
  cases a; cases b; simp only at h1 h2; subst h1 h2; rfl
theorem bareRow_congr {α : Type} {a b : Row α} (h : a.es = b.es) : bareRow a = bareRow b := row_ext h rfl
theorem bare_to (e : EntryV) (b : Bool) (h : SmallE e) : bareE (toEntryV e b) = bareE e := by
  obtain ⟨⟨h1, h2⟩, h3, h4⟩ := h
  have e1 : bareS (toSys e.system b) = bareS e.system := by
    refine row_ext ?_ rfl
    simp only [bareS_es]
    rw [toSys_es _ _ h1, List.map_map]
    apply List.map_congr_left
    intro p hp
    exact bareRow_congr (toPoly_es p b (h2 p hp))
  have e2 : bareB (toBoxV e.box b) = bareB e.box := by
    simp only [bareB, toBoxV]
    rw [bareRow_congr (toInts_es _ _ h3), bareRow_congr (toInts_es _ _ h4)]
  simp only [bareE, toEntryV, e1, e2]
theorem bares_to (a : Entries) (b : Bool) (h : a.es.length ≤ 1000000) (hp : ∀ e ∈ a.es, SmallE e) : (toEntries a b).es.map bareE = a.es.map bareE := by
  rw [toEntries_es a b h, List.map_map]
  apply List.map_congr_left
  intro e he
  exact bare_to e b (hp e he)
/-- What is known of a catalogue of bounded size and of its copies. -/
structure CatP (a X Y : Entries) : Prop where
  len : a.es.length ≤ nEntries a
  lX : X.es.length = a.es.length
  lY : Y.es.length = a.es.length
  small : ∀ e ∈ a.es, SmallE e
  pX : ∀ e ∈ X.es, SmallE e
  pY : ∀ e ∈ Y.es, SmallE e
  qX : qL X = qL a
  qY : qL Y = qL a
  bX : X.es.map bareE = a.es.map bareE
  bY : Y.es.map bareE = a.es.map bareE
  toX : L0 n_laws_toEntryS [arg (cE a), argV (.bool false)] = some ⟨[.s (.mk .deep (cE X))], []⟩
  toY : L0 n_laws_toEntryS [arg (cE a), argV (.bool true)] = some ⟨[.s (.mk .deep (cE Y))], []⟩
  int : L0 n_laws_intactEntryS [arg (cE X), arg (cE X)] = some (resB true)
  mark : ∀ k, 0 < k → k ≤ 1000000000 → ∃ (m : Nat) (M : List (List C)), m ≤ k + 9 * nEntries a ∧ k ≤ m ∧ X.es.length + X.sp.length ≤ M.length ∧ L0 n_laws_markEntryS [own (.sl 8 (X.es.map eE ++ X.sp.map eE) []) X.es.length, argI k] = some (backI m (.sl 8 M []))
theorem catP (a : Entries) (hN : nEntries a ≤ 1000000) : CatP a (toEntries a false) (toEntries a true) := by
  have hl0 : a.es.length ≤ nEntries a := by unfold nEntries; omega
  have hl : a.es.length ≤ 1000000 := by omega
  have hp : ∀ e ∈ a.es, SmallE e := by
    intro e he
    have h3 : nEntry e ≤ 1000000 := by have := mem_le_sum (f := nEntry) he; unfold nEntries at hN; omega
    simp only [nEntry, nSys, nBox] at h3
    refine ⟨⟨by omega, fun p hp => ?_⟩, by omega, by omega⟩
    have h4 := mem_le_sum (f := nPoly) hp
    have h5 : p.es.length = nPoly p := rfl
    omega
  have hcnt : ∀ k, endL cntE k a.es ≤ k + 9 * nEntries a := by
    intro k
    have := sum_le_of (l := a.es) (f := cntE) (g := nEntry) (c := 4) (d := 5) (fun e _ => cntE_le e)
    unfold endL
    unfold nEntries
    omega
  have sm : ∀ b, ∀ e ∈ (toEntries a b).es, SmallE e := by
    intro b e he
    rw [toEntries_es a b hl, List.mem_map] at he
    obtain ⟨x, hx, rfl⟩ := he
    exact small_to (hp x hx) _
  have ln : ∀ b, (toEntries a b).es.length = a.es.length := by intro b; rw [toEntries_es a b hl]; simp
  refine ⟨hl0, ln _, ln _, hp, sm _, sm _, qL_to a _ hl hp, qL_to a _ hl hp, bares_to a _ hl hp, bares_to a _ hl hp, L_toEntryS (hand := handF) a false hl hp, L_toEntryS (hand := handF) a true hl hp, L_intactEntryS (hand := handF) _ (roomy_to hl hp), fun k hk0 hk => ?_⟩
  have hq : endL cntE k (toEntries a false).es = endL cntE k a.es := endL_q (qL_to a false hl hp) k
  have h9 := hcnt k
  have hmk := L_markEntryS (hand := handF) (toEntries a false) k hk0 (by rw [ln]; exact hl) (sm _) (by rw [hq]; omega)
  have lM : (markEs k (toEntries a false)).es.length = (toEntries a false).es.length := markL_length _ _ _ _
  refine ⟨_, (markEs k (toEntries a false)).es.map eE ++ (markEs k (toEntries a false)).sp.map eE, by rw [← hq] at h9; exact h9, by unfold endL; omega, ?_, hmk⟩
  rw [List.length_append, List.length_map, List.length_map, lM, markEs_sp]
  exact Nat.le_refl _
/-- What is known of a result: bare entries, marked and read. -/
structure OutP (W : List EntryV) (m : Nat) (M : List (List C)) : Prop where
  eq : L0 n_laws_eqEntryS [arg (.sl 8 (W.map eE) []), arg (.sl 8 (W.map eE) [])] = some (resB true)
  mark : L0 n_laws_markEntryS [own (.sl 8 (W.map eE) []) (W.map eE).length, argI 101] = some (backI m (.sl 8 M []))
  held : L0 n_laws_heldEntryS [arg (.sl 8 M []), argI 101] = some (resI (m : Int))
  len : M.length = (W.map eE).length
theorem outP (W : List EntryV) (hl : W.length ≤ 1000000) (hp : ∀ e ∈ W, SmallE e) : ∃ m M, OutP W m M := by
  obtain ⟨R, hR⟩ : ∃ R : Entries, R = ⟨W, [], by simp; omega⟩ := ⟨_, rfl⟩
  have e1 : R.es = W := by rw [hR]
  have e2 : R.sp = [] := by rw [hR]
  have hc : ∀ e ∈ W, cntE e ≤ 4000002000010 := by
    intro e he
    obtain ⟨⟨h1, h2⟩, h3, h4⟩ := hp e he
    have h5 : (e.system.es.map cntP).sum ≤ 0 * (e.system.es.map nPoly).sum + 4000000 * e.system.es.length := sum_le_of (fun p hp => by have := h2 p hp; simp [cntP]; omega)
    unfold cntE
    omega
  have hk : endL cntE 101 R.es < 4611686018427387904 := by
    have h6 : (W.map cntE).sum ≤ 0 * (W.map nEntry).sum + 4000002000010 * W.length := sum_le_of (fun e he => by have := hc e he; omega)
    rw [e1]
    unfold endL
    omega
  have hpR : ∀ e ∈ R.es, SmallE e := by rw [e1]; exact hp
  have hEq := L_eqEntryS (hand := handF) R R
  have hM := L_markEntryS (hand := handF) R 101 (by omega) (by rw [e1]; exact hl) hpR hk
  have hH := L_heldEntryS (hand := handF) R 101 (by omega) (by rw [e1]; exact hl) hpR hk
  have c1 : cE R = .sl 8 (W.map eE) [] := by unfold cE; rw [e1, e2]; rfl
  have c2 : wE R = .sl 8 (W.map eE) [] := by unfold wE; rw [e1, e2]; simp
  have c3 : cE (markEs 101 R) = .sl 8 ((markEs 101 R).es.map eE) [] := by unfold cE; rw [markEs_sp, e2]; rfl
  have c4 : wE (markEs 101 R) = .sl 8 ((markEs 101 R).es.map eE) [] := by unfold wE; rw [markEs_sp, e2]; simp
  have lM : (markEs 101 R).es.length = R.es.length := markL_length _ _ _ _
  rw [c1] at hEq
  rw [c2, c4, e1] at hM
  rw [c3] at hH
  simp only [beq_self_eq_true] at hEq
  refine ⟨endL cntE 101 R.es, (markEs 101 R).es.map eE, hEq, ?_, hH, ?_⟩
  · rw [List.length_map, e1]; exact hM
  · rw [List.length_map, List.length_map, lM, e1]
end Go.Proofs.YtecmolmlojehgaaGreat.T
namespace Go.Proofs.YtecmolmlojehgaaGreat.T
open Go
set_option maxHeartbeats 16000000
attribute [-simp] List.getElem_cons_drop List.map_drop List.map_take List.map_map eqCells
theorem meetOpt_small {a : List EntryV} (ha : ∀ x ∈ a, SmallE x) {e m : EntryV} (he : SmallE e) (h : meetOpt a e = some m) : SmallE m := by
  unfold meetOpt at h
  split at h
  · split at h
    · rename_i x hx
      have hs := ha x (List.mem_of_getElem? hx)
      split at h
      · injection h with h; subst h; exact hs
      · split at h
        · injection h with h; subst h; exact he
        · split at h
          · split at h
            · injection h with h; subst h; exact small_meet (e := e) hs
            · cases h
          · cases h
    · cases h
  · injection h with h; subst h; exact he
theorem specGo_small {a : List EntryV} (ha : ∀ x ∈ a, SmallE x) : ∀ (r : List EntryV) {out o : List EntryV}, (∀ x ∈ r, SmallE x) → (∀ x ∈ out, SmallE x) → specGo a out r = some o → o.length ≤ out.length + r.length ∧ ∀ x ∈ o, SmallE x
  | [], out, o, _, ho, h => by
    simp only [specGo, Option.some.injEq] at h
    subst h
    exact ⟨by simp, ho⟩
  | e :: r, out, o, hr, ho, h => by
    simp only [specGo] at h
    split at h
    · rename_i m hm
      have hs := meetOpt_small ha (hr e (List.mem_cons_self ..)) hm
      obtain ⟨h1, h2⟩ := specGo_small ha r (fun x hx => hr x (List.mem_cons_of_mem _ hx)) (fun x hx => by
        rcases putL_mem hx with hx | rfl
        · exact ho x hx
        · exact small_bare hs) h
      have := putL_length out m
      exact ⟨by simp only [List.length_cons]; omega, h2⟩
    · cases h
theorem joinFin_small {a r : List EntryV} (ha : ∀ x ∈ a, SmallE x) (hr : ∀ x ∈ r, SmallE x) (hl : a.length + r.length ≤ 1000000) : (joinFin (specGo a (a.map bareE) r)).2.length ≤ 1000000 ∧ ∀ x ∈ (joinFin (specGo a (a.map bareE) r)).2, SmallE x := by
  cases h : specGo a (a.map bareE) r with
  | none => simp [joinFin]
  | some o =>
    obtain ⟨h1, h2⟩ := specGo_small ha r hr (fun x hx => by
      obtain ⟨y, hy, rfl⟩ := List.mem_map.1 hx
      exact small_bare (ha y hy)) h
    rw [List.length_map] at h1
    unfold joinFin
    simp only
    split
    · exact ⟨by simp only; omega, h2⟩
    · simp
theorem L_law7 (a b : Entries) (hla : a.es.length ≤ 140737488355328) (hlb : b.es.length ≤ 140737488355328) : L0 n_laws_FnExactJoinCatalogues [arg (cE a), arg (cE b)] = some (resB true) := by
  refine L_body (b := b_laws_FnExactJoinCatalogues) rfl rfl 0 ?_
  intro fuel _
  have hs := L_szEntryS (hand := handF) a 1000000 (by omega) (by omega)
  by_cases h2 : (1000000 : Int) - nEntries a < 0
  · rw [less_neg h2] at hs
    simp -implicitDefEqProofs [b_laws_FnExactJoinCatalogues, hs]
  rw [less_pos h2] at hs
  have hs2 := L_szEntryS (hand := handF) b (1000000 - nEntries a) (by omega) (by omega)
  by_cases h3 : (1000000 : Int) - nEntries a - nEntries b < 0
  · rw [less_neg h3] at hs2
    simp -implicitDefEqProofs [b_laws_FnExactJoinCatalogues, hs, hs2, h2]
  rw [less_pos h3] at hs2
  have cA := catP a (by omega)
  have cB := catP b (by omega)
  generalize toEntries a false = A1 at cA
  generalize toEntries a true = A2 at cA
  generalize toEntries b false = B1 at cB
  generalize toEntries b true = B2 at cB
  have hab : a.es.length + b.es.length ≤ 1000000 := by have := cA.len; have := cB.len; omega
  have okOf : ∀ {L : Entries}, catOk (qL L) = true → ∀ e ∈ L.es, boxOk (pB e.box) = true := by
    intro L h e he
    simp only [catOk, Bool.and_eq_true] at h
    have h4 := catGo_all h.1 _ (List.mem_map_of_mem (f := qE) he)
    simp only [entryOk, bothOk, Bool.and_eq_true] at h4
    exact h4.2.1.2.1
  have hSpec := L_specJoin A1 B1 (by rw [cA.lX, cB.lX]; exact hab) cA.pX cB.pX
  have hImpl := L_implJoin A1 B1 (by rw [cA.lX, cB.lX]; exact hab) cA.pX cB.pX cat_sorted okOf okOf
  have hImpl2 := L_implJoin A2 B2 (by rw [cA.lY, cB.lY]; exact hab) cA.pY cB.pY cat_sorted okOf okOf
  rw [cA.qY, cB.qY, cA.bY, cB.bY] at hImpl2
  rw [cA.qX, cB.qX, cA.bX, cB.bX] at hImpl
  rw [cA.qX, cB.qX] at hSpec
  obtain ⟨r, hr⟩ : ∃ r, r = (if catOk (qL a) = true ∧ catOk (qL b) = true then joinFin (implGo (a.es.map bareE) (b.es.map bareE)) else (false, [])) := ⟨_, rfl⟩
  have hr' : (if catOk (qL a) = true ∧ catOk (qL b) = true then joinFin (specGo A1.es (A1.es.map bareE) B1.es) else (false, [])) = r := by
    rw [hr]
    by_cases h : catOk (qL a) = true ∧ catOk (qL b) = true
    · rw [if_pos h, if_pos h, join_law (by rw [cA.qX]; exact h.1) (by rw [cB.qX]; exact h.2), cA.bX, cB.bX]
    · rw [if_neg h, if_neg h]
  have hW : r.2.length ≤ 1000000 ∧ ∀ x ∈ r.2, SmallE x := by
    rw [← hr']
    split
    · exact joinFin_small cA.pX cB.pX (by rw [cA.lX, cB.lX]; exact hab)
    · simp
  rw [← hr] at hImpl hImpl2
  rw [hr'] at hSpec
  clear hr hr'
  obtain ⟨ok, W⟩ := r
  obtain ⟨m, M, hO⟩ := outP W hW.1 hW.2
  obtain ⟨m1, MA, kb1, kc1, la, hMA⟩ := cA.mark 101 (by omega) (by omega)
  obtain ⟨m2, MB, kb2, kc2, lb, hMB⟩ := cB.mark m1 (by omega) (by omega)
  have hMA : L0 n_laws_markEntryS [own (.sl 8 (A1.es.map eE ++ A1.sp.map eE) []) A1.es.length, argI 101] = some (backI m1 (.sl 8 MA [])) := hMA
  clear hW okOf
  obtain ⟨hEq, hMW, hHW, lM⟩ := hO
  have hTA := cA.toX
  have hTA2 := cA.toY
  have hTB := cB.toX
  have hTB2 := cB.toY
  have hIA := cA.int
  have hIB := cB.int
  clear cA cB
  simp only [resJ] at hSpec hImpl hImpl2
  obtain ⟨G, hG⟩ : ∃ G, G = W.map eE := ⟨_, rfl⟩
  rw [← hG] at hSpec hImpl hImpl2 hEq hMW lM
  have tG : G.take G.length = G := List.take_length
  have dG : G.drop G.length = [] := List.drop_length
  have tM : M.take G.length = M := by rw [← lM]; exact List.take_length
  have dM : M.drop G.length = [] := by rw [← lM]; exact List.drop_length
  have hm0 : ¬ ((m : Int) < 0) := by omega
  have hm20 : ¬ ((m2 : Int) < 0) := by omega
  simp -implicitDefEqProofs [b_laws_FnExactJoinCatalogues, hs, hs2, h2, h3, hTA, hTB, hTA2, hTB2, hSpec, hImpl, hImpl2, hIA, hIB, hMA, hMB, hEq, hMW, hHW, tG, dG, tM, dM, hm0, hm20, lM, la, lb]
end Go.Proofs.YtecmolmlojehgaaGreat.T
namespace Go.Proofs.YtecmolmlojehgaaGreat.T
open Go
section
variable {P : Program} {w : World} {home : Home} {hd : Lb → Value} {rt : Rts}
theorem cmpB_eq : ∀ a b : List UInt8, Lib.compareBytes a b = if Op.bytesLess a b then -1 else if a == b then 0 else 1
  | [], [] => rfl
  | [], _ :: _ => rfl
  | _ :: _, [] => by simp [Lib.compareBytes, Op.bytesLess]
  | x :: a, y :: b => by
    have ih := cmpB_eq a b
    unfold Lib.compareBytes Op.bytesLess
    by_cases h : x < y
    · simp [h]
    · by_cases e : x = y
      · subst e
        simp only [h, if_false, ih, decide_false, Bool.false_or, beq_self_eq_true, Bool.true_and, List.cons_beq_cons]
      · have h2 : y < x := UInt8.lt_of_le_of_ne (UInt8.not_lt.1 h) (Ne.symm e)
        simp [h, h2, e]
theorem sat_cmp {f : FuncId} {fn : Func} (hf : P.funcs[f]? = some fn) (hname : (fn.name == "runtime.NumGoroutine") = false) (hb : fn.body.isNone = true) (hn : Extern.findNext fn = none) (he : Extern.find fn = some Extern.BytealgCompare.compare) (a b : ByteArray) :
    Sat ids P f [argV (.string a), argV (.string b)] (resI (cmpN a b)) := by
  intro w home hd vs hlen hrel hargs _
  match vs, hlen with
  | [u, v], _ =>
    have h1 := hargs 0 _ u rfl rfl
    have h2 := hargs 1 _ v rfl rfl
    have e1 : u = .string a := svR_val (w := w) (home := home) (hd := hd) (rt := (initFr [argV (.string a), argV (.string b)]).rt) h1
    have e2 : v = .string b := svR_val (w := w) (home := home) (hd := hd) (rt := (initFr [argV (.string a), argV (.string b)]).rt) h2
    subst e1 e2
    refine Or.inr ⟨.int .i64 (cmpN a b), w, ?_, home, hd, F0, [.int .i64 (cmpN a b)], rfl, ?_⟩
    · rw [run_callFunc_extern hf hname hb hn he, Lib.run_compareString, cmpB_eq]
      simp only [cmpN, lessN, Lib.toList_data, Result.andThen_ok]
    · refine ⟨hrel, ⟨[.int .i64 (cmpN a b)], rfl, fun j o c v hc hv => ?_, ⟨_, [], [], rfl, rfl, rfl, rfl⟩⟩, fun j r h => (by cases h), rfl, rfl, rfl, Nat.le_refl _, fun _ _ h => ⟨rfl, h⟩, fun _ _ _ h => ⟨rfl, h⟩, fun _ _ _ _ _ => rfl⟩
      match j with
      | 0 =>
        simp only [resI, cellsOf, List.getElem?_cons_zero, Option.some.injEq, RC.mk.injEq] at hc hv
        obtain ⟨rfl, rfl⟩ := hc
        subst hv
        exact ⟨Or.inl ⟨rfl, CR.val rfl⟩, fun h => absurd rfl h⟩
      | j + 1 => simp [resI, cellsOf] at hc
def pc0 (sz : Nat) : PC := .ops [o 2 (.mkn (.fl sz))] [0]
def pc2 (sz : Nat) : PC := .seq (.ops [o 2 (.mkn (.fl sz))] [2]) .ret
def pc3 (sz bytes : Nat) : PC := .seq (.ops [o 5 (.bs (.fl sz) []), o 6 (.mv (.t 0)), o 7 (.app (.fl sz) bytes (.t 5) (.t 6)), o 2 (.mv (.t 7))] [2]) .ret
def noCall : Call := fun _ _ => none
def fr1 (c : C) : Fr := ⟨asl [(0, .v (.s (.c c)))], asl [], []⟩
def fr2 (c : C) : Fr := ⟨upd (fr1 c).sl 3 (.v (.s (.c c))), asl [], []⟩
def fr3 (c : C) (b : Bool) : Fr := ⟨upd (fr2 c).sl 4 (.sv (.v (.bool b))), asl [], []⟩
def pfC : PFunc := ⟨1, 8, .skip, [.t 2]⟩
theorem run0 (sz : Nat) (c : C) : runC noCall 0 (pc0 sz) (initFr [.imm (.s (.c c))]) = some (.normal, fr1 c) := by
  simp [pc0, runC, Fr.steps, fr1]
theorem run1 (c : C) : (fr1 c).step noCall (o 3 (.mv (.t 0))) = some (fr2 c) := by
  simp [fr1, fr2]
theorem of_runK {pc : PC} {fr : Fr} {r : Res} (h : runK noCall 0 pc (kRes [.t 2]) fr = some r) : ∃ e fr', runC noCall 0 pc fr = some (e, fr') ∧ (e = .normal ∨ e = .ret) ∧ finish pfC fr' = some r := by
  rw [runK_eq] at h
  cases hc : runC noCall 0 pc fr with
  | none => rw [hc] at h; cases h
  | some x =>
    obtain ⟨e, fr'⟩ := x
    rw [hc] at h
    refine ⟨e, fr', rfl, ?_⟩
    cases e with
    | normal => exact ⟨Or.inl rfl, h⟩
    | ret => exact ⟨Or.inr rfl, h⟩
    | exit i => cases h
theorem run2 (sz : Nat) (c : C) (b : Bool) : runK noCall 0 (pc2 sz) (kRes [.t 2]) (fr3 c b) = some ⟨[.s (.mk .deep (.fl sz [] []))], []⟩ := by
  simp [pc2, fr3, fr2, fr1]
theorem run3 (sz bytes : Nat) (es sp : List (List Value)) (b : Bool) (h : es.length * bytes ≤ 140737488355328) (h2 : es.length ≤ 9223372036854775807) :
    runK noCall 0 (pc3 sz bytes) (kRes [.t 2]) (fr3 (.fl sz es sp) b) = some ⟨[.s (.mk .deep (.fl sz es []))], []⟩ := by
  simp [pc3, fr3, fr2, fr1, h, h2]
theorem ops_ret {l : List POp} {k : List Nat} {fr fr' : Fr} {e : Ex} (h : runC noCall 0 (.seq (.ops l k) .ret) fr = some (e, fr')) : e = .ret := by
  simp only [runC] at h
  cases hs : fr.steps noCall l with
  | none => rw [hs] at h; cases h
  | some x => rw [hs] at h; simp at h; exact h.1.symm
theorem sat_clone {f : FuncId} {fn : Func} {code0 code2 code3 : Code} {oA oB : Oper} {i t t2 sz bytes : Nat} (hf : P.funcs[f]? = some fn) (hname : (fn.name == "runtime.NumGoroutine") = false)
    (hb : fn.body = some (.seq code0 (.seq (.seq (.region i #[oA, oB] false) (.cond (.tmp 4) code2 .skip)) code3))) (hN : fn.ntmps = 8)
    (a1 : oA.dst = some 3) (a2 : oA.guard = none) (a3 : oA.op = .move (.tmp 0)) (b1 : oB.dst = some 4) (b2 : oB.guard = none) (b3 : oB.op = .binOp .eql t (.tmp 3) (.const (.slice none 0 0)) t2)
    (ht : ∃ e, P.underlying t = some (.slice e)) (m0 : mC ids P 8 code0 (pc0 sz) = true) (m2 : mC ids P 8 code2 (pc2 sz) = true) (m3 : mC ids P 8 code3 (pc3 sz bytes) = true) (mr : all2 (mRes P) fn.results.toList [.t 2] = true)
    (hbytes : bytes ≤ 64) (hsz : 0 < sz) (es sp : List (List Value)) (hes : es.length ≤ 1000000) :
    Sat ids P f [.imm (.s (.c (.fl sz es sp)))] ⟨[.s (.mk .deep (.fl sz es []))], []⟩ := by
  intro w home hd vs hlen hrel hargs _
  match vs, hlen with
  | [v], _ =>
    obtain ⟨c, hc⟩ : ∃ c, c = C.fl sz es sp := ⟨_, rfl⟩
    rw [← hc] at hrel hargs ⊢
    have hcall : ∀ f args r, noCall f args = some r → SatG ids P (ids f) (shapeOf f) args r := fun f args r h => by cases h
    refine Or.inl ⟨?_, ?_⟩
    · unfold callFunc
      simp only [Sem.run_bind, run_program, Result.andThen_ok, hf, hname, hb, Option.isNone_some, Bool.false_eq_true, if_false, Sem.run_pure]
    · have h0 : CR w home .imm c v := hargs 0 _ v rfl rfl
      have hfr : FrR ids w home hd 8 (initFr [.imm (.s (.c c))]) { tmps := #[v] ++ Array.replicate (8 - 1) undef, defers := [] } := by
        refine ⟨hrel, fun t av ht => ?_, by simp, rfl⟩
        have e : (initFr [.imm (.s (.c c))]).sl t = if t = 0 then some (.v (.s (.c c))) else none := by simp
        rw [e] at ht
        split at ht
        · rename_i e0
          subst e0
          injection ht with ht
          subst ht
          exact ⟨v, rfl, h0, fun i hi => by cases hi⟩
        · cases ht
      refine calls_of_wp hf hb ?_
      rw [hN]
      have fin : ∀ {pc : PC} {code : Code} {fr : Fr} {a : Act} {w1 : World} {home1 : Home} {hd1 : Lb → Value}, mC ids P 8 code pc = true → fr.ps = [] → Grow w home hd (initFr [.imm (.s (.c c))]).rt w1 home1 hd1 fr.rt → FrR ids w1 home1 hd1 8 fr a → runK noCall 0 pc (kRes [.t 2]) fr = some ⟨[.s (.mk .deep (.fl sz es []))], []⟩ →
          ∀ Q : Exit → Act → World → Prop, (∀ (e : Ex) fr' a' w', runC noCall 0 pc fr = some (e, fr') → bodyPost P fn (fun e w' => ∃ v, e = .returned v ∧ ∃ home' hd' F' us, v = retV us ∧ Ret w home hd (initFr [.imm (.s (.c c))]).ps w' home' hd' F' ⟨[.s (.mk .deep (.fl sz es []))], []⟩ us) (exOf e) a' w' → Q (exOf e) a' w') → code.wp P Q a w1 := by
        intro pc code fr a w1 home1 hd1 hm hps hg hfr hrun Q hQ
        obtain ⟨e, fr', hc', he, hfin⟩ := of_runK hrun
        refine runC_ok hcall pc hm hc' hfr (fun a' w' home' hd' g hf' => ?_)
        obtain ⟨us, hr, home2, hd2, F', hret⟩ := finish_ok (P := P) (hg.trans g) hf' (pf := pfC) mr hfin
        rw [runC_ps _ hc', hps] at hret
        rcases he with rfl | rfl
        · exact hQ .normal fr' _ _ hc' ⟨hf'.nd, _, hr, _, rfl, home2, hd2, F', us, rfl, hret⟩
        · exact hQ .ret fr' _ _ hc' ⟨hf'.nd, _, hr, _, rfl, home2, hd2, F', us, rfl, hret⟩
      refine wp_seq (runC_ok hcall (pc0 sz) m0 (run0 sz c) hfr (fun a1' w1 home1 hd1 g1 hf1 => ?_))
      refine wp_seq (wp_seq (wp_region ?_))
      have hr2 : List.range #[oA, oB].size = [0, 1] := rfl
      rw [hr2]
      have hA : mOp ids P 8 #[oA, oB] oA (o 3 (.mv (.t 0))) = true := by
        simp [mOp, mDst, mG, mAny, mPO, mMv, mOpd, a1, a2, a3]
      refine step_ok hcall hf1 hA (run1 c) (fun a2' w2 home2 hd2 g2 hf2 => ?_)
      have hw : Region.wanted oB (yielded #[oA, oB] a2'.tmps) = true := by unfold Region.wanted; rw [b2]
      show if Region.wanted oB (yielded #[oA, oB] a2'.tmps) then _ else _
      rw [hw, if_pos rfl]
      have h3 : CR w2 home2 .imm c (a2'.eval (.tmp 3)) := (hf2.tmp (t := 3) (av := .v (.s (.c c))) (by simp [fr2])).1
      rw [hc] at h3
      cases h3 with
      | fl he hh =>
        obtain ⟨_, hle, ad, cap, hu, hcap, _, hcells⟩ := hh
        obtain ⟨e, hte⟩ := ht
        have hok : OpOk ids P oB a2' w2 home2 hd2 (fr2 c).rt (.sv (.v (.bool ad.isNone))) (fr2 c).rt := by
          refine .value (v := .bool ad.isNone) (w' := w2) ?_ (Step.refl hf2.rel) (avr_v rfl)
          unfold execOp
          rw [b3]
          have hk : a2'.eval (.const (.slice none 0 0)) = .slice none 0 0 := rfl
          simp only [hk, hu, Sem.run_bind, run_eqGuard (u := .slice ad es.length cap) (by simp) (by simp), Result.andThen_ok, binOp, run_equal_slice_nil w2 t e ad es.length cap hte, Sem.run_pure]
        refine Or.inl (hok _ _ (fun v4 w3 home3 hd3 s3 hv4 => ?_))
        have hf3 : FrR ids w3 home3 hd3 8 (fr3 c ad.isNone) (a2'.put oB.dst v4) := by
          have := hf2.put s3 (d := some 4) (fun t e => by injection e with e; subst e; decide) hv4 (fun i hi => by cases hi)
          rw [b1]
          exact this
        have hg3 : Grow w home hd (initFr [.imm (.s (.c c))]).rt w3 home3 hd3 (fr3 c ad.isNone).rt := (g1.trans g2).trans s3.grow
        have ht4 : (a2'.put oB.dst v4).eval (.tmp 4) = .bool ad.isNone := by
          have := (hf3.tmp (t := 4) (av := .sv (.v (.bool ad.isNone))) (by simp [fr3])).1
          exact svR_val (w := w3) (home := home3) (hd := hd3) (rt := (fr3 c ad.isNone).rt) this
        refine wp_cond ht4 ?_
        cases hb0 : ad.isNone with
        | true =>
          have hes0 : es = [] := by
            have hnil : ad = none := by cases ad <;> first | rfl | cases hb0
            subst hnil
            cases es with
            | nil => rfl
            | cons x es =>
              obtain ⟨b, o, h, _⟩ := hcells 0 0 (by simp only [List.length_cons]; omega) hsz
              cases h
          rw [if_pos rfl]
          rw [hb0] at hf3 hg3
          refine fin m2 rfl hg3 hf3 (by rw [hes0]; exact run2 sz c true) _ (fun e fr' a' w' he hp => ?_)
          obtain rfl := ops_ret he
          exact hp
        | false =>
          rw [if_neg (by simp)]
          refine wp_skip ?_
          rw [hb0] at hf3 hg3
          refine fin m3 rfl hg3 hf3 (by rw [hc]; exact run3 sz bytes es sp false (Nat.le_trans (Nat.mul_le_mul hes hbytes) (by decide)) (by omega)) _ (fun e fr' a' w' he hp => ?_)
          obtain rfl := ops_ret he
          exact hp
end
end Go.Proofs.YtecmolmlojehgaaGreat.T
namespace Go.Proofs.YtecmolmlojehgaaGreat.T
open Go
section
variable {P : Program} {f : FuncId}
theorem ok_clone {sz : Nat} (hs : ∀ es sp : List (List Value), es.length ≤ 1000000 → Sat ids P f [.imm (.s (.c (.fl sz es sp)))] ⟨[.s (.mk .deep (.fl sz es []))], []⟩) (args : List Arg) (r : Res) (h : handClone sz args = some r) : Sat ids P f args r := by
  unfold handClone at h
  split at h
  · split at h
    · rename_i hc
      injection h with h
      obtain ⟨rfl, hn⟩ := hc
      subst h
      exact hs _ _ hn
    · cases h
  · cases h
theorem ok_cmp (hs : ∀ a b : ByteArray, Sat ids P f [argV (.string a), argV (.string b)] (resI (cmpN a b))) (args : List Arg) (r : Res) (h : handCmp args = some r) : Sat ids P f args r := by
  unfold handCmp at h
  split at h
  · injection h with h
    subst h
    exact hs _ _
  · cases h
theorem ok_insert {sz : Nat} (hs : ∀ (es : List (List C)) (e : List C) (i : Nat), i ≤ es.length → es.length ≤ 1000000 → Sat ids P f [.arr true (.sl sz es []) es.length, argI i, .arr true (.sl sz [e] []) 1] ⟨[.s (.mk .deep (.sl sz (es.take i ++ [e] ++ es.drop i) []))], [none, none]⟩) (args : List Arg) (r : Res) (h : handInsert sz args = some r) : Sat ids P f args r := by
  unfold handInsert at h
  split at h
  · rename_i s0 es n0 i s1 e
    split at h
    · rename_i hc
      injection h with h
      obtain ⟨rfl, rfl, rfl, h1, h2, h3⟩ := hc
      subst h
      obtain ⟨n, rfl⟩ : ∃ n : Nat, i = n := ⟨i.toNat, by omega⟩
      have := hs es e n (by omega) h3
      simpa using this
    · cases h
  · cases h
theorem ok_sort (hs : ∀ ss : List (List UInt8), ss.length ≤ 1000000 → Sat ids P f [.arr true (.fl 1 (ss.map eStr) []) ss.length] ⟨[], [some (.arr true false (.fl 1 ((sortL ss).map eStr) []))]⟩) (args : List Arg) (r : Res) (h : handSort args = some r) : Sat ids P f args r := by
  unfold handSort at h
  split at h
  · split at h
    · rename_i ss hss
      split at h
      · rename_i hc
        injection h with h
        obtain ⟨rfl, hn⟩ := hc
        subst h
        rw [strs_some hss]
        exact hs ss hn
      · cases h
    · cases h
  · cases h
theorem ok_compact (hs : ∀ ss : List (List UInt8), ss.length ≤ 1000000 → (Lib.compact ss).length ≤ ss.length → Sat ids P f [.arr true (.fl 1 (ss.map eStr) []) ss.length] ⟨[.s (.mk .deep (.fl 1 ((Lib.compact ss).map eStr) []))], [none]⟩) (args : List Arg) (r : Res) (h : handCompact args = some r) : Sat ids P f args r := by
  unfold handCompact at h
  split at h
  · split at h
    · rename_i ss hss
      split at h
      · rename_i hc
        injection h with h
        obtain ⟨rfl, hn, hl⟩ := hc
        subst h
        rw [strs_some hss]
        exact hs ss hn hl
      · cases h
    · cases h
  · cases h
theorem hand_shape {args : List Arg} {r : Res} (l : List (Nat × (List Arg → Option Res))) (hl : l.all (fun x => (shapeOf x.1).isEmpty) = true) (f : Nat) (h : (match l.lookup f with | some g => g args | none => none) = some r) : shapeOf f = [] := by
  split at h
  · rename_i g hg
    have key : ∀ (l : List (Nat × (List Arg → Option Res))), l.lookup f = some g → (f, g) ∈ l := by
      intro l
      induction l with
      | nil => intro h; cases h
      | cons x l ih =>
        intro h
        obtain ⟨k, q⟩ := x
        rw [List.lookup_cons] at h
        split at h
        · rename_i e
          have e := eq_of_beq e
          subst e
          injection h with h
          subst h
          exact List.mem_cons_self
        · exact List.mem_cons_of_mem _ (ih h)
    have := List.all_eq_true.1 hl _ (key l hg)
    simpa using this
  · cases h
theorem ok_nil {args : List Arg} {r : Res} (l : List (Nat × (List Arg → Option Res))) (F : Nat → Nat) (n : Nat) (h : (match l.lookup n with | some g => g args | none => none) = some r) (hl : ∀ x ∈ l, ∀ args r, x.2 args = some r → Sat ids P (F x.1) args r) : Sat ids P (F n) args r := by
  split at h
  · rename_i g hg
    have key : ∀ (l : List (Nat × (List Arg → Option Res))), l.lookup n = some g → (n, g) ∈ l := by
      intro l
      induction l with
      | nil => intro h; cases h
      | cons x l ih =>
        intro h
        obtain ⟨k, q⟩ := x
        rw [List.lookup_cons] at h
        split at h
        · rename_i e
          have e := eq_of_beq e
          subst e
          injection h with h
          subst h
          exact List.mem_cons_self
        · exact List.mem_cons_of_mem _ (ih h)
    exact hl (n, g) (key l hg) args r h
  · cases h
end
end Go.Proofs.YtecmolmlojehgaaGreat.T
namespace Go.Proofs.YtecmolmlojehgaaGreat.T
open Go
section
variable {P : Program}
theorem setCells_heap (b : Nat) : ∀ (vs : List Value) (o : Nat) (w : World) (cur : Array Value) (e : TypeId), w.heap[b]? = some (.cells cur e (0, 0)) → o + vs.length ≤ cur.size →
    ∃ cur2, (w.setCells b o vs).heap[b]? = some (.cells cur2 e (0, 0)) ∧ cur2.size = cur.size ∧ (∀ j, cur2[j]? = if o ≤ j ∧ j < o + vs.length then vs[j - o]? else cur[j]?) ∧ (∀ k, k ≠ b → (w.setCells b o vs).heap[k]? = w.heap[k]?) ∧
      (w.setCells b o vs).heap.size = w.heap.size ∧ (w.setCells b o vs).os = w.os ∧ (w.setCells b o vs).tape = w.tape ∧ (w.setCells b o vs).output = w.output
  | [], o, w, cur, e, hg, _ => ⟨cur, hg, rfl, fun j => by rw [if_neg (by simp)], fun _ _ => rfl, rfl, rfl, rfl, rfl⟩
  | v :: vs, o, w, cur, e, hg, hl => by
    simp only [List.length_cons] at hl
    have h1 := heap_setCell_same w b o cur e v hg
    obtain ⟨cur2, g1, g2, g3, g4, g5, g6, g7, g8⟩ := setCells_heap b vs (o + 1) (w.setCell ⟨b, o, none⟩ v) _ e h1 (by simp; omega)
    refine ⟨cur2, g1, by rw [g2]; simp, fun j => ?_, fun k hk => (g4 k hk).trans (heap_setCell_other w _ k v hk), g5.trans (by simp [World.setCell]), g6, g7, g8⟩
    rw [g3]
    by_cases hj : j = o
    · subst hj
      rw [if_neg (by omega), if_pos (by simp), Nat.sub_self, Array.getElem?_setIfInBounds_self_of_lt (by omega)]
      rfl
    · by_cases hr : o + 1 ≤ j ∧ j < o + 1 + vs.length
      · rw [if_pos hr, if_pos (by simp; omega), show j - o = (j - (o + 1)) + 1 by omega, List.getElem?_cons_succ]
      · rw [if_neg hr, if_neg (by simp; omega), Array.getElem?_setIfInBounds_ne (Ne.symm hj)]
end
theorem frozen_row {w : World} {b j : Nat} {cur : Array Value} {e : TypeId} (h : w.heap[b]? = some (.cells cur e (0, 0))) : w.frozen? ⟨b, j, none⟩ = false := by
  simp [World.frozen?, h]
theorem shape_row {w : World} {b : Nat} {cur : Array Value} {e : TypeId} {f : Nat × Nat} (h : w.heap[b]? = some (.cells cur e f)) : w.shape? b = some (e, cur.size) := by
  simp [World.shape?, h]
/-- What the call leaves: a row in some block, all else as it was. -/
def InsEnd (w : World) (rows : List Value) (n : Nat) (home1 : Home) (v' : Value) (w2 : World) : Prop :=
  ∃ B cap' cur' e1, v' = .slice (some ⟨B, 0, none⟩) n cap' ∧ n ≤ cap' ∧ cap' ≤ maxLen ∧ w2.heap[B]? = some (.cells cur' e1 (0, 0)) ∧ cur'.size = cap' * 8 ∧ (∀ (j : Nat) u, rows[j]? = some u → cur'[j]? = some u) ∧
    (∀ b', b' < w.heap.size → b' ≠ B → w2.heap[b']? = w.heap[b']?) ∧ (B < w.heap.size → home1 B = some (.t 0, [])) ∧ w2.os = w.os ∧ w2.tape = w.tape ∧ w2.output = w.output ∧ w.heap.size ≤ w2.heap.size
theorem getElem?_three {α : Type} (a b c : List α) (j : Nat) : (a ++ b ++ c)[j]? = if j < a.length then a[j]? else if j < a.length + b.length then b[j - a.length]? else c[j - (a.length + b.length)]? := by
  by_cases h1 : j < a.length
  · rw [if_pos h1, List.append_assoc, List.getElem?_append_left h1]
  · rw [if_neg h1]
    by_cases h2 : j < a.length + b.length
    · rw [if_pos h2, List.getElem?_append_left (by rw [List.length_append]; omega), List.getElem?_append_right (by omega)]
    · rw [if_neg h2, List.getElem?_append_right (by rw [List.length_append]; omega), List.length_append]
set_option maxRecDepth 100000 in
set_option maxHeartbeats 2000000 in
theorem sat_insert (es : List (List C)) (e : List C) (i : Nat) (hi : i ≤ es.length) (hes : es.length ≤ 1000000) :
    Sat ids Go.Proofs.Tryz.prog 57 [.arr true (.sl 8 es []) es.length, argI i, .arr true (.sl 8 [e] []) 1] ⟨[.s (.mk .deep (.sl 8 (es.take i ++ [e] ++ es.drop i) []))], [none, none]⟩ := by
  intro w home hd vs hlen hrel hargs himm
  match vs, hlen with
  | [v0, v1, v2], _ =>
    have q0 : SVR w home hd (initFr [.arr true (.sl 8 es []) es.length, argI i, .arr true (.sl 8 [e] []) 1]).rt (.ref 0 [] 0 es.length) v0 := hargs 0 _ v0 rfl rfl
    have q1 : v1 = .int .i64 i := svR_val (w := w) (home := home) (hd := hd) (rt := (initFr [.arr true (.sl 8 es []) es.length, argI i, .arr true (.sl 8 [e] []) 1]).rt) (hargs 1 _ v1 rfl rfl)
    have q2 : SVR w home hd (initFr [.arr true (.sl 8 es []) es.length, argI i, .arr true (.sl 8 [e] []) 1]).rt (.ref 128 [] 0 1) v2 := hargs 2 _ v2 rfl rfl
    subst q1
    have hps : (initFr [.arr true (.sl 8 es []) es.length, argI i, .arr true (.sl 8 [e] []) 1]).ps = [0, 128] := rfl
    obtain ⟨rt, hrt⟩ : ∃ rt, rt = (initFr [.arr true (.sl 8 es []) es.length, argI i, .arr true (.sl 8 [e] []) 1]).rt := ⟨_, rfl⟩
    have r0 : rt 0 = some (.arr true false (.sl 8 es [])) := by rw [hrt]; rfl
    have r2 : rt 128 = some (.arr true false (.sl 8 [e] [])) := by rw [hrt]; rfl
    have r3 : rt 64000 = none := by rw [hrt]; rfl
    rw [← hrt] at hrel q0 q2
    rw [hps]
    have htk : takes rt [.ref 0 [] 0 es.length, .ref 128 [] 0 1] = some ([(.deep, .sl 8 es []), (.deep, .sl 8 [e] [])], upd (upd rt 0 .gone) 128 .gone) := by
      have h128 : upd rt 0 .gone 128 = some (.arr true false (.sl 8 [e] [])) := by rw [updF_ne _ _ (by decide)]; exact r2
      have e1 : take rt (.ref 0 [] 0 es.length) = some (.deep, .sl 8 es [], upd rt 0 .gone) := by simp [take, r0, C.shape, C.sub, -upd_at]
      have e2 : take (upd rt 0 .gone) (.ref 128 [] 0 1) = some (.deep, .sl 8 [e] [], upd (upd rt 0 .gone) 128 .gone) := by simp only [take, h128]; simp [C.shape, C.sub, -upd_at]
      simp only [takes, e1, e2]
    obtain ⟨home1, hd1, F1, st1, _, fn, _, _, _, held⟩ := takes_step [.ref 0 [] 0 es.length, .ref 128 [] 0 1] (k := 0) hrel (vs := [v0, v2]) ⟨rfl, fun i x v hx hv => by
        match i with
        | 0 => simp at hx hv; subst hx hv; exact q0
        | 1 => simp at hx hv; subst hx hv; exact q2
        | i + 2 => simp at hx⟩ (fun x hx => by
        simp only [List.mem_cons, List.not_mem_nil, or_false] at hx
        rcases hx with rfl | rfl
        · intro i hi; simp only [SV.ids, List.mem_singleton] at hi; subst hi; rw [r0]; rfl
        · intro i hi; simp only [SV.ids, List.mem_singleton] at hi; subst hi; rw [r2]; rfl) (fun _ _ => rfl) htk
    obtain ⟨Tx, htx, hTx⟩ := ((held 0 _ _ rfl rfl).1).tree st1.rel
    obtain ⟨Ty, hty, hTy⟩ := ((held 1 _ _ rfl rfl).1).tree st1.rel
    simp only [Nat.zero_add] at hTx hTy
    have hlx : Tx.lab = some (.t 0, []) := by
      rcases hTx with ⟨e1, _⟩ | ⟨_, rfl⟩
      · cases e1
      · rfl
    have hly : Ty.lab = some (.t 1, []) := by
      rcases hTy with ⟨e1, _⟩ | ⟨_, rfl⟩
      · cases e1
      · rfl
    obtain ⟨olds, os1, os2, os3, _, os4, ad, cap, osu, osc, osm, osb, _⟩ := sl_cells htx
    obtain ⟨news, ns1, ns2, ns3, _, ns4, ady, capy, nsu, nsc, nsm, nsb, _⟩ := sl_cells hty
    simp only [List.length_nil, Nat.add_zero, List.length_cons, Nat.zero_add, Nat.one_mul] at osc ns1 nsc nsu
    have nsu : v2 = .slice ady 1 capy := nsu
    obtain ⟨vb, curv, ev, ny1, ny2, ny3, ny4, ny5⟩ := nsb _ hly (by omega)
    subst ny1 nsu osu
    have hblk : ∃ b cur e', 0 < cap → ad = some ⟨b, 0, none⟩ ∧ home1 b = some (.t 0, []) ∧ w.heap[b]? = some (.cells cur e' (0, 0)) ∧ cur.size = cap * 8 ∧ ∀ (k : Nat) v, olds[k]? = some v → cur[k]? = some v := by
      by_cases hc : 0 < cap
      · obtain ⟨b, cur, e', k⟩ := osb _ hlx hc
        exact ⟨b, cur, e', fun _ => k⟩
      · exact ⟨0, #[], 0, fun h => absurd h hc⟩
    obtain ⟨b, cur, e', hbk⟩ := hblk
    have hM : maxLen = 9223372036854775807 := rfl
    have hnc : es.length ≤ cap := osc
    have hchk : (match Go.Proofs.Tryz.prog.info? 39 with | some i => i.zero.isSome && i.size == 8 && i.bytes == 120 && (i.zero.getD default).cells.size == 8 | none => false) = true := by kernel_rfl
    obtain ⟨i0, hi0, hz⟩ : ∃ i0, Go.Proofs.Tryz.prog.info? 39 = some i0 ∧ i0.zero.isSome = true ∧ i0.size = 8 ∧ i0.bytes = 120 ∧ (i0.zero.getD default).cells.size = 8 := by
      split at hchk
      · rename_i i0 hi0
        simp only [Bool.and_eq_true, beq_iff_eq] at hchk
        exact ⟨i0, hi0, hchk.1.1.1, hchk.1.1.2, hchk.1.2, hchk.2⟩
      · cases hchk
    obtain ⟨z1, z2, z3, z4⟩ := hz
    obtain ⟨z, hz0⟩ := Option.isSome_iff_exists.1 z1
    rw [hz0] at z4
    simp only [Option.getD_some] at z4
    have ht : Go.Proofs.Tryz.prog.underlying 23 = some (.slice 39) := by kernel_rfl
    have hvb : ∀ (j : Nat) u, news[j]? = some u → w.cell? ⟨vb, j, none⟩ = some u := fun j u hj => by rw [cell_row ny3]; exact ny5 j u hj
    have hrows : ∀ (j : Nat), (olds.take (i * 8) ++ news ++ olds.drop (i * 8))[j]? = if j < i * 8 then olds[j]? else if j < (i + 1) * 8 then news[j - i * 8]? else olds[j - 8]? := by
      intro j
      have hl : (olds.take (i * 8)).length = i * 8 := by rw [List.length_take, os1]; omega
      rw [getElem?_three, hl, ns1]
      by_cases h1 : j < i * 8
      · rw [if_pos h1, if_pos h1, List.getElem?_take_of_lt h1]
      · rw [if_neg h1, if_neg h1]
        by_cases h2 : j < (i + 1) * 8
        · rw [if_pos h2, if_pos (by omega)]
        · rw [if_neg h2, if_neg (by omega), List.getElem?_drop]
          exact congrArg (fun k => olds[k]?) (by omega)
    have hbody : ∃ v' w2, InsEnd w (olds.take (i * 8) ++ news ++ olds.drop (i * 8)) (es.length + 1) home1 v' w2 ∧ Calls Go.Proofs.Tryz.prog 57 #[.slice ad es.length cap, .int .i64 i, .slice (some ⟨vb, 0, none⟩) 1 capy] w (fun e w1 => e = .returned v' ∧ w1 = w2) := by
      by_cases hend : i = es.length
      · subst hend
        have hall : olds.take (es.length * 8) ++ news ++ olds.drop (es.length * 8) = olds ++ news := by
          rw [List.take_of_length_le (by omega), List.drop_eq_nil_of_le (by omega), List.append_nil]
        have hsrc : ∀ w1 : World, w1.heap = w.heap → (Builtin.firstCells i0.size 1 (.slice (some ⟨vb, 0, none⟩) 1 capy)).run Go.Proofs.Tryz.prog w1 = .ok news.toArray w1 := by
          intro w1 hw1
          refine run_firstCells_some w1 i0.size 1 ⟨vb, 0, none⟩ 1 capy news (by rw [z2, ns1]) (fun j u hj => ?_)
          rw [addr_add, Nat.zero_add]
          have := hvb j u hj
          simpa [World.cell?, hw1] using this
        have hold : ∀ (j : Nat) u, olds[j]? = some u → cur[j]? = some u := by
          intro j u hj
          have : 0 < cap := by
            have := (List.getElem?_eq_some_iff.1 hj).1
            omega
          exact (hbk this).2.2.2.2 j u hj
        have happ := fun ty => run_append (P := Go.Proofs.Tryz.prog) (w := w) (t := 23) (t2 := 23) (ty := ty) ht (Or.inr ⟨39, ht⟩) hi0 hz0 (by rw [z4, z2]) (ad := ad) (n := es.length) (cap := cap) (by omega) (b := b) (cur := cur) (e' := e') (fun h0 => ⟨(hbk h0).1, (hbk h0).2.2.1, by rw [z2]; exact (hbk h0).2.2.2.1⟩) (olds := olds) (by rw [z2]; exact os1) hold
          (yv := .slice (some ⟨vb, 0, none⟩) 1 capy) (m := 1) (news := news) (by rw [z2, ns1]) rfl hsrc ns2 (by rw [z3]; omega) (by omega)
        obtain ⟨v', w2, hrun, hcases⟩ := happ 0
        have hrun' : ∀ ty, (Builtin.append_ #[23, 23] ty #[.slice ad es.length cap, .slice (some ⟨vb, 0, none⟩) 1 capy]).run Go.Proofs.Tryz.prog w = .ok v' w2 := fun ty => hrun
        refine ⟨v', w2, ?_, ins_end ad es.length cap vb capy w w2 v' hrun' (by omega) (by omega) (fun h => ?_)⟩
        · rw [hall]
          rw [z2] at hcases
          rcases hcases with ⟨c1, _⟩ | ⟨c1, c2, rfl, rfl⟩ | ⟨cap', c1, c2, c3, rfl, rfl⟩
          · omega
          · obtain ⟨had, hhb, hg, hcs, hcell⟩ := hbk c2
            subst had
            have hle : es.length * 8 + news.length ≤ cur.toList.length := by
              have hsz : cur.toList.length = cur.size := Array.length_toList
              rw [ns1, hsz, hcs]; omega
            obtain ⟨r1, r2⟩ := setRow_step_heap (w := w) (cs := (cur.toList.take (es.length * 8) ++ news ++ cur.toList.drop (es.length * 8 + news.length)).toArray) hg
            refine ⟨b, cap, _, _, rfl, c1, osm, r1, by rw [List.size_toArray, splice_len hle]; simpa using hcs, fun j u hj => ?_, fun b' _ hne => r2 b' hne, fun _ => hhb, rfl, rfl, rfl, by simp⟩
            rw [List.getElem?_toArray, splice_get hle]
            by_cases hjj : j < olds.length
            · rw [List.getElem?_append_left hjj] at hj
              rw [if_neg (by rw [os1] at hjj; omega)]
              have := hold j u hj
              simpa using this
            · rw [List.getElem?_append_right (by omega)] at hj
              have hlt := (List.getElem?_eq_some_iff.1 hj).1
              rw [os1] at hjj hj hlt
              rw [if_pos ⟨by omega, by omega⟩]
              exact hj
          · have hg := heap_alloc_new w.drew (.cells (olds.toArray ++ news.toArray ++ Builtin.zeroCells z.cells (cap' - (es.length + 1))) 39)
            refine ⟨w.heap.size, cap', _, _, rfl, c2, c3, hg, ?_, fun j u hj => ?_, fun b' hb' _ => heap_alloc_old w.drew _ hb', fun h => by omega, rfl, rfl, rfl, Nat.le_of_lt (heap_lt hg)⟩
            · simp only [Array.size_append, List.size_toArray, size_zeroCells, z4, os1, ns1]; omega
            · rw [Array.getElem?_append_left (by have := (List.getElem?_eq_some_iff.1 hj).1; simpa using this)]
              simpa using hj
        · subst h
          apply Nat.eq_zero_of_not_pos
          intro h0
          cases (hbk h0).1
      · have hil : i < es.length := by omega
        obtain ⟨had, hhb, hg, hcs, hcell⟩ := hbk (by omega)
        subst had
        have hcc : ∀ (j : Nat) u, olds[j]? = some u → w.cell? ⟨b, j, none⟩ = some u := fun j u hj => by rw [cell_row hg]; exact hcell j u hj
        have hne : vb ≠ b := fun e => by subst e; rw [hhb] at ny2; cases ny2
        have hdl : (olds.drop (i * 8)).length = (es.length - i) * 8 := by rw [List.length_drop, os1]; omega
        by_cases hroom : es.length + 1 ≤ cap
        · have hc := ins_shift b es.length cap i vb capy olds news w hil hroom (by omega) hne os1 ns1 hcc (fun j hj => by rw [cell_row hg, Array.getElem?_eq_getElem (by omega)]; rfl) (fun j => frozen_row hg) hvb os2 ns2 _ _ _ _ (shape_row ny3) (shape_row hg) (by omega) (frozen_row ny3) (frozen_row ny3)
          obtain ⟨c1, g1, g2, g3, g4, g5, g6, g7, g8⟩ := setCells_heap b (olds.drop (i * 8)) ((i + 1) * 8) w.drew cur e' hg (by rw [hdl, hcs]; omega)
          obtain ⟨c2, f1, f2, f3, f4, f5, f6, f7, f8⟩ := setCells_heap b news (i * 8) _ c1 e' g1 (by rw [g2, ns1, hcs]; omega)
          refine ⟨_, _, ⟨b, cap, c2, e', rfl, hroom, osm, f1, by rw [f2, g2, hcs], fun j u hj => ?_, fun b' _ hb => (f4 b' hb).trans (g4 b' hb), fun _ => hhb, f6.trans g6, f7.trans g7, f8.trans g8, by rw [f5, g5]; exact Nat.le_refl _⟩, hc⟩
          rw [hrows] at hj
          rw [f3, g3, ns1, hdl]
          by_cases h1 : j < i * 8
          · rw [if_pos h1] at hj
            rw [if_neg (by omega), if_neg (by omega)]
            exact hcell j u hj
          · rw [if_neg h1] at hj
            by_cases h2 : j < (i + 1) * 8
            · rw [if_pos h2] at hj
              rw [if_pos (by omega)]
              exact hj
            · rw [if_neg h2] at hj
              have := (List.getElem?_eq_some_iff.1 hj).1
              rw [if_neg (by omega), if_pos (by omega), List.getElem?_drop, show i * 8 + (j - (i + 1) * 8) = j - 8 by omega]
              exact hj
        · have hc := ins_grow b es.length cap i vb capy olds news w hil hnc (by omega) (by omega) os1 ns1 hcc (heap_lt hg) (heap_lt ny3) hvb os2 ns2 z i0 hi0 hz0 z3 z4
          obtain ⟨G, hG⟩ : ∃ G, G = grownCap w (es.length + 1) cap 39 := ⟨_, rfl⟩
          rw [← hG] at hc
          have hGn : es.length + 1 ≤ G := by rw [hG]; exact grownCap_ge w _ _ _
          have hG63 : G ≤ maxLen := by
            have := grownCap_le_maxLen w (es.length + 1) cap 39 (by unfold maxLen; omega)
            rw [← hG] at this
            exact this
          obtain ⟨ROW, hROW⟩ : ∃ ROW : Array Value, ROW = (olds.take (i * 8)).toArray ++ Builtin.zeroCells z.cells (es.length + 1 - i) ++ Builtin.zeroCells z.cells (G - (es.length + 1)) := ⟨_, rfl⟩
          rw [← hROW] at hc
          have hRl : ROW.size = G * 8 := by
            rw [hROW]
            simp only [Array.size_append, List.size_toArray, List.length_take, size_zeroCells, z4, os1]
            omega
          have hn0 := heap_alloc_new w (.cells ROW 39)
          have hn1 : (w.alloc (.cells ROW 39)).drew.heap[w.heap.size]? = some (.cells ROW 39 (0, 0)) := hn0
          obtain ⟨c1, g1, g2, g3, g4, g5, g6, g7, g8⟩ := setCells_heap w.heap.size news (i * 8) (w.alloc (.cells ROW 39)).drew ROW 39 hn1 (by rw [ns1, hRl]; omega)
          have g1' : ((w.alloc (.cells ROW 39)).drew.setCells w.heap.size (i * 8) news).drew.heap[w.heap.size]? = some (.cells c1 39 (0, 0)) := g1
          obtain ⟨c2, f1, f2, f3, f4, f5, f6, f7, f8⟩ := setCells_heap w.heap.size (olds.drop (i * 8)) ((i + 1) * 8) _ c1 39 g1' (by rw [g2, hdl, hRl]; omega)
          refine ⟨_, _, ⟨w.heap.size, G, c2, 39, rfl, hGn, hG63, f1, by rw [f2, g2, hRl], fun j u hj => ?_, fun b' hb' hb => (f4 b' hb).trans ((g4 b' hb).trans (heap_alloc_old w _ hb')), fun h => by omega, f6.trans g6, f7.trans g7, f8.trans g8, ?_⟩, hc⟩
          · rw [hrows] at hj
            rw [f3, g3, ns1, hdl]
            by_cases h1 : j < i * 8
            · rw [if_pos h1] at hj
              rw [if_neg (by omega), if_neg (by omega), hROW]
              have hlt : j < (olds.take (i * 8)).length := by rw [List.length_take, os1]; omega
              rw [Array.append_assoc, Array.getElem?_append_left (by simpa using hlt), List.getElem?_toArray, List.getElem?_take_of_lt h1]
              exact hj
            · rw [if_neg h1] at hj
              by_cases h2 : j < (i + 1) * 8
              · rw [if_pos h2] at hj
                rw [if_neg (by omega), if_pos (by omega)]
                exact hj
              · rw [if_neg h2] at hj
                have := (List.getElem?_eq_some_iff.1 hj).1
                rw [if_pos (by omega), List.getElem?_drop, show i * 8 + (j - (i + 1) * 8) = j - 8 by omega]
                exact hj
          · rw [f5]
            show w.heap.size ≤ ((w.alloc (.cells ROW 39)).drew.setCells w.heap.size (i * 8) news).heap.size
            rw [g5]
            exact Nat.le_of_lt (heap_lt hn1)
    obtain ⟨v', w2, ⟨B, cap', cur', e1, rfl, p1, p2, p3, p4, p5, p6, p7, p8, p9, p10, p11⟩, hcalls⟩ := hbody
    let g : Nat → Path → Option Path := fun m q => match m, q with
      | 0, (a, j) :: q => some ((if a < i then a else a + 1, j) :: q)
      | 1, (a, j) :: q => some ((i + a, j) :: q)
      | _, _ => none
    obtain ⟨rows, hrw⟩ : ∃ rows, rows = olds.take (i * 8) ++ news ++ olds.drop (i * 8) := ⟨_, rfl⟩
    rw [← hrw] at p5 hrows
    obtain ⟨new, hnew⟩ : ∃ new, new = es.take i ++ [e] ++ es.drop i := ⟨_, rfl⟩
    have hnl : new.length = es.length + 1 := by rw [hnew]; simp; omega
    have hng : ∀ a, new[a]? = if a < i then es[a]? else if a = i then some e else es[a - 1]? := by
      intro a
      rw [hnew, getElem?_three, List.length_take, Nat.min_eq_left hi]
      by_cases h1 : a < i
      · rw [if_pos h1, if_pos h1, List.getElem?_take_of_lt h1]
      · rw [if_neg h1, if_neg h1]
        by_cases h2 : a = i
        · rw [if_pos h2, if_pos (by simp; omega), h2, Nat.sub_self]; rfl
        · rw [if_neg h2, if_neg (by simp; omega), List.getElem?_drop]
          exact congrArg (fun k => es[k]?) (by simp; omega)
    have helen : ∀ x ∈ new, x.length = 8 := by
      intro x hx
      rw [hnew] at hx
      simp only [List.mem_append, List.mem_singleton] at hx
      rcases hx with (hx | hx) | hx
      · exact os3 x (List.mem_of_mem_take hx)
      · rw [hx]; exact ns3 e (by simp)
      · exact os3 x (List.mem_of_mem_drop hx)
    have hcr : CR w2 (asmHome home1 0 64000 (some B) g) (arrTg true (.r 64000)) (.sl 8 new []) (.slice (some ⟨B, 0, none⟩) (es.length + 1) cap') := by
      have himm : ∀ b', b' < w.heap.size → home1 b' = none → w2.heap[b']? = w.heap[b']? ∧ asmHome home1 0 64000 (some B) g b' = none := by
        intro b' hb' hn
        have hne : b' ≠ B := fun e => by subst e; rw [p7 hb'] at hn; cases hn
        exact ⟨p6 b' hb' hne, asmHome_none (by simp [hne]) hn⟩
      have hval : ∀ a j x c, new[a]? = some x → x[j]? = some c → ∃ v, rows[a * 8 + j]? = some v ∧ CR w2 (asmHome home1 0 64000 (some B) g) ((arrTg true (.r 64000)).ext a j) c v := by
        intro a j x c h1 h2
        have hj : j < 8 := by rw [← helen x (List.mem_of_getElem? h1)]; exact (List.getElem?_eq_some_iff.1 h2).1
        rw [hng] at h1
        rw [hrows]
        have hown : ∀ m a0 a1, (∀ q, g m ((a0, j) :: q) = some ((a1, j) :: q)) → ∀ q' b', b' < w.heap.size → home1 b' = some (.t m, (a0, j) :: q') → w2.heap[b']? = w.heap[b']? ∧ asmHome home1 0 64000 (some B) g b' = if true = true then some (.r 64000, (a1, j) :: q') else none := by
          intro m a0 a1 hg' q' b' hb' hl
          have hne : b' ≠ B := fun e => by
            subst e
            rw [p7 hb'] at hl
            injection hl with hl
            injection hl with _ hl
            cases hl
          refine ⟨p6 b' hb' hne, ?_⟩
          rw [asmHome_t (by simp [hne]) hl (Nat.zero_le _), hg']
          rfl
        by_cases c1 : a < i
        · rw [if_pos c1] at h1
          rw [if_pos (by omega)]
          obtain ⟨v, k1, k2⟩ := os4 a j x c h1 h2
          exact ⟨v, k1, elem_goes (D := true) hTx k2 (fun _ => rfl) himm (hown 0 a a (fun q => by simp [g, c1]))⟩
        · rw [if_neg c1] at h1
          by_cases c2 : a = i
          · rw [if_pos c2] at h1
            injection h1 with h1
            subst h1 c2
            rw [if_neg (by omega), if_pos (by omega), show a * 8 + j - a * 8 = 0 * 8 + j by omega]
            obtain ⟨v, k1, k2⟩ := ns4 0 j e c rfl h2
            exact ⟨v, k1, elem_goes (D := true) hTy k2 (fun _ => rfl) himm (hown 1 0 a (fun q => by simp [g]))⟩
          · rw [if_neg c2] at h1
            rw [if_neg (by omega), if_neg (by omega), show a * 8 + j - 8 = (a - 1) * 8 + j by omega]
            obtain ⟨v, k1, k2⟩ := os4 (a - 1) j x c h1 h2
            exact ⟨v, k1, elem_goes (D := true) hTx k2 (fun _ => rfl) himm (hown 0 (a - 1) a (fun q => by
              have : ¬ (a - 1 < i) := by omega
              simp only [g, if_neg this, show a - 1 + 1 = a by omega]))⟩
      have hd' : Hdr w2 (asmHome home1 0 64000 (some B) g) (arrTg true (.r 64000)) (.slice (some ⟨B, 0, none⟩) (es.length + 1) cap') (es.length + 1) (es.length + 1) 8 (fun a j => rows.getD (a * 8 + j) undef) := by
        refine Hdr.new (t := arrTg true (.r 64000)) rfl (by decide) p1 p2 asmHome_B p3 p4 (fun a j ha hj => ?_)
        have hlt : a < new.length := by omega
        have hx := helen _ (List.getElem_mem hlt)
        obtain ⟨v, k1, _⟩ := hval a j new[a] _ (List.getElem?_eq_getElem hlt) (List.getElem?_eq_getElem (by omega))
        rw [p5 _ _ k1]
        simp [List.getD_eq_getElem?_getD, k1]
      refine .sl (fun a j => rows.getD (a * 8 + j) undef) (by rw [List.append_nil]; exact helen) ?_ (fun a j x c h1 h2 => ?_)
      · rw [List.length_nil, Nat.add_zero, hnl]
        exact hd'
      · rw [List.append_nil] at h1
        obtain ⟨v, k1, k2⟩ := hval a j x c h1 h2
        have : rows.getD (a * 8 + j) undef = v := by simp [List.getD_eq_getElem?_getD, k1]
        simp only [this]
        exact k2
    have hn2 : upd (upd rt 0 .gone) 128 .gone 64000 = none := by rw [updF_ne _ _ (by decide), updF_ne _ _ (by decide)]; exact r3
    have s2 := assemble (w' := w2) st1.rel hn2 (by decide) (k0 := 0) (B := some B) g
      (fun b' hb' => by injection hb' with hb'; subst hb'; exact ⟨heap_lt p3, fun h => ⟨0, [], Nat.zero_le _, p7 h⟩⟩) (fun b' hb' hne => p6 b' hb' (fun e => hne (by rw [e]))) p8 p9 p10 p11 hcr
    have hF0 : asmF F1 0 = F0 := by funext j; simp [asmF, F0]
    rw [hF0] at s2
    have st := st1.trans s2
    have hfr : FrR ids w2 (asmHome home1 0 64000 (some B) g) (updL hd1 (.r 64000) (.slice (some ⟨B, 0, none⟩) (es.length + 1) cap')) 7 ⟨asl [(6, .sv (.ref 64000 [] 0 (es.length + 1)))], upd (upd (upd rt 0 .gone) 128 .gone) 64000 (.arr true false (.sl 8 new [])), [0, 128]⟩
        { tmps := #[undef, undef, undef, undef, undef, undef, .slice (some ⟨B, 0, none⟩) (es.length + 1) cap'], defers := [] } := by
      refine ⟨st.rel, fun t av hav => ?_, rfl, rfl⟩
      have e6 : asl [(6, AV.sv (.ref 64000 [] 0 (es.length + 1)))] t = if t = 6 then some (AV.sv (.ref 64000 [] 0 (es.length + 1))) else none := by simp
      have hav : asl [(6, AV.sv (.ref 64000 [] 0 (es.length + 1)))] t = some av := hav
      rw [e6] at hav
      split at hav
      · rename_i e0
        subst e0
        injection hav with hav
        subst hav
        refine ⟨.slice (some ⟨B, 0, none⟩) (es.length + 1) cap', rfl, new_ref (w := w2) (home := asmHome home1 0 64000 (some B) g) (rt := upd (upd rt 0 .gone) 128 .gone) (id := 64000) (d := true) (c := .sl 8 new []) (updL_same hd1 (.r 64000) (.slice (some ⟨B, 0, none⟩) (es.length + 1) cap')) p1, fun j hj => ?_⟩
        simp only [AV.ids, A1.ids, SV.ids, List.mem_singleton] at hj
        subst hj
        show (upd (upd (upd rt 0 .gone) 128 .gone) 64000 (.arr true false (.sl 8 new [])) 64000).isSome = true
        rw [updF_same]; rfl
      · cases hav
    have hfin : finish ⟨3, 7, .skip, [.t 6]⟩ ⟨asl [(6, .sv (.ref 64000 [] 0 (es.length + 1)))], upd (upd (upd rt 0 .gone) 128 .gone) 64000 (.arr true false (.sl 8 new [])), [0, 128]⟩ = some ⟨[.s (.mk .deep (.sl 8 new []))], [none, none]⟩ := by
      have ht' : new.take (es.length + 1) = new := List.take_of_length_le (by omega)
      have hd' : new.drop (es.length + 1) = [] := List.drop_eq_nil_of_le (by omega)
      simp [finish, hnl, ht', hd']
    obtain ⟨us, hrun, home2, hd2, F', hret⟩ := finish_ok (P := Go.Proofs.Tryz.prog) st.grow hfr (fn := Go.Proofs.Tryz.f57) (by kernel_rfl) hfin
    have hv : retV us = .slice (some ⟨B, 0, none⟩) (es.length + 1) cap' := by
      have : (Go.results Go.Proofs.Tryz.f57 #[undef, undef, undef, undef, undef, undef, .slice (some ⟨B, 0, none⟩) (es.length + 1) cap']).run Go.Proofs.Tryz.prog w2 = .ok (.slice (some ⟨B, 0, none⟩) (es.length + 1) cap') w2 := by
        have hres : Go.Proofs.Tryz.f57.results = #[.tmp 6] := by kernel_rfl
        unfold Go.results
        rw [hres]
        simp [resOne]
      rw [this] at hrun
      injection hrun with h1 _
      exact h1.symm
    rw [← hnew]
    refine Or.inl ⟨?_, hcalls.mono ?_⟩
    · unfold callFunc
      simp only [Sem.run_bind, run_program, Result.andThen_ok, Go.Proofs.Tryz.func57]
      rfl
    · rintro e w1 ⟨rfl, rfl⟩
      exact ⟨_, rfl, home2, hd2, F', us, hv.symm, hret⟩
end Go.Proofs.YtecmolmlojehgaaGreat.T
namespace Go.Proofs.YtecmolmlojehgaaGreat.T
open Go
theorem hand_ok (f : Nat) (args : List Arg) (r : Res) (h : handF f args = some r) : Sat ids Go.Proofs.Tryz.prog (ids f) args r := by
  refine ok_nil hands ids f h ?_
  intro x hx
  simp only [hands, List.mem_cons, List.not_mem_nil, or_false] at hx
  rcases hx with rfl | rfl | rfl | rfl
  · show ∀ args r, _ → Sat ids Go.Proofs.Tryz.prog (ids n_slices_Insert_SimplEntryimplEntry) args r
    rw [show ids n_slices_Insert_SimplEntryimplEntry = 57 by kernel_rfl]
    exact ok_insert (fun es e i h1 h2 => sat_insert es e i h1 h2)
  · show ∀ args r, _ → Sat ids Go.Proofs.Tryz.prog (ids n_slices_Clone_SimplTermimplTerm) args r
    rw [show ids n_slices_Clone_SimplTermimplTerm = 138 by kernel_rfl]
    exact ok_clone (fun es sp h => sat_clone (sz := 4) (bytes := 32) (fn := Go.Proofs.Tryz.f138) (by kernel_rfl) (by kernel_rfl) rfl rfl rfl rfl rfl rfl rfl rfl ⟨105, by kernel_rfl⟩ (by kernel_rfl) (by kernel_rfl) (by kernel_rfl) (by kernel_rfl) (by decide) (by decide) es sp h)
  · show ∀ args r, _ → Sat ids Go.Proofs.Tryz.prog (ids n_slices_Clone_Sintint) args r
    rw [show ids n_slices_Clone_Sintint = 139 by kernel_rfl]
    exact ok_clone (fun es sp h => sat_clone (sz := 1) (bytes := 8) (fn := Go.Proofs.Tryz.f139) (by kernel_rfl) (by kernel_rfl) rfl rfl rfl rfl rfl rfl rfl rfl ⟨3, by kernel_rfl⟩ (by kernel_rfl) (by kernel_rfl) (by kernel_rfl) (by kernel_rfl) (by decide) (by decide) es sp h)
  · show ∀ args r, _ → Sat ids Go.Proofs.Tryz.prog (ids n_bytealg_abigen_runtime_cmpstring) args r
    rw [show ids n_bytealg_abigen_runtime_cmpstring = 162 by kernel_rfl]
    exact ok_cmp (fun a b => sat_cmp (fn := Go.Proofs.Tryz.f162) (by kernel_rfl) (by kernel_rfl) (by kernel_rfl) (by kernel_rfl) (by kernel_rfl) a b)
theorem L_sat {f : Nat} {args : List Arg} {r : Res} (h : L0 f args = some r) : SatG ids Go.Proofs.Tryz.prog (ids f) (shapeOf f) args r := by
  obtain ⟨m, hm⟩ := L_den.1 h
  exact den_ok (pp := prog handF) (fun i pf h => tab_ok i pf h) (fun f args r _ h => hand_ok f args r h) (fun f args r h => hand_shape (args := args) (r := r) hands (by kernel_rfl) f h) m f args r (hm m (Nat.le_refl _))
end Go.Proofs.YtecmolmlojehgaaGreat.T
namespace Go.Proofs.YtecmolmlojehgaaGreat.T
open Go
theorem pickL {α : Type} {Q : Nat → α → Prop} : ∀ {n : Nat}, (∀ i, i < n → ∃ x, Q i x) → ∃ xs : List α, xs.length = n ∧ ∀ i x, xs[i]? = some x → Q i x
  | 0, _ => ⟨[], rfl, fun i x h => by simp at h⟩
  | n + 1, h => by
    obtain ⟨xs, h1, h2⟩ := pickL (n := n) (Q := Q) (fun i hi => h i (by omega))
    obtain ⟨x, hx⟩ := h n (by omega)
    refine ⟨xs ++ [x], by simp [h1], fun i y hy => ?_⟩
    by_cases hi : i < n
    · rw [List.getElem?_append_left (by omega)] at hy
      exact h2 i y hy
    · rw [List.getElem?_append_right (by omega)] at hy
      have e : i = n := by
        have := (List.getElem?_eq_some_iff.1 hy).1
        simp at this
        omega
      subst e
      rw [h1, Nat.sub_self, List.getElem?_cons_zero, Option.some.injEq] at hy
      subst hy
      exact hx
def home0 : Home := fun _ => none
section
variable {H : Type} {enc : TypeId × Value → H} {P : Program} {w : World}
/-- A slice, read: its header and its elements' cells. -/
def RowR {α : Type} (w : World) (sz : Nat) (Q : List Value → α → Prop) (r : Row α) (u : Value) : Prop :=
  ∃ a cap, u = .slice a r.es.length cap ∧ r.es.length + r.sp.length ≤ cap ∧ cap ≤ maxLen ∧ ∀ i, i < r.es.length + r.sp.length → ∃ b o ci x, a = some ⟨b, o, none⟩ ∧ (r.es ++ r.sp)[i]? = some x ∧ Q ci x ∧ ci.length = sz ∧ ∀ j, j < sz → w.cell? ⟨b, o + (i * sz + j), none⟩ = ci[j]?
theorem read_row {t e : TypeId} {sz : Nat} (ht : P.underlying t = some (.slice e)) (hc : P.cellsOf e = sz) (hsz : 0 < sz) {α : Type} {Q : List Value → α → Prop} (hel : ∀ n cs y, DataW.trod enc P w 0 (fun _ => true) true n e cs = some y → ∃ x, Q cs x)
    {fuel : Nat} {cs : List Value} {x : DataW H × List MemPlace} (h : DataW.trod enc P w 0 (fun _ => true) true fuel t cs = some x) :
    ∃ (r : Row α) (u : Value), cs = [u] ∧ RowR w sz Q r u ∧ ((x.1 = .nil ∧ r.es = []) ∨ ∃ A B, x.1 = .slice A B ∧ A.length = r.es.length) := by
  rcases DataW.trod_slice ht h with ⟨rfl, rfl⟩ | ⟨a, len, cap, elems, rest, n, _, rfl, rfl, hb, hl, hm, hlen, hel1, hsp, _⟩
  · exact ⟨⟨[], [], by simp⟩, _, rfl, ⟨none, 0, rfl, Nat.le_refl _, Nat.zero_le _, fun i hi => by simp at hi⟩, Or.inl ⟨rfl, rfl⟩⟩
  · obtain ⟨hrl, hr⟩ := hsp rfl
    have each : ∀ i, i < cap → ∃ x, ∃ ci, Q ci x ∧ w.cells? 0 (a.add (i * P.cellsOf e)) (P.cellsOf e) = some ci := by
      intro i hi
      have hb' : ∃ y, (w.cells? 0 (a.add (i * P.cellsOf e)) (P.cellsOf e)).bind (DataW.trod enc P w 0 (fun _ => true) true n e) = some y := by
        by_cases hlt : i < len
        · rw [hel1 i hlt]
          exact ⟨_, List.getElem?_eq_getElem (by omega)⟩
        · have := hr (i - len) (by omega)
          rw [show len + (i - len) = i by omega] at this
          rw [this]
          exact ⟨_, List.getElem?_eq_getElem (by omega)⟩
      obtain ⟨y, hy⟩ := hb'
      rw [Option.bind_eq_some_iff] at hy
      obtain ⟨ci, h1, h2⟩ := hy
      obtain ⟨x, hx⟩ := hel n ci y h2
      exact ⟨x, ci, hx, h1⟩
    obtain ⟨xs, hx1, hx2⟩ := pickL each
    have spot : 0 < cap → a.spot = none := by
      intro h0
      obtain ⟨x, ci, _, h2⟩ := each 0 h0
      obtain ⟨_, g1, g2⟩ := World.cells?_some h2
      rw [hc] at g1 g2
      have := g2 0 hsz
      rw [List.getElem?_eq_getElem (by omega)] at this
      have e : (a.add (0 * sz)).add 0 = a := by simp [Addr.add]
      rw [e] at this
      unfold World.cell? at this
      split at this
      · split at this
        · cases this
        · rename_i hn
          cases h : a.spot with
          | none => rfl
          | some _ => rw [h] at hn; simp at hn
      · cases this
    have hM : maxLen = 9223372036854775807 := rfl
    refine ⟨⟨xs.take len, xs.drop len, by simp; omega⟩, _, rfl, ⟨some a, cap, ?_, ?_, hm, ?_⟩, Or.inr ⟨_, _, rfl, ?_⟩⟩
    · simp only [List.length_take]; congr 1; omega
    · simp; omega
    · intro i hi
      have hi' : i < xs.length := by simp at hi; omega
      obtain ⟨ci, h1, h2⟩ := hx2 i xs[i] (List.getElem?_eq_getElem hi')
      obtain ⟨_, g1, g2⟩ := World.cells?_some h2
      rw [hc] at g1 g2
      have hs := spot (by omega)
      obtain ⟨b, o, s⟩ := a
      have hs : s = none := hs
      subst hs
      refine ⟨b, o, ci, xs[i], rfl, ?_, h1, g1, fun j hj => ?_⟩
      · rw [List.take_append_drop]; exact List.getElem?_eq_getElem hi'
      · rw [← g2 j hj]
        have eb : ∀ (x y k : Nat), (⟨x, y, none⟩ : Addr).add k = ⟨x, y + k, none⟩ := by
          intro x y k
          unfold Addr.add
          split
          · rename_i h0; rw [h0]; rfl
          · rfl
        rw [eb, eb, Nat.add_assoc]
    · simp [hlen]; omega
theorem row_fl {α : Type} {sz : Nat} {Q : List Value → α → Prop} {r : Row α} {u : Value} (h : RowR w sz Q r u) (hsz : 0 < sz) (f : α → List Value) (hf : ∀ cs x, Q cs x → cs = f x ∧ ∀ v ∈ f x, v.oneCell' = true) : CR w home0 .imm (.fl sz (r.es.map f) (r.sp.map f)) u := by
  obtain ⟨a, cap, hu, h1, h2, h3⟩ := h
  refine .fl ?_ ⟨hsz, by simp, a, cap, by simp [hu], by simpa using h1, h2, ?_⟩
  · intro e he
    rw [← List.map_append, List.mem_map] at he
    obtain ⟨x, hx, rfl⟩ := he
    obtain ⟨i, hi⟩ := List.getElem?_of_mem hx
    obtain ⟨b, o, ci, y, _, g1, g2, g3, _⟩ := h3 i (by have := (List.getElem?_eq_some_iff.1 hi).1; simpa using this)
    rw [hi, Option.some.injEq] at g1
    subst g1
    obtain ⟨e1, e2⟩ := hf ci x g2
    exact ⟨by rw [← e1]; exact g3, e2⟩
  · show ∀ i j, _ → _ → _
    intro i j hi hj
    obtain ⟨b, o, ci, y, g0, g1, g2, g3, g4⟩ := h3 i (by simpa using hi)
    refine ⟨b, o, g0, rfl, ?_⟩
    rw [g4 j hj]
    obtain ⟨e1, _⟩ := hf ci y g2
    subst e1
    have e3 : (r.es.map f ++ r.sp.map f)[i]? = some (f y) := by rw [← List.map_append, List.getElem?_map, g1]; rfl
    simp [List.getD, e3, List.getElem?_eq_getElem (show j < (f y).length by omega)]
theorem row_sl {α : Type} {sz : Nat} {Q : List Value → α → Prop} {r : Row α} {u : Value} (h : RowR w sz Q r u) (hsz : 0 < sz) (f : α → List C) (hf : ∀ cs x, Q cs x → (f x).length = sz ∧ ∀ (j : Nat) c, (f x)[j]? = some c → ∃ v, cs[j]? = some v ∧ CR w home0 .imm c v) : CR w home0 .imm (.sl sz (r.es.map f) (r.sp.map f)) u := by
  obtain ⟨a, cap, hu, h1, h2, h3⟩ := h
  have key : ∀ i, i < r.es.length + r.sp.length → ∃ (b o : Nat) (ci : List Value), a = some ⟨b, o, none⟩ ∧ ci.length = sz ∧ (∀ j, j < sz → w.cell? ⟨b, o + (i * sz + j), none⟩ = ci[j]?) ∧ ∃ e, (r.es.map f ++ r.sp.map f)[i]? = some e ∧ e.length = sz ∧ ∀ (j : Nat) c, e[j]? = some c → ∃ v, ci[j]? = some v ∧ CR w home0 .imm c v := by
    intro i hi
    obtain ⟨b, o, ci, y, g0, g1, g2, g3, g4⟩ := h3 i hi
    obtain ⟨e1, e2⟩ := hf ci y g2
    exact ⟨b, o, ci, g0, g3, g4, f y, by rw [← List.map_append, List.getElem?_map, g1]; rfl, e1, e2⟩
  refine .sl (fun i j => (w.cell? ⟨(a.getD default).block, (a.getD default).off + (i * sz + j), none⟩).getD undef) ?_ ⟨hsz, by simp, a, cap, by simp [hu], by simpa using h1, h2, ?_⟩ ?_
  · intro e he
    obtain ⟨i, hi⟩ := List.getElem?_of_mem he
    obtain ⟨_, _, _, _, _, _, e', h5, h6, _⟩ := key i (by have := (List.getElem?_eq_some_iff.1 hi).1; simpa using this)
    rw [hi, Option.some.injEq] at h5
    subst h5
    exact h6
  · show ∀ i j, _ → _ → _
    intro i j hi hj
    obtain ⟨b, o, ci, g0, g3, g4, _⟩ := key i (by simpa using hi)
    refine ⟨b, o, g0, rfl, ?_⟩
    subst g0
    simp only [Option.getD_some]
    rw [g4 j hj, List.getElem?_eq_getElem (by omega)]
    rfl
  · intro i j e c he hc
    obtain ⟨b, o, ci, g0, g3, g4, e', h5, h6, h7⟩ := key i (by have := (List.getElem?_eq_some_iff.1 he).1; simpa using this)
    rw [he, Option.some.injEq] at h5
    subst h5
    obtain ⟨v, k1, k2⟩ := h7 j c hc
    have hj : j < sz := by rw [← h6]; exact (List.getElem?_eq_some_iff.1 hc).1
    subst g0
    simp only [Option.getD_some]
    rw [g4 j hj, k1]
    exact k2
end
end Go.Proofs.YtecmolmlojehgaaGreat.T
namespace Go.Proofs.YtecmolmlojehgaaGreat.T
open Go
section
variable {H : Type} {enc : TypeId × Value → H} {P : Program} {w : World} {n : Nat} {cs : List Value} {y : DataW H × List MemPlace} {t e : TypeId}
/-- These cells hold these trees. -/
def CellsR (w : World) (cs : List Value) (xs : List C) : Prop := cs.length = xs.length ∧ ∀ (j : Nat) c, xs[j]? = some c → ∃ v, cs[j]? = some v ∧ CR w home0 .imm c v
abbrev trodE (enc : TypeId × Value → H) (P : Program) (w : World) : Nat → TypeId → List Value → Option (DataW H × List MemPlace) := DataW.trod enc P w 0 (fun _ => true) true
theorem cells_nil : CellsR w [] [] := ⟨rfl, fun j c h => by simp at h⟩
theorem cells_cons {v : Value} {c : C} {xs : List C} (h : CR w home0 .imm c v) (hs : CellsR w cs xs) : CellsR w (v :: cs) (c :: xs) := by
  refine ⟨by simp [hs.1], fun j d hd => ?_⟩
  cases j with
  | zero => simp at hd; subst hd; exact ⟨v, rfl, h⟩
  | succ j => simpa using hs.2 j d (by simpa using hd)
def fieldsOf (fs : Array Field) : List (TypeId × Nat) := fs.toList.map (fun f => (f.type, f.offset))
theorem read_field {fs : Array Field} (ht : P.underlying t = some (.struct fs)) (h : trodE enc P w n t cs = some y) : cs.length = P.cellsOf t ∧ ∀ (i : Nat) ty off, (fieldsOf fs)[i]? = some (ty, off) → ∃ k z, trodE enc P w k ty ((cs.drop off).take (P.cellsOf ty)) = some z := by
  obtain ⟨xs, k, _, _, h1, h2, h3⟩ := DataW.trod_struct ht h
  refine ⟨h1, fun i ty off hi => ?_⟩
  simp only [fieldsOf, List.getElem?_map, Option.map_eq_some_iff, Array.getElem?_toList] at hi
  obtain ⟨f, hf, e⟩ := hi
  simp only [Prod.mk.injEq] at e
  obtain ⟨rfl, rfl⟩ := e
  have hlt : i < xs.length := by rw [h2]; exact (Array.getElem?_eq_some_iff.1 hf).1
  exact ⟨k, xs[i], by rw [← List.getElem?_eq_getElem hlt]; exact h3 i f hf⟩
theorem read_int (ht : P.underlying t = some (.int .i64)) (h : trodE enc P w n t cs = some y) : ∃ k : Int, cs = [int k] := by
  obtain ⟨k, h1, _⟩ := DataW.trod_int ht h
  exact ⟨k, h1⟩
theorem read_ints (ht : P.underlying t = some (.slice e)) (he : P.underlying e = some (.int .i64)) (hc : P.cellsOf e = 1) (h : trodE enc P w n t cs = some y) : ∃ (a : Ints) (u : Value), cs = [u] ∧ CR w home0 .imm (cI a) u := by
  obtain ⟨a, u, h1, h2, _⟩ := read_row (Q := fun cs k => cs = eI k) ht hc (by decide) (fun n cs y h => read_int he h) h
  exact ⟨a, u, h1, row_fl h2 (by decide) eI (fun cs x hq => ⟨hq, fun v hv => by simp at hv; subst hv; rfl⟩)⟩
theorem list4 {α : Type} {l : List α} (h : l.length = 4) : ∃ a b c d, l = [a, b, c, d] := by
  match l, h with
  | [a, b, c, d], _ => exact ⟨a, b, c, d, rfl⟩
theorem list3 {α : Type} {l : List α} (h : l.length = 3) : ∃ a b c, l = [a, b, c] := by
  match l, h with
  | [a, b, c], _ => exact ⟨a, b, c, rfl⟩
theorem list8 {α : Type} {l : List α} (h : l.length = 8) : ∃ a b c d e f g k, l = [a, b, c, d, e, f, g, k] := by
  match l, h with
  | [a, b, c, d, e, f, g, k], _ => exact ⟨a, b, c, d, e, f, g, k, rfl⟩
theorem read_term {fs : Array Field} {i : TypeId} (ht : P.underlying t = some (.struct fs)) (hs : P.cellsOf t = 4) (hf : fieldsOf fs = [(i, 0), (i, 1), (i, 2), (i, 3)]) (hi : P.underlying i = some (.int .i64)) (hc : P.cellsOf i = 1) (h : trodE enc P w n t cs = some y) : ∃ x : TermV, cs = eT x := by
  obtain ⟨h1, h2⟩ := read_field ht h
  rw [hs] at h1
  rw [hf] at h2
  obtain ⟨a, b, c, d, rfl⟩ := list4 h1
  obtain ⟨_, _, g0⟩ := h2 0 i 0 rfl
  obtain ⟨_, _, g1⟩ := h2 1 i 1 rfl
  obtain ⟨_, _, g2⟩ := h2 2 i 2 rfl
  obtain ⟨_, _, g3⟩ := h2 3 i 3 rfl
  rw [hc] at g0 g1 g2 g3
  obtain ⟨k0, e0⟩ := read_int hi g0
  obtain ⟨k1, e1⟩ := read_int hi g1
  obtain ⟨k2, e2⟩ := read_int hi g2
  obtain ⟨k3, e3⟩ := read_int hi g3
  simp at e0 e1 e2 e3
  subst e0 e1 e2 e3
  exact ⟨⟨k0, k1, k2, k3⟩, rfl⟩
theorem read_poly {fs : Array Field} {i : TypeId} (ht : P.underlying t = some (.slice e)) (he : P.underlying e = some (.struct fs)) (hs : P.cellsOf e = 4) (hf : fieldsOf fs = [(i, 0), (i, 1), (i, 2), (i, 3)]) (hi : P.underlying i = some (.int .i64)) (hc : P.cellsOf i = 1)
    (h : trodE enc P w n t cs = some y) : ∃ (a : Poly) (u : Value), cs = [u] ∧ CR w home0 .imm (cP a) u := by
  obtain ⟨a, u, h1, h2, _⟩ := read_row (Q := fun cs x => cs = eT x) ht hs (by decide) (fun n cs y h => read_term he hs hf hi hc h) h
  exact ⟨a, u, h1, row_fl h2 (by decide) eT (fun cs x hq => ⟨hq, fun v hv => by simp at hv; rcases hv with rfl | rfl | rfl | rfl <;> rfl⟩)⟩
theorem read_sys {fs : Array Field} {i p : TypeId} (ht : P.underlying t = some (.slice p)) (hcp : P.cellsOf p = 1) (hp : P.underlying p = some (.slice e)) (he : P.underlying e = some (.struct fs)) (hs : P.cellsOf e = 4) (hf : fieldsOf fs = [(i, 0), (i, 1), (i, 2), (i, 3)]) (hi : P.underlying i = some (.int .i64)) (hc : P.cellsOf i = 1)
    (h : trodE enc P w n t cs = some y) : ∃ (a : Sys) (u : Value), cs = [u] ∧ CR w home0 .imm (cS a) u := by
  obtain ⟨a, u, h1, h2, _⟩ := read_row (Q := fun cs (x : Poly) => CellsR w cs (eP x)) ht hcp (by decide) (fun n cs y h => by
    obtain ⟨a, u, rfl, h2⟩ := read_poly hp he hs hf hi hc h
    exact ⟨a, cells_cons h2 cells_nil⟩) h
  exact ⟨a, u, h1, row_sl h2 (by decide) eP (fun cs x hq => ⟨rfl, hq.2⟩)⟩
theorem read_box {fs : Array Field} {i s : TypeId} (ht : P.underlying t = some (.struct fs)) (hct : P.cellsOf t = 3) (hf : fieldsOf fs = [(i, 0), (s, 1), (s, 2)]) (hi : P.underlying i = some (.int .i64)) (hc : P.cellsOf i = 1) (hs : P.underlying s = some (.slice i)) (hcs : P.cellsOf s = 1)
    (h : trodE enc P w n t cs = some y) : ∃ (b : BoxV), CellsR w cs (eB b) := by
  obtain ⟨h1, h2⟩ := read_field ht h
  rw [hct] at h1
  rw [hf] at h2
  obtain ⟨a, b, c, rfl⟩ := list3 h1
  obtain ⟨_, _, g0⟩ := h2 0 i 0 rfl
  obtain ⟨_, _, g1⟩ := h2 1 s 1 rfl
  obtain ⟨_, _, g2⟩ := h2 2 s 2 rfl
  rw [hc] at g0
  rw [hcs] at g1 g2
  obtain ⟨k0, e0⟩ := read_int hi g0
  obtain ⟨k1, u1, e1, r1⟩ := read_ints hs hi hc g1
  obtain ⟨k2, u2, e2, r2⟩ := read_ints hs hi hc g2
  simp at e0 e1 e2
  subst e0 e1 e2
  exact ⟨⟨k0, k1, k2⟩, cells_cons (CR.val rfl) (cells_cons r1 (cells_cons r2 cells_nil))⟩
/-- What is known of the types. -/
structure EntT (P : Program) (t : TypeId) : Prop where
  all : ∃ (fs fb ft : Array Field) (i str s sys p tm bx : TypeId), P.underlying t = some (.struct fs) ∧ P.cellsOf t = 8 ∧ fieldsOf fs = [(str, 0), (sys, 1), (bx, 2), (i, 5), (i, 6), (i, 7)] ∧
    P.underlying str = some .string ∧ P.cellsOf str = 1 ∧ P.underlying i = some (.int .i64) ∧ P.cellsOf i = 1 ∧ P.underlying s = some (.slice i) ∧ P.cellsOf s = 1 ∧
    P.underlying bx = some (.struct fb) ∧ P.cellsOf bx = 3 ∧ fieldsOf fb = [(i, 0), (s, 1), (s, 2)] ∧
    P.underlying sys = some (.slice p) ∧ P.cellsOf sys = 1 ∧ P.underlying p = some (.slice tm) ∧ P.cellsOf p = 1 ∧ P.underlying tm = some (.struct ft) ∧ P.cellsOf tm = 4 ∧ fieldsOf ft = [(i, 0), (i, 1), (i, 2), (i, 3)]
theorem read_entry (T : EntT P t) (h : trodE enc P w n t cs = some y) : ∃ x : EntryV, CellsR w cs (eE x) := by
  obtain ⟨fs, fb, ft, i, str, s, sys, p, tm, bx, t1, t2, t3, s1, s2, i1, i2, a1, a2, b1, b2, b3, y1, y2, p1, p2, m1, m2, m3⟩ := T.all
  obtain ⟨h1, h2⟩ := read_field t1 h
  rw [t2] at h1
  rw [t3] at h2
  obtain ⟨c0, c1, c2, c3, c4, c5, c6, c7, rfl⟩ := list8 h1
  obtain ⟨_, _, g0⟩ := h2 0 str 0 rfl
  obtain ⟨_, _, g1⟩ := h2 1 sys 1 rfl
  obtain ⟨_, _, g2⟩ := h2 2 bx 2 rfl
  obtain ⟨_, _, g3⟩ := h2 3 i 5 rfl
  obtain ⟨_, _, g4⟩ := h2 4 i 6 rfl
  obtain ⟨_, _, g5⟩ := h2 5 i 7 rfl
  rw [s2] at g0
  rw [y2] at g1
  rw [b2] at g2
  rw [i2] at g3 g4 g5
  obtain ⟨nm, e0, _, hnm⟩ := DataW.trod_string s1 g0
  obtain ⟨ss, u1, e1, r1⟩ := read_sys y1 p2 p1 m1 m2 m3 i1 i2 g1
  obtain ⟨b, r2⟩ := read_box b1 b2 b3 i1 i2 a1 a2 g2
  obtain ⟨k3, e3⟩ := read_int i1 g3
  obtain ⟨k4, e4⟩ := read_int i1 g4
  obtain ⟨k5, e5⟩ := read_int i1 g5
  simp at e0 e1 e3 e4 e5
  subst e0 e1 e3 e4 e5
  have r2' : CellsR w [c2, c3, c4] (eB b) := r2
  obtain ⟨v2, q2, w2⟩ := r2'.2 0 _ rfl
  obtain ⟨v3, q3, w3⟩ := r2'.2 1 _ rfl
  obtain ⟨v4, q4, w4⟩ := r2'.2 2 _ rfl
  simp at q2 q3 q4
  subst q2 q3 q4
  exact ⟨⟨nm, hnm, ss, b, k3, k4, k5⟩, cells_cons (CR.val rfl) (cells_cons r1 (cells_cons w2 (cells_cons w3 (cells_cons w4 (cells_cons (CR.val rfl) (cells_cons (CR.val rfl) (cells_cons (CR.val rfl) cells_nil)))))))⟩
theorem read_entries (ht : P.underlying t = some (.slice e)) (T : EntT P e) (h : trodE enc P w n t cs = some y) :
    ∃ (a : Entries) (u : Value), cs = [u] ∧ CR w home0 .imm (cE a) u ∧ ((y.1 = .nil ∧ a.es = []) ∨ ∃ A B, y.1 = .slice A B ∧ A.length = a.es.length) := by
  have hc : P.cellsOf e = 8 := by
    obtain ⟨_, _, _, _, _, _, _, _, _, _, _, h, _⟩ := T.all
    exact h
  obtain ⟨a, u, h1, h2, h3⟩ := read_row (Q := fun cs (x : EntryV) => CellsR w cs (eE x)) ht hc (by decide) (fun n cs y h => read_entry T h) h
  exact ⟨a, u, h1, row_sl h2 (by decide) eE (fun cs x hq => ⟨rfl, hq.2⟩), h3⟩
end
end Go.Proofs.YtecmolmlojehgaaGreat.T
namespace Go.Proofs.YtecmolmlojehgaaGreat.T
open Go Go.ChangeShapes Go.WideShapes Go.ChangeAt Go.RowKit
theorem runs_calls {P : Program} {f : FuncId} {fn : Func} {vs : Array Value} {w : World} {R : Value → World → Prop} (hf : P.funcs[f]? = some fn) (hname : (fn.name == "runtime.NumGoroutine") = false) (hb : fn.body.isNone = false) (h : Runs P f vs w R) : Calls P f vs w (fun e w' => ∃ v, e = .returned v ∧ R v w') := by
  rcases h with ⟨_, h⟩ | ⟨v, w', h, _⟩
  · exact h
  · unfold callFunc at h
    simp only [Sem.run_bind, run_program, Result.andThen_ok, hf, hname, hb, Bool.false_eq_true, if_false, Sem.run_pure] at h
    cases h
/-- A function of read arguments that gives one bool. -/
theorem sat_bool {P : Program} {f : FuncId} {fn : Func} {w : World} {args : List Arg} {b : Bool} (hf : P.funcs[f]? = some fn) (hname : (fn.name == "runtime.NumGoroutine") = false) (hb : fn.body.isNone = false) (h : Sat ids P f args (resB b))
    (hrt : (initFr args).rt = asl []) (himm : ∀ (i : Nat) x, args[i]? = some (.imm x) → x.ids = []) (vs : List Value) (hlen : vs.length = args.length) (hargs : ∀ (i : Nat) a v, args[i]? = some a → vs[i]? = some v → A1R ids w home0 (fun _ => undef) (asl []) (initArg i a).1 v) :
    Calls P f vs.toArray w (fun e w' => e = .returned (.bool b) ∧ Below w.heap.size w w') := by
  have hrel : RtR w home0 (fun _ => undef) (asl []) F0 := by
    refine ⟨fun l r hr => ?_, fun b l p hb => (by cases hb), fun l r hr => ?_⟩
    · cases l with
      | r i => cases hr
      | t k => cases hr
      | x => simp only [ext, Option.some.injEq] at hr; subst hr; exact Or.inl rfl
    · cases l with
      | r i => cases hr
      | t k => cases hr
      | x => simp only [ext, Option.some.injEq] at hr; subst hr; intro i hi; simp [Root.ids] at hi
  have := h w home0 (fun _ => undef) vs hlen (by rw [hrt]; exact hrel) (by rw [hrt]; exact hargs) himm
  refine (runs_calls hf hname hb this).mono ?_
  rintro e w' ⟨v, rfl, home', hd', F', us, rfl, ret⟩
  obtain ⟨fl, hl, hh, hasm⟩ := ret.vals
  obtain ⟨u, fl', us', rfl, rfl, h1, h2⟩ := hasm
  subst h2
  obtain ⟨hu, _⟩ := hh 0 _ _ u rfl rfl
  have hu' : u = .bool b := by
    rcases hu with ⟨_, hu⟩ | ⟨hne, _⟩
    · cases hu with
      | val _ => rfl
    · exact absurd rfl hne
  subst hu'
  exact ⟨rfl, ret.os, ret.tape, ret.output, ret.size, fun k hk => (ret.blk k hk rfl).1⟩
theorem open_entries {H : Type} {enc : TypeId × Value → H} {P : Program} {W : World} {base : Nat} {te ts : TypeId} {v : Value} {d : DataW H} {p : List MemPlace} (hs : P.underlying ts = some (.slice te)) (ht : EntT P te) (hb : P.bytesOf te = 120) (hval : Value.okWide P W .any base ts v) (h : DataW.Trod enc P W 0 (fun _ => true) true ts v d p)
    (hz : ∀ el sp, d = .slice el sp → (el.length + sp.length) * P.bytesOf te ≤ reachBytes) : ∃ A : Entries, CR W home0 .imm (cE A) v ∧ A.es.length ≤ 140737488351232 := by
  obtain ⟨fuel, hf⟩ := h
  obtain ⟨A, u, e1, e2, e3⟩ := read_entries hs ht hf
  obtain ⟨x, len, cap, rfl⟩ := okWide_slice hs hval
  simp [Value.cells] at e1
  subst e1
  refine ⟨A, e2, ?_⟩
  rcases e3 with ⟨_, e3⟩ | ⟨B, C, e3, e4⟩
  · rw [e3]; simp
  · simp only at e3
    have z := hz _ _ e3
    have hr : reachBytes = 140737488351232 := rfl
    rw [hb, hr] at z
    omega
end Go.Proofs.YtecmolmlojehgaaGreat.T
