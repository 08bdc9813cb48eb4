/- Drawn regions: the stages on the way, and the region as a whole. Code. A function's end. A function gives what its code gives. The whole: what den gives, the Go functions give. -/
import Derived.Test.YtecmolmlojehgaaGreatMI
namespace Go.Proofs.YtecmolmlojehgaaGreat.T
open Go
variable (ids : Nat → FuncId)

def inB : Option Nat → List Nat → Bool
  | some t, l => l.contains t
  | none, _ => true
def hideLe : Hide → Hide → Bool
  | .no, _ => true
  | _, .all => true
  | .ids sl l, .ids sl' l' => sl.all (fun s => sl'.contains s) && l.all (fun i => (Hide.ids sl' l').hid i)
  | _, _ => false
theorem hideLe_spec {m h : Hide} (hl : hideLe m h = true) {i : Nat} (hi : m.hid i = true) : h.hid i = true := by
  unfold hideLe at hl
  split at hl
  · cases hi
  · rfl
  · rename_i sl l sl' l'
    simp only [Bool.and_eq_true, List.all_eq_true] at hl
    obtain ⟨h1, h2⟩ := hl
    simp only [Hide.hid, Bool.or_eq_true] at hi
    rcases hi with hi | hi
    · exact h2 i (by simpa using hi)
    · obtain ⟨s, hs, hi⟩ := List.any_eq_true.1 hi
      simp only [Hide.hid, Bool.or_eq_true]
      refine Or.inr (List.any_eq_true.2 ⟨s, by simpa using h1 s hs, hi⟩)
  · cases hl
def ordB (i : Nat) (a b : Nat × POp) : Bool :=
  a.1 != b.1 && (a.2.dst.isNone || a.2.dst != b.2.dst) &&
    (!b.2.born || b.2.dst != some (a.2.dst.getD 0)) && (b.2.anc.contains i || (inB a.2.dst b.2.blind && inB b.2.dst a.2.blind && ((a.2.op.quiet && (b.2.op.quiet || hideLe b.2.may a.2.hide)) || b.2.born)))
def PO.isV : PO → Bool
  | .callv _ _ => true
  | _ => false
def edgeB (l : List (Nat × POp)) (k : Nat) (e : Edge) : Bool := !Region.binds .any e || (l.take k).any (fun q => q.1 == e.on)
def ancB (l : List (Nat × POp)) (k : Nat) (o : Oper) (p : Nat) : Bool :=
  decide (p < k) && o.after.toList.any (fun e => Region.binds .any e && (((l[p]?).map (·.1) == some e.on) || l.any (fun q => q.1 == e.on && q.2.anc.contains p)))
def oneB (P : Program) (N : Nat) (ops : Array Oper) (l : List (Nat × POp)) (k : Nat) (q : Nat × POp) : Bool :=
  match ops[q.1]? with
  | some o => mOpD ids P N ops o q.2 && !q.2.op.isV && o.after.toList.all (edgeB l k) && q.2.anc.all (ancB l k o)
  | none => false
def pairsB : Nat → List (Nat × POp) → List (Nat × POp) → Bool
  | _, _, [] => true
  | k, pre, b :: l => (pre.zipIdx.all (fun a => ordB a.2 a.1 b)) && pairsB (k + 1) (pre ++ [b]) l
def mD (P : Program) (N : Nat) (ops : Array Oper) (l : List (Nat × POp)) : Bool :=
  P.follows .mixedOrders && l.length == ops.size && (List.range ops.size).all (fun i => l.any (fun q => q.1 == i)) && l.zipIdx.all (fun q => oneB ids P N ops l q.2 q.1) && pairsB 0 [] l

structure Fits (P : Program) (N : Nat) (ops : Array Oper) (l : List (Nat × POp)) : Prop where
  mixed : P.follows .mixedOrders = true
  len : l.length = ops.size
  sur : ∀ i, i < ops.size → ∃ (k : Nat) (q : Nat × POp), l[k]? = some q ∧ q.1 = i
  op : ∀ (k : Nat) (q : Nat × POp), l[k]? = some q → ∃ o, ops[q.1]? = some o ∧ mOpD ids P N ops o q.2 = true ∧ (∀ f qs, q.2.op ≠ .callv f qs) ∧
    (∀ e ∈ o.after.toList, Region.binds .any e = true → ∃ (j : Nat) (q' : Nat × POp), j < k ∧ l[j]? = some q' ∧ q'.1 = e.on) ∧
    (∀ p ∈ q.2.anc, p < k ∧ ∃ e ∈ o.after.toList, Region.binds .any e = true ∧ ∃ (j : Nat) (q' : Nat × POp), l[j]? = some q' ∧ q'.1 = e.on ∧ (p = j ∨ p ∈ q'.2.anc))
  pair : ∀ (i j : Nat) (a b : Nat × POp), i < j → l[i]? = some a → l[j]? = some b → a.1 ≠ b.1 ∧ (∀ t, a.2.dst = some t → b.2.dst ≠ some t) ∧ (b.2.born = true → b.2.dst ≠ some (a.2.dst.getD 0)) ∧
    (i ∈ b.2.anc ∨ ((∀ t, a.2.dst = some t → t ∈ b.2.blind) ∧ (∀ t, b.2.dst = some t → t ∈ a.2.blind) ∧ ((a.2.op.quiet = true ∧ (b.2.op.quiet = true ∨ ∀ i, b.2.may.hid i = true → a.2.hide.hid i = true)) ∨ b.2.born = true)))
section
variable {ids} {P : Program} {N : Nat} {ops : Array Oper} {l : List (Nat × POp)} {call : Nat → List Arg → Option Res}
theorem inB_spec {d : Option Nat} {b : List Nat} (h : inB d b = true) : ∀ t, d = some t → t ∈ b := by
  intro t e; subst e; simpa [inB] using h
theorem ordB_spec {i : Nat} {a b : Nat × POp} (h : ordB i a b = true) : a.1 ≠ b.1 ∧ (∀ t, a.2.dst = some t → b.2.dst ≠ some t) ∧ (b.2.born = true → b.2.dst ≠ some (a.2.dst.getD 0)) ∧
    (i ∈ b.2.anc ∨ ((∀ t, a.2.dst = some t → t ∈ b.2.blind) ∧ (∀ t, b.2.dst = some t → t ∈ a.2.blind) ∧ ((a.2.op.quiet = true ∧ (b.2.op.quiet = true ∨ ∀ i, b.2.may.hid i = true → a.2.hide.hid i = true)) ∨ b.2.born = true))) := by
  simp only [ordB, Bool.and_eq_true, Bool.or_eq_true, bne_iff_ne, ne_eq, List.contains_eq_mem, decide_eq_true_eq, Bool.not_eq_true'] at h
  obtain ⟨⟨⟨h1, h2⟩, hn⟩, h3⟩ := h
  refine ⟨h1, fun t e e' => ?_, fun hb e => ?_, ?_⟩
  · rcases h2 with h2 | h2
    · rw [e] at h2; cases h2
    · exact h2 (e.trans e'.symm)
  · rcases hn with hn | hn
    · rw [hb] at hn; cases hn
    · exact hn e
  · rcases h3 with h3 | ⟨⟨h4, h5⟩, h6⟩
    · exact Or.inl h3
    · refine Or.inr ⟨inB_spec h4, inB_spec h5, ?_⟩
      rcases h6 with ⟨h3, h6⟩ | h6
      · refine Or.inl ⟨h3, ?_⟩
        rcases h6 with h6 | h6
        · exact Or.inl h6
        · exact Or.inr (fun i hi => hideLe_spec h6 hi)
      · exact Or.inr h6
theorem pairsB_spec : ∀ {rest pre : List (Nat × POp)} {k : Nat}, pairsB k pre rest = true → ∀ (i j : Nat) (a b : Nat × POp), i < pre.length + j → (pre ++ rest)[i]? = some a → rest[j]? = some b → ordB i a b = true
  | [], pre, k, _, i, j, a, b, _, _, hb => by simp at hb
  | c :: rest, pre, k, h, i, j, a, b, hij, ha, hb => by
    simp only [pairsB, Bool.and_eq_true] at h
    obtain ⟨h1, h2⟩ := h
    cases j with
    | zero =>
      simp only [List.getElem?_cons_zero, Option.some.injEq] at hb
      subst hb
      have hlt : i < pre.length := by omega
      rw [List.getElem?_append_left hlt] at ha
      have := List.all_eq_true.1 h1 (a, i) (by
        rw [List.mem_zipIdx_iff_getElem?]
        exact ha)
      exact this
    | succ j =>
      refine pairsB_spec h2 i j a b (by simp; omega) ?_ (by simpa using hb)
      simpa using ha
theorem mD_fits (h : mD ids P N ops l = true) : Fits ids P N ops l := by
  simp only [mD, Bool.and_eq_true, beq_iff_eq] at h
  obtain ⟨⟨⟨⟨h0, h1⟩, h2⟩, h3⟩, h4⟩ := h
  refine ⟨h0, h1, fun i hi => ?_, fun k q hk => ?_, fun i j a b hij ha hb => ?_⟩
  · have := List.all_eq_true.1 h2 i (List.mem_range.2 hi)
    obtain ⟨q, hq, e⟩ := List.any_eq_true.1 this
    obtain ⟨k, hk⟩ := List.mem_iff_getElem?.1 hq
    exact ⟨k, q, hk, by simpa using e⟩
  · have := List.all_eq_true.1 h3 (q, k) (by rw [List.mem_zipIdx_iff_getElem?]; exact hk)
    simp only [oneB] at this
    split at this
    · rename_i o ho
      simp only [Bool.and_eq_true, Bool.not_eq_true'] at this
      obtain ⟨⟨⟨k1, k2⟩, k3⟩, k4⟩ := this
      refine ⟨o, ho, k1, fun f qs e => ?_, fun e he hb => ?_, fun p hp => ?_⟩
      · rw [e] at k2; cases k2
      · have := List.all_eq_true.1 k3 e he
        simp only [edgeB, hb, Bool.not_true, Bool.false_or] at this
        obtain ⟨q', hq', e'⟩ := List.any_eq_true.1 this
        obtain ⟨j, hj⟩ := List.mem_iff_getElem?.1 hq'
        rw [List.getElem?_take] at hj
        split at hj
        · rename_i hjk
          exact ⟨j, q', hjk, hj, by simpa using e'⟩
        · cases hj
      · have := List.all_eq_true.1 k4 p hp
        simp only [ancB, Bool.and_eq_true, decide_eq_true_eq] at this
        obtain ⟨hpk, hany⟩ := this
        obtain ⟨e, he, hx⟩ := List.any_eq_true.1 hany
        simp only [Bool.and_eq_true, Bool.or_eq_true, beq_iff_eq] at hx
        obtain ⟨hb, hx⟩ := hx
        refine ⟨hpk, e, he, hb, ?_⟩
        rcases hx with hx | hx
        · rw [Option.map_eq_some_iff] at hx
          obtain ⟨q', hq', e'⟩ := hx
          exact ⟨p, q', hq', e', Or.inl rfl⟩
        · obtain ⟨q', hq', e'⟩ := List.any_eq_true.1 hx
          obtain ⟨j, hj⟩ := List.mem_iff_getElem?.1 hq'
          simp only [Bool.and_eq_true, beq_iff_eq, List.contains_eq_mem, decide_eq_true_eq] at e'
          exact ⟨j, q', hj, e'.1, Or.inr e'.2⟩
    · cases this
  · exact ordB_spec (pairsB_spec h4 i j a b (by simpa using hij) (by simpa using ha) hb)

/-! ### The way that is written -/
section
variable {C : Nat → Fr} (hF : Fits ids P N ops l) (hC : ∀ (k : Nat) q, l[k]? = some q → (C k).stepD call q.2 = some (C (k + 1)))
include hC in
theorem way_sl {t i : Nat} : ∀ j, i ≤ j → j ≤ l.length → (∀ (k : Nat) q, i ≤ k → k < j → l[k]? = some q → q.2.dst ≠ some t) → (C j).sl t = (C i).sl t := by
  intro j
  induction j with
  | zero => intro h _ _; have : i = 0 := by omega
            subst this; rfl
  | succ j ih =>
    intro h hj hn
    by_cases e : i = j + 1
    · subst e; rfl
    · have hlt : j < l.length := hj
      have hq := List.getElem?_eq_getElem hlt
      rw [stepD_sl (hC j _ hq) (hn j _ (by omega) (by omega) hq)]
      exact ih (by omega) (by omega) (fun k q h1 h2 => hn k q h1 (by omega))
include hC in
theorem way_rt {i : Nat} : ∀ j, i ≤ j → j ≤ l.length → (∀ (k : Nat) q, i ≤ k → k < j → l[k]? = some q → q.2.op.quiet = true) → (C j).rt = (C i).rt := by
  intro j
  induction j with
  | zero => intro h _ _; have : i = 0 := by omega
            subst this; rfl
  | succ j ih =>
    intro h hj hn
    by_cases e : i = j + 1
    · subst e; rfl
    · have hlt : j < l.length := hj
      have hq := List.getElem?_eq_getElem hlt
      rw [stepD_rt (hC j _ hq) (hn j _ (by omega) (by omega) hq)]
      exact ih (by omega) (by omega) (fun k q h1 h2 => hn k q h1 (by omega))
theorem mask_some {h : Hide} {rt : Rts} {i : Nat} {r : Root} (hm : mask h rt i = some r) : rt i = some r ∧ h.hid i = false := by
  cases h with
  | no => exact ⟨hm, rfl⟩
  | all => cases hm
  | ids a b =>
    simp only [mask] at hm
    split at hm
    · cases hm
    · rename_i hh
      exact ⟨hm, by simpa using hh⟩
include hF hC in
theorem way_keeps {h : Hide} {i : Nat} : ∀ j, i ≤ j → j ≤ l.length → (∀ (k : Nat) q, i ≤ k → k < j → l[k]? = some q → q.2.op.quiet = true ∨ ∀ x, q.2.may.hid x = true → h.hid x = true) → Sub (mask h (C i).rt) (C j).rt := by
  intro j
  induction j with
  | zero => intro hi _ _; have : i = 0 := by omega
            subst this; exact fun x r hx => (mask_some hx).1
  | succ j ih =>
    intro hi hj hn
    by_cases e : i = j + 1
    · subst e; exact fun x r hx => (mask_some hx).1
    · have hlt : j < l.length := hj
      have hq := List.getElem?_eq_getElem hlt
      have h1 := ih (by omega) (by omega) (fun k q h1 h2 => hn k q h1 (by omega))
      intro x r hx
      have hxr := h1 x r hx
      rcases hn j _ (by omega) (by omega) hq with h2 | h2
      · rw [stepD_rt (hC j _ hq) h2]; exact hxr
      · obtain ⟨_, _, _, hv, _⟩ := hF.op j _ hq
        refine stepD_keeps hv (hC j _ hq) x r hxr ?_
        cases hm : (l[j]'hlt).2.may.hid x with
        | false => rfl
        | true =>
          have := h2 x hm
          rw [(mask_some hx).2] at this
          cases this
include hF hC in
theorem way_wrote {t k j : Nat} {q : Nat × POp} (hk : l[k]? = some q) (hd : q.2.dst = some t) (hkj : k < j) (hj : j ≤ l.length) : (C j).sl t = (C l.length).sl t := by
  have hno : ∀ (k' : Nat) q', k + 1 ≤ k' → l[k']? = some q' → q'.2.dst ≠ some t := fun k' q' h1 h2 => (hF.pair k k' q q' (by omega) hk h2).2.1 t hd
  rw [way_sl hC j (i := k + 1) (by omega) hj (fun k' q' h1 _ h3 => hno k' q' h1 h3), way_sl hC l.length (i := k + 1) (by omega) (Nat.le_refl _) (fun k' q' h1 _ h3 => hno k' q' h1 h3)]
include hF in
theorem way_uniq {t i j : Nat} {a b : Nat × POp} (ha : l[i]? = some a) (hb : l[j]? = some b) (h1 : a.2.dst = some t) (h2 : b.2.dst = some t) : i = j := by
  rcases Nat.lt_trichotomy i j with h | h | h
  · exact absurd h2 ((hF.pair i j a b h ha hb).2.1 t h1)
  · exact h
  · exact absurd h1 ((hF.pair j i b a h hb ha).2.1 t h2)
include hF in
theorem way_inj {i j : Nat} {a b : Nat × POp} (ha : l[i]? = some a) (hb : l[j]? = some b) (h : a.1 = b.1) : i = j := by
  rcases Nat.lt_trichotomy i j with h' | h' | h'
  · exact absurd h ((hF.pair i j a b h' ha hb).1)
  · exact h'
  · exact absurd h.symm ((hF.pair j i b a h' hb ha).1)

/-! ### Stages -/
def Lst (listed : Array Bool) (i : Nat) : Prop := listed[i]? = some true
open Classical in
noncomputable def stSl (l : List (Nat × POp)) (C : Nat → Fr) (listed : Array Bool) (t : Nat) : Option AV :=
  if ∃ (k : Nat) (q : Nat × POp), l[k]? = some q ∧ Lst listed q.1 ∧ q.2.dst = some t then (C l.length).sl t else (C 0).sl t
noncomputable def stF (l : List (Nat × POp)) (C : Nat → Fr) (listed : Array Bool) (R : Rts) : Fr := { sl := stSl l C listed, rt := R, ps := (C 0).ps }
theorem stSl_in {listed : Array Bool} {k t : Nat} {q : Nat × POp} (h1 : l[k]? = some q) (h2 : Lst listed q.1) (h3 : q.2.dst = some t) : stSl l C listed t = (C l.length).sl t := by
  unfold stSl; rw [if_pos ⟨k, q, h1, h2, h3⟩]
theorem stSl_out {listed : Array Bool} {t : Nat} (h : ∀ (k : Nat) (q : Nat × POp), l[k]? = some q → Lst listed q.1 → q.2.dst ≠ some t) : stSl l C listed t = (C 0).sl t := by
  unfold stSl; rw [if_neg (fun ⟨k, q, h1, h2, h3⟩ => h k q h1 h2 h3)]
include hF hC in
theorem st_see {listed : Array Bool} {k : Nat} {R : Rts} {q : Nat × POp} (hk : l[k]? = some q) (hnl : ¬ Lst listed q.1) (hanc : ∀ p ∈ q.2.anc, ∀ q', l[p]? = some q' → Lst listed q'.1)
    (hdown : ∀ (j : Nat) q', l[j]? = some q' → Lst listed q'.1 → ∀ p ∈ q'.2.anc, ∀ q2, l[p]? = some q2 → Lst listed q2.1) : ((stF l C listed R).see q.2.blind).sl = ((C k).see q.2.blind).sl := by
  have hklt : k < l.length := (List.getElem?_eq_some_iff.1 hk).1
  funext t
  simp only [Fr.see, stF]
  split
  · rfl
  · rename_i hb
    have hb : t ∉ q.2.blind := by simpa using hb
    by_cases hw : ∃ (j : Nat) (q' : Nat × POp), l[j]? = some q' ∧ q'.2.dst = some t
    · obtain ⟨j, q', hj, hd⟩ := hw
      have huq : ∀ (i : Nat) (a : Nat × POp), l[i]? = some a → a.2.dst = some t → i = j := fun i a ha hd' => way_uniq hF ha hj hd' hd
      rcases Nat.lt_trichotomy j k with h | h | h
      · rcases (hF.pair j k q' q h hj hk).2.2.2 with hp | ⟨hp, _⟩
        · rw [stSl_in hj (hanc j hp q' hj) hd, way_wrote hF hC hj hd h (Nat.le_of_lt hklt)]
        · exact absurd (hp t hd) hb
      · subst h
        rw [hk] at hj; injection hj with hj; subst hj
        rw [stSl_out (fun i a ha hl hd' => by
          have := huq i a ha hd'
          subst this
          rw [hk] at ha; injection ha with ha; subst ha
          exact hnl hl)]
        rw [way_sl hC j (i := 0) (Nat.zero_le _) (Nat.le_of_lt hklt) (fun i a _ h2 ha hd' => by
          have := huq i a ha hd'
          omega)]
      · rcases (hF.pair k j q q' h hk hj).2.2.2 with hp | ⟨_, hp, _⟩
        · rw [stSl_out (fun i a ha hl hd' => by
            have := huq i a ha hd'
            subst this
            rw [hj] at ha; injection ha with ha; subst ha
            exact hnl (hdown _ _ hj hl k hp q hk))]
          rw [way_sl hC k (i := 0) (Nat.zero_le _) (Nat.le_of_lt hklt) (fun i a _ h2 ha hd' => by
            have := huq i a ha hd'
            omega)]
        · exact absurd (hp t hd) hb
    · rw [stSl_out (fun i a ha _ hd => hw ⟨i, a, ha, hd⟩), way_sl hC k (i := 0) (Nat.zero_le _) (Nat.le_of_lt hklt) (fun i a _ _ ha hd => hw ⟨i, a, ha, hd⟩)]
theorem lst_set {listed : Array Bool} {i j : Nat} : Lst (listed.setIfInBounds i true) j → Lst listed j ∨ j = i := by
  intro h
  unfold Lst at h ⊢
  by_cases e : j = i
  · exact Or.inr e
  · rw [Array.getElem?_setIfInBounds_ne (Ne.symm e)] at h
    exact Or.inl h
theorem lst_old {listed : Array Bool} {i j : Nat} (h : Lst listed j) : Lst (listed.setIfInBounds i true) j := by
  unfold Lst at h ⊢
  by_cases e : j = i
  · subst e
    rw [Array.getElem?_setIfInBounds_self_of_lt (Array.getElem?_eq_some_iff.1 h).1]
  · rw [Array.getElem?_setIfInBounds_ne (Ne.symm e)]; exact h
theorem lst_new {listed : Array Bool} {i : Nat} (h : i < listed.size) : Lst (listed.setIfInBounds i true) i := by
  unfold Lst
  rw [Array.getElem?_setIfInBounds_self_of_lt h]
include hF hC in
theorem st_next {listed : Array Bool} {k : Nat} {R : Rts} {q : Nat × POp} (hk : l[k]? = some q) (hsz : q.1 < listed.size) {F' : Fr} (hps : (C 0).ps = F'.ps)
    (hsl : ∀ t, F'.sl t = if q.2.dst = some t then (C (k + 1)).sl t else (stF l C listed R).sl t) : F' = stF l C (listed.setIfInBounds q.1 true) F'.rt := by
  have hklt : k < l.length := (List.getElem?_eq_some_iff.1 hk).1
  have : F'.sl = stSl l C (listed.setIfInBounds q.1 true) := by
    funext t
    rw [hsl t]
    split
    · rename_i hd
      rw [stSl_in hk (lst_new hsz) hd, way_wrote hF hC hk hd (by omega) (by omega)]
    · rename_i hd
      show stSl l C listed t = _
      by_cases hw : ∃ (j : Nat) (q' : Nat × POp), l[j]? = some q' ∧ Lst listed q'.1 ∧ q'.2.dst = some t
      · obtain ⟨j, q', h1, h2, h3⟩ := hw
        rw [stSl_in h1 h2 h3, stSl_in h1 (lst_old h2) h3]
      · rw [stSl_out (fun j q' h1 h2 h3 => hw ⟨j, q', h1, h2, h3⟩), stSl_out (fun j q' h1 h2 h3 => ?_)]
        rcases lst_set h2 with h2 | h2
        · exact hw ⟨j, q', h1, h2, h3⟩
        · have := way_inj hF h1 hk h2
          subst this
          rw [hk] at h1; injection h1 with h1; subst h1
          exact hd h3
  cases F'
  simp only [stF] at *
  subst this hps
  rfl
theorem ready_spec {listed : Array Bool} {i : Nat} (hsz : listed.size = ops.size) : i ∈ Region.ready .any ops listed ↔ i < ops.size ∧ ¬ Lst listed i ∧ ∃ o, ops[i]? = some o ∧ ∀ e ∈ o.after.toList, Region.binds .any e = true → Lst listed e.on := by
  have hL : ∀ j, listed.getD j false = true ↔ Lst listed j := by
    intro j
    unfold Lst
    rw [Array.getD_eq_getD_getElem?]
    cases h : listed[j]? with
    | none => simp
    | some b => simp
  simp only [Region.ready, List.mem_filter, List.mem_range, Bool.and_eq_true, Bool.not_eq_true']
  refine and_congr_right (fun hi => and_congr ?_ ?_)
  · have hlt : i < listed.size := by rw [hsz]; exact hi
    unfold Lst
    rw [Array.getD_eq_getD_getElem?, Array.getElem?_eq_getElem hlt]
    simp
  · rw [Array.getElem?_eq_getElem hi]
    simp only [Option.map_some, Option.getD_some, Option.some.injEq, exists_eq_left']
    rw [Array.all_eq_true_iff_forall_mem]
    refine ⟨fun h e he hb => ?_, fun h e he => ?_⟩
    · have := h e (by simpa using he)
      rw [hb] at this
      simp only [Bool.not_true, Bool.false_or] at this
      exact (hL _).1 this
    · cases hb : Region.binds .any e with
      | false => rfl
      | true =>
        simp only [Bool.not_true, Bool.false_or]
        exact (hL _).2 (h e (by simpa using he) hb)
/-- The roots at a stage: those behind the operations that change roots, up to m, and what was born since. -/
def StR (l : List (Nat × POp)) (C : Nat → Fr) (listed : Array Bool) (m : Nat) (R : Rts) : Prop :=
  (∀ (k : Nat) (q : Nat × POp) (d : Nat), l[k]? = some q → q.2.born = true → Lst listed q.1 → m ≤ k → q.2.dst = some d → R (nid d) = (C (k + 1)).rt (nid d)) ∧
  ∀ i, (∀ (k : Nat) (q : Nat × POp) (d : Nat), l[k]? = some q → q.2.born = true → Lst listed q.1 → m ≤ k → q.2.dst = some d → i ≠ nid d) → R i = (C m).rt i
/-- What is born from k on. -/
def Late (l : List (Nat × POp)) (listed : Array Bool) (k i : Nat) : Prop := ∃ (j : Nat) (q : Nat × POp) (d : Nat), l[j]? = some q ∧ q.2.born = true ∧ Lst listed q.1 ∧ k ≤ j ∧ q.2.dst = some d ∧ i = nid d
theorem nid_inj {a b : Nat} (h : nid a = nid b) : a = b := by unfold nid at h; omega
include hF hC in
theorem way_pres {i x : Nat} (hx : ((C i).rt x).isSome = true) : ∀ j, i ≤ j → j ≤ l.length → ((C j).rt x).isSome = true := by
  intro j
  induction j with
  | zero => intro h _; have : i = 0 := by omega
            subst this; exact hx
  | succ j ih =>
    intro h hj
    by_cases e : i = j + 1
    · subst e; exact hx
    · have hlt : j < l.length := hj
      have hq := List.getElem?_eq_getElem hlt
      obtain ⟨_, _, _, hv, _⟩ := hF.op j _ hq
      exact stepD_pres hv (hC j _ hq) (ih (by omega) (by omega))
include hC in
theorem way_born {k d : Nat} {q : Nat × POp} (hk : l[k]? = some q) (hb : q.2.born = true) (hd : q.2.dst = some d) : ∃ r, (C k).rt (nid d) = none ∧ (C (k + 1)).rt = upd (C k).rt (nid d) r := by
  have := stepD_born (hC k q hk) hb
  rw [hd] at this
  exact this
include hC in
theorem way_still {i x : Nat} : ∀ j, i ≤ j → j ≤ l.length → (∀ (k : Nat) q, i ≤ k → k < j → l[k]? = some q → q.2.op.quiet = true ∨ (q.2.born = true ∧ ∀ d, q.2.dst = some d → x ≠ nid d)) → (C j).rt x = (C i).rt x := by
  intro j
  induction j with
  | zero => intro h _ _; have : i = 0 := by omega
            subst this; rfl
  | succ j ih =>
    intro h hj hn
    by_cases e : i = j + 1
    · subst e; rfl
    · have hlt : j < l.length := hj
      have hq := List.getElem?_eq_getElem hlt
      rw [← ih (by omega) (by omega) (fun k q h1 h2 => hn k q h1 (by omega))]
      rcases hn j _ (by omega) (by omega) hq with h1 | ⟨h1, h2⟩
      · rw [stepD_rt (hC j _ hq) h1]
      · obtain ⟨_, ⟨d, hd⟩, _⟩ := born_may h1
        obtain ⟨r, _, e2⟩ := way_born hC hq h1 hd
        rw [e2, updF_ne _ _ (h2 d hd)]
include hF hC in
theorem stage_ext {listed : Array Bool} {m k : Nat} {R : Rts} (hR : StR l C listed m R) (hmk : m ≤ k) (hkl : k ≤ l.length) (hall : ∀ (j : Nat) q, l[j]? = some q → m ≤ j → j < k → q.2.op.quiet = false → q.2.born = true ∧ Lst listed q.1) : Ext (Late l listed k) (C k).rt R := by
  refine ⟨?_, fun i hi => ?_⟩
  · rintro i ⟨j, q, d, h1, h2, _, h4, h5, rfl⟩
    obtain ⟨r, e, _⟩ := way_born hC h1 h2 h5
    cases hx : (C k).rt (nid d) with
    | none => rfl
    | some y =>
      have := way_pres hF hC (i := k) (x := nid d) (by rw [hx]; rfl) j h4 (Nat.le_of_lt (List.getElem?_eq_some_iff.1 h1).1)
      rw [e] at this; cases this
  · by_cases hw : ∃ (j : Nat) (q : Nat × POp) (d : Nat), l[j]? = some q ∧ q.2.born = true ∧ Lst listed q.1 ∧ m ≤ j ∧ q.2.dst = some d ∧ i = nid d
    · obtain ⟨j, q, d, h1, h2, h3, h4, h5, rfl⟩ := hw
      have hjk : j < k := Nat.lt_of_not_le (fun e => hi ⟨j, q, d, h1, h2, h3, e, h5, rfl⟩)
      rw [hR.1 j q d h1 h2 h3 h4 h5]
      refine (way_still hC k (i := j + 1) hjk hkl (fun k' q' g1 g2 g3 => ?_)).symm
      cases hq : q'.2.op.quiet with
      | true => exact Or.inl rfl
      | false =>
        obtain ⟨b1, _⟩ := hall k' q' g3 (by omega) g2 hq
        refine Or.inr ⟨b1, fun d' hd' e => ?_⟩
        have := nid_inj e
        subst this
        have := way_uniq hF h1 g3 h5 hd'
        omega
    · rw [hR.2 i (fun j q d h1 h2 h3 h4 h5 e => hw ⟨j, q, d, h1, h2, h3, h4, h5, e⟩)]
      refine (way_still hC k (i := m) hmk hkl (fun k' q' g1 g2 g3 => ?_)).symm
      cases hq : q'.2.op.quiet with
      | true => exact Or.inl rfl
      | false =>
        obtain ⟨b1, b2⟩ := hall k' q' g3 g1 g2 hq
        exact Or.inr ⟨b1, fun d' hd' e => hw ⟨k', q', d', g3, b1, b2, g1, hd', e⟩⟩
structure Inv (w0 : World) (home0 : Home) (hd0 : Lb → Value) (l : List (Nat × POp)) (C : Nat → Fr) (listed : Array Bool) (a : Act) (w : World) (home : Home) (hd : Lb → Value) (m : Nat) (R : Rts) : Prop where
  down : ∀ (j : Nat) q', l[j]? = some q' → Lst listed q'.1 → ∀ p ∈ q'.2.anc, ∀ q2, l[p]? = some q2 → Lst listed q2.1
  le : m ≤ l.length
  loud : ∀ (k : Nat) q, l[k]? = some q → q.2.op.quiet = false → q.2.born = false → (Lst listed q.1 ↔ k < m)
  birth : ∀ (k : Nat) q, l[k]? = some q → q.2.born = true → k < m → Lst listed q.1
  st : StR l C listed m R
  fr : FrR ids w home hd N (stF l C listed R) a
  grow : Grow w0 home0 hd0 (C 0).rt w home hd R
include hF hC in
theorem any_ok (hcall : ∀ f args r, call f args = some r → Sat ids P (ids f) args r) {w0 : World} {home0 : Home} {hd0 : Lb → Value} {Q : Exit → Act → World → Prop}
    (hQ : ∀ a' w' home' hd', Grow w0 home0 hd0 (C 0).rt w' home' hd' (C l.length).rt → FrR ids w' home' hd' N (stF l C (Array.replicate ops.size true) (C l.length).rt) a' → Q .normal a' w') :
    ∀ (fuel : Nat) (listed : Array Bool) (a : Act) (w : World) (home : Home) (hd : Lb → Value) (m : Nat) (R : Rts), listed.size = ops.size → listed.toList.count false ≤ fuel → Inv (ids := ids) (N := N) w0 home0 hd0 l C listed a w home hd m R → wpAny P .any ops Q fuel listed a w := by
  have hdone : ∀ (listed : Array Bool) (a : Act) (w : World) (home : Home) (hd : Lb → Value) (m : Nat) (R : Rts), listed.size = ops.size → Inv (ids := ids) (N := N) w0 home0 hd0 l C listed a w home hd m R → Region.ready .any ops listed = [] → Q .normal a w := by
    intro listed a w home hd m R hsz hI hr
    have hall : ∀ (k : Nat) q, l[k]? = some q → Lst listed q.1 := by
      intro k
      induction k using Nat.strongRecOn with
      | ind k ih =>
        intro q hk
        by_cases hl : Lst listed q.1
        · exact hl
        · exfalso
          obtain ⟨o, ho, _, _, he, _⟩ := hF.op k q hk
          have : q.1 ∈ Region.ready .any ops listed := (ready_spec hsz).2 ⟨(Array.getElem?_eq_some_iff.1 ho).1, hl, o, ho, fun e hee hb => by
            obtain ⟨j, q', h1, h2, h3⟩ := he e hee hb
            rw [← h3]
            exact ih j h1 q' h2⟩
          rw [hr] at this
          cases this
    have hlt : listed = Array.replicate ops.size true := by
      apply Array.ext_getElem?
      intro i
      by_cases hi : i < ops.size
      · obtain ⟨k, q, hk, rfl⟩ := hF.sur i hi
        have h := hall k q hk
        unfold Lst at h
        rw [h]
        simp [hi]
      · rw [Array.getElem?_eq_none (by omega), Array.getElem?_eq_none (by simp; omega)]
    subst hlt
    have hx := stage_ext hF hC hI.st hI.le (Nat.le_refl _) (fun j q h1 h2 h3 h4 => by
      refine ⟨?_, hall j q h1⟩
      cases hb : q.2.born with
      | true => rfl
      | false =>
        have := (hI.loud j q h1 h4 hb).1 (hall j q h1)
        omega)
    have hR : R = (C l.length).rt := by
      funext i
      refine hx.2 i ?_
      rintro ⟨j, q, d, h1, _, _, h4, _⟩
      have := (List.getElem?_eq_some_iff.1 h1).1
      omega
    rw [hR] at hI
    exact hQ a w home hd hI.grow hI.fr
  intro fuel
  induction fuel with
  | zero =>
    intro listed a w home hd m R hsz hc hI
    have hr : Region.ready .any ops listed = [] := by
      rw [List.eq_nil_iff_forall_not_mem]
      intro i hi
      obtain ⟨h1, h2, _⟩ := (ready_spec hsz).1 hi
      have h0 : listed.toList.count false = 0 := by omega
      rw [List.count_eq_zero] at h0
      have hlt : i < listed.size := by rw [hsz]; exact h1
      apply h2
      unfold Lst
      rw [Array.getElem?_eq_getElem hlt]
      cases hb : listed[i] with
      | true => rfl
      | false => exact absurd (by rw [← hb]; simp) h0
    exact ⟨hr, hdone listed a w home hd m R hsz hI hr⟩
  | succ fuel ih =>
    intro listed a w home hd m R hsz hc hI
    refine ⟨hdone listed a w home hd m R hsz hI, fun i hi => ?_⟩
    obtain ⟨h1, h2, o, ho, he⟩ := (ready_spec hsz).1 hi
    obtain ⟨k, q, hk, rfl⟩ := hF.sur i h1
    have hklt : k < l.length := (List.getElem?_eq_some_iff.1 hk).1
    obtain ⟨o', ho', hm, hv, hedge, hancs⟩ := hF.op k q hk
    rw [ho] at ho'; injection ho' with ho'; subst ho'
    have hanc : ∀ p ∈ q.2.anc, ∀ q', l[p]? = some q' → Lst listed q'.1 := by
      intro p hp q' hq'
      obtain ⟨_, e, hee, hb, j, q2, hj, e2, h⟩ := hancs p hp
      have hl := he e hee hb
      rw [← e2] at hl
      rcases h with h | h
      · subst h
        rw [hj] at hq'; injection hq' with hq'; subst hq'
        exact hl
      · exact hI.down j q2 hj hl p h q' hq'
    have hlt : q.1 < listed.size := by rw [hsz]; exact h1
    have hcnt : (listed.setIfInBounds q.1 true).toList.count false ≤ fuel := by
      have hfalse : listed[q.1]? = some false := by
        rw [Array.getElem?_eq_getElem hlt]
        cases hb : listed[q.1] with
        | false => rfl
        | true => exact absurd (by unfold Lst; rw [Array.getElem?_eq_getElem hlt, hb]) h2
      rw [Array.toList_setIfInBounds, List.count_set (by simpa using hlt)]
      have : listed.toList[q.1]'(by simpa using hlt) = false := by
        rw [Array.getElem?_eq_some_iff] at hfalse
        obtain ⟨_, hf⟩ := hfalse
        simpa using hf
      simp [this] at hc ⊢
      omega
    have hsee := st_see (R := R) hF hC hk h2 hanc hI.down
    have hloudlt : q.2.born = false → ∀ (j : Nat) q', l[j]? = some q' → q'.2.op.quiet = false → j < k → Lst listed q'.1 := by
      intro hqb j q' hj hq' hjk
      rcases (hF.pair j k q' q hjk hj hk).2.2.2 with hp | ⟨_, _, ⟨hp, _⟩ | hp⟩
      · exact hanc j hp q' hj
      · rw [hq'] at hp; cases hp
      · rw [hqb] at hp; cases hp
    have hup : q.2.born = false → m ≤ k → Ext (Late l listed k) (C k).rt R := fun hqb hmk => stage_ext hF hC hI.st hmk (Nat.le_of_lt hklt) (fun j q' g1 g2 g3 g4 => by
      have hl := hloudlt hqb j q' g1 g4 g3
      refine ⟨?_, hl⟩
      cases hb : q'.2.born with
      | true => rfl
      | false =>
        have := (hI.loud j q' g1 g4 hb).1 hl
        omega)
    have hdn : Ext (Late l listed m) (C m).rt R := stage_ext hF hC hI.st (Nat.le_refl _) hI.le (fun j q' _ g2 g3 _ => by omega)
    have hqb : q.2.op.quiet = true → q.2.born = false := fun hqq => by
      cases hb : q.2.born with
      | false => rfl
      | true => rw [born_loud hb] at hqq; cases hqq
    have hqpres : q.2.op.quiet = true → ∀ i, ((C k).rt i).isSome = true → ((stF l C listed R).rt i).isSome = true := by
      intro hqq i hi
      show (R i).isSome = true
      rcases Nat.le_total k m with hkm | hkm
      · exact hdn.is (way_pres hF hC hi m hkm hI.le)
      · exact (hup (hqb hqq) hkm).is hi
    have hqsub : q.2.op.quiet = true → Sub (mask q.2.hide (C k).rt) (stF l C listed R).rt := by
      intro hqq
      show Sub _ R
      rcases Nat.le_total k m with hkm | hkm
      · have h1 := way_keeps hF hC (h := q.2.hide) (i := k) m hkm hI.le (fun j q' h3 h4 hj => by
          cases hq' : q'.2.op.quiet with
          | true => exact Or.inl rfl
          | false =>
            refine Or.inr ?_
            cases hb : q'.2.born with
            | true =>
              rw [(born_may hb).2.2]
              intro x hx; cases hx
            | false =>
              have hjl := (hI.loud j q' hj hq' hb).2 h4
              have hne : k ≠ j := fun e => by subst e; rw [hk] at hj; injection hj with hj; subst hj; rw [hqq] at hq'; cases hq'
              rcases (hF.pair k j q q' (by omega) hk hj).2.2.2 with hp | ⟨_, _, ⟨_, hp⟩ | hp⟩
              · exact absurd (hI.down j q' hj hjl k hp q hk) h2
              · rcases hp with hp | hp
                · rw [hq'] at hp; cases hp
                · exact hp
              · rw [hb] at hp; cases hp)
        exact fun x r hx => hdn.sub x r (h1 x r hx)
      · exact fun x r hx => (hup (hqb hqq) hkm).sub x r (mask_some hx).1
    have hbm : q.2.born = true → m ≤ k := fun hb => Nat.le_of_not_lt (fun h => h2 (hI.birth k q hk hb h))
    have hne : ∀ (j : Nat) q' d, l[j]? = some q' → Lst listed q'.1 → q'.2.dst = some d → q.2.dst ≠ some d := by
      intro j q' d g1 g2 g3 e
      have := way_uniq hF g1 hk g3 e
      subst this
      rw [hk] at g1; injection g1 with g1; subst g1
      exact h2 g2
    have hbn : q.2.born = true → (stF l C listed R).rt (nid (q.2.dst.getD 0)) = none := by
      intro hb
      obtain ⟨_, ⟨d, hd⟩, _⟩ := born_may hb
      rw [hd]
      show R (nid d) = none
      rw [hI.st.2 (nid d) (fun j q' d' g1 g2 g3 _ g5 e => hne j q' d' g1 g3 g5 (by rw [hd, nid_inj e]))]
      obtain ⟨r, e, _⟩ := way_born hC hk hb hd
      cases hx : (C m).rt (nid d) with
      | none => rfl
      | some y =>
        have := way_pres hF hC (i := m) (x := nid d) (by rw [hx]; rfl) k (hbm hb) (Nat.le_of_lt hklt)
        rw [e] at this; cases this
    have hmk : q.2.op.quiet = false → q.2.born = false → m ≤ k := fun hqf hbf => Nat.le_of_not_lt (fun h => h2 ((hI.loud k q hk hqf hbf).2 h))
    have hhv : q.2.op.quiet = false → q.2.born = false → Ext (Late l listed k) (C k).rt (stF l C listed R).rt ∧ ∀ j, j < 64 → ¬ Late l listed k (nid (q.2.dst.getD 0) + j) := by
      intro hqf hbf
      refine ⟨hup hbf (hmk hqf hbf), ?_⟩
      rintro j hj ⟨j2, q', d, g1, g2, g3, g4, g5, g6⟩
      have hne2 : k ≠ j2 := fun e => by subst e; rw [hk] at g1; injection g1 with g1; subst g1; rw [hbf] at g2; cases g2
      have := (hF.pair k j2 q q' (by omega) hk g1).2.2.1 g2
      apply this
      rw [g5]
      congr 1
      unfold nid at g6
      omega
    obtain ⟨F', hF', hps, l1, l2, l3, hsl⟩ := stepD_E (D := Late l listed k) hv (hC k q hk) hsee (fun hqq => ⟨hqsub hqq, hqpres hqq⟩) hbn hhv
    unfold wpOp
    rw [ho]
    simp only []
    refine stepE_ok hcall hI.fr hm hF' (fun a' w' home' hd' g hf hpr => ?_)
    have hnext := st_next hF hC (R := R) hk hlt (F' := F') (by rw [hps]; rfl) hsl
    have hold : ∀ (j : Nat) q', l[j]? = some q' → Lst (listed.setIfInBounds q.1 true) q'.1 → Lst listed q'.1 ∨ (j = k ∧ q' = q) := by
      intro j q' hj hl
      rcases lst_set hl with hl | hl
      · exact Or.inl hl
      · have := way_inj hF hj hk hl
        subst this
        rw [hk] at hj; injection hj with hj
        exact Or.inr ⟨rfl, hj.symm⟩
    obtain ⟨m', e2, e3, e4, e5⟩ : ∃ m', m' ≤ l.length ∧ (∀ (j : Nat) q', l[j]? = some q' → q'.2.op.quiet = false → q'.2.born = false → (Lst (listed.setIfInBounds q.1 true) q'.1 ↔ j < m')) ∧ (∀ (j : Nat) q', l[j]? = some q' → q'.2.born = true → j < m' → Lst (listed.setIfInBounds q.1 true) q'.1) ∧ StR l C (listed.setIfInBounds q.1 true) m' F'.rt := by
      cases hqq : q.2.op.quiet with
      | true =>
        have hR : F'.rt = R := l1 hqq
        refine ⟨m, hI.le, fun j q' hj hq' hb' => ?_, fun j q' hj hb' hjm => lst_old (hI.birth j q' hj hb' hjm), ?_⟩
        · rw [← hI.loud j q' hj hq' hb']
          refine ⟨fun h => ?_, lst_old⟩
          rcases hold j q' hj h with h | ⟨_, rfl⟩
          · exact h
          · rw [hqq] at hq'; cases hq'
        · rw [hR]
          refine ⟨fun k' q' d g1 g2 g3 g4 g5 => ?_, fun i hi => hI.st.2 i (fun k' q' d g1 g2 g3 g4 g5 => hi k' q' d g1 g2 (lst_old g3) g4 g5)⟩
          rcases hold k' q' g1 g3 with h | ⟨_, rfl⟩
          · exact hI.st.1 k' q' d g1 g2 h g4 g5
          · rw [born_loud g2] at hqq; cases hqq
      | false =>
        cases hbb : q.2.born with
        | true =>
          obtain ⟨_, ⟨d, hd⟩, _⟩ := born_may hbb
          obtain ⟨r, b1, b2, b3⟩ := l2 hbb
          rw [hd] at b1 b2 b3
          simp only [Option.getD_some] at b1 b2 b3
          have b3 : F'.rt = upd R (nid d) r := b3
          refine ⟨m, hI.le, fun j q' hj hq' hb' => ?_, fun j q' hj hb' hjm => lst_old (hI.birth j q' hj hb' hjm), ?_⟩
          · rw [← hI.loud j q' hj hq' hb']
            refine ⟨fun h => ?_, lst_old⟩
            rcases hold j q' hj h with h | ⟨_, rfl⟩
            · exact h
            · rw [hbb] at hb'; cases hb'
          · rw [b3]
            refine ⟨fun k' q' d' g1 g2 g3 g4 g5 => ?_, fun i hi => ?_⟩
            · rcases hold k' q' g1 g3 with h | ⟨rfl, rfl⟩
              · have hdd : nid d' ≠ nid d := fun e => hne k' q' d' g1 h g5 (by rw [hd, nid_inj e])
                rw [updF_ne _ _ hdd]
                exact hI.st.1 k' q' d' g1 g2 h g4 g5
              · rw [hd] at g5
                injection g5 with g5
                subst g5
                rw [b2, updF_same, updF_same]
            · rw [updF_ne _ _ (hi k q d hk hbb (lst_new hlt) (hbm hbb) hd)]
              exact hI.st.2 i (fun k' q' d' g1 g2 g3 g4 g5 => hi k' q' d' g1 g2 (lst_old g3) g4 g5)
        | false =>
          have hmk1 := hmk hqq hbb
          obtain ⟨x1, x2, _⟩ := l3 hqq hbb
          have x2 : ∀ i, Late l listed k i → F'.rt i = R i := x2
          refine ⟨k + 1, hklt, fun j q' hj hq' hb' => ⟨fun h => ?_, fun h => ?_⟩, fun j q' hj hb' hjk => ?_, fun k' q' d' g1 g2 g3 g4 g5 => ?_, fun i hi => ?_⟩
          · rcases hold j q' hj h with h | ⟨h, _⟩
            · have := (hI.loud j q' hj hq' hb').1 h
              omega
            · omega
          · by_cases e : j = k
            · subst e
              rw [hk] at hj; injection hj with hj; subst hj
              exact lst_new hlt
            · exact lst_old (hloudlt hbb j q' hj hq' (by omega))
          · have hjne : j ≠ k := fun e => by subst e; rw [hk] at hj; injection hj with hj; subst hj; rw [hbb] at hb'; cases hb'
            exact lst_old (hloudlt hbb j q' hj (born_loud hb') (by omega))
          · rcases hold k' q' g1 g3 with h | ⟨h, _⟩
            · rw [x2 _ ⟨k', q', d', g1, g2, h, by omega, g5, rfl⟩]
              exact hI.st.1 k' q' d' g1 g2 h (by omega) g5
            · omega
          · refine x1.2 i ?_
            rintro ⟨j, q', d', g1, g2, g3, g4, g5, g6⟩
            have hjne : j ≠ k := fun e => by subst e; rw [hk] at g1; injection g1 with g1; subst g1; rw [hbb] at g2; cases g2
            exact hi j q' d' g1 g2 (lst_old g3) (by omega) g5 g6
    refine ih _ a' w' home' hd' m' F'.rt (by simpa using hsz) hcnt ⟨fun j q' hj hl p hp q2 hq2 => ?_, e2, e3, e4, e5, ?_, hI.grow.trans g⟩
    · rcases hold j q' hj hl with hl | ⟨_, rfl⟩
      · exact lst_old (hI.down j q' hj hl p hp q2 hq2)
      · exact lst_old (hanc p hp q2 hq2)
    · rw [← hnext]; exact hf
end
theorem stepsD_ok (hcall : ∀ f args r, call f args = some r → Sat ids P (ids f) args r) {id : Nat} {w : World} {home : Home} {hd : Lb → Value} {fr fr' : Fr} {a : Act} {Q : Exit → Act → World → Prop} (h : FrR ids w home hd N fr a) (hm : mD ids P N ops l = true) (he : fr.stepsD call l = some fr')
    (hq : ∀ a' w' home' hd', Grow w home hd fr.rt w' home' hd' fr'.rt → FrR ids w' home' hd' N fr' a' → Q .normal a' w') : (Code.region id ops true).wp P Q a w := by
  have hF := mD_fits hm
  obtain ⟨C, c0, c1, hC⟩ := stepsD_trace he
  refine wp_region_any hF.mixed ?_
  have hnone : ∀ i, ¬ Lst (Array.replicate ops.size false) i := by
    intro i hi
    unfold Lst at hi
    rw [Array.getElem?_replicate] at hi
    split at hi <;> cases hi
  have hps : ∀ j, j ≤ l.length → (C j).ps = (C 0).ps := by
    intro j
    induction j with
    | zero => intro _; rfl
    | succ j ih =>
      intro hj
      have hlt : j < l.length := hj
      have hs := hC j _ (List.getElem?_eq_getElem hlt)
      rw [← ih (by omega)]
      exact stepD_ps hs
  refine any_ok hF hC hcall (w0 := w) (home0 := home) (hd0 := hd) (fun a' w' home' hd' g hf => ?_) ops.size _ a _ home hd 0 fr.rt (by simp) (by simp) ⟨fun j q' hj hl => absurd hl (hnone _), Nat.zero_le _, fun k q hk hqq _ => ⟨fun hl => absurd hl (hnone _), fun h => absurd h (Nat.not_lt_zero _)⟩, fun k q hk hb h => absurd h (Nat.not_lt_zero _), ⟨fun k q d _ _ h => absurd h (hnone _), fun i _ => by rw [c0]⟩, ?_, ?_⟩
  · rw [c0, c1] at g
    refine hq a' w' home' hd' g ?_
    have : stF l C (Array.replicate ops.size true) (C l.length).rt = fr' := by
      have e : stSl l C (Array.replicate ops.size true) = fr'.sl := by
        funext t
        by_cases hw : ∃ (j : Nat) (q' : Nat × POp), l[j]? = some q' ∧ q'.2.dst = some t
        · obtain ⟨j, q', hj, hd'⟩ := hw
          obtain ⟨o, ho, _⟩ := hF.op j q' hj
          rw [stSl_in hj (by unfold Lst; simp [(Array.getElem?_eq_some_iff.1 ho).1]) hd', c1]
        · rw [stSl_out (fun i b hb _ hd' => hw ⟨i, b, hb, hd'⟩), ← c1]
          exact (way_sl hC l.length (i := 0) (Nat.zero_le _) (Nat.le_refl _) (fun i b _ _ hb hd' => hw ⟨i, b, hb, hd'⟩)).symm
      have e2 : (C 0).ps = fr'.ps := by rw [← c1]; exact (hps _ (Nat.le_refl _)).symm
      simp only [stF, e, c1, e2]
    rw [← this]; exact hf
  · have : stF l C (Array.replicate ops.size false) fr.rt = fr := by
      have e : stSl l C (Array.replicate ops.size false) = fr.sl := by
        funext t
        rw [stSl_out (fun i b hb hl _ => hnone _ hl), c0]
      simp only [stF, e, c0]
    rw [this]
    exact h.drew
  · rw [c0]
    exact (Step.drew h.rel).grow
end
end Go.Proofs.YtecmolmlojehgaaGreat.T
namespace Go.Proofs.YtecmolmlojehgaaGreat.T
open Go
variable (ids : Nat → FuncId)

def exOf : Ex → Exit
  | .normal => .normal
  | .exit i => .exit i
  | .ret => .ret
def mC (P : Program) (N : Nat) : Code → PC → Bool
  | .skip, .skip => true
  | .region _ ops draw, .ops l _ => !draw && all2 (mOp ids P N ops) ops.toList l
  | .region _ ops draw, .dops l _ => draw && mD ids P N ops l
  | .seq a b, .seq a' b' => mC P N a a' && mC P N b b'
  | .cond c a b, .cond c' a' b' => mOpd ids c c' && mC P N a a' && mC P N b b'
  | .block i c, .block i' c' => i == i' && mC P N c c'
  | .loop c, .loop _ c' => mC P N c c'
  | .exit i, .exit i' => i == i'
  | .ret, .ret => true
  | _, _ => false
section
variable {ids} {P : Program} {N : Nat} {call : Nat → List Arg → Option Res}
theorem step_ps {fr fr' : Fr} {o : POp} (h : fr.step call o = some fr') : fr'.ps = fr.ps := by
  have hout : ∀ (fr : Fr) d av, (fr.out d av).ps = fr.ps := fun fr d av => by cases d <;> rfl
  have hex : ∀ {fr'}, fr.exec call o = some fr' → fr'.ps = fr.ps := by
    intro fr' h
    unfold Fr.exec at h
    split at h
    · split at h
      · injection h with h; subst h; rw [hout]
      · cases h
    · cases h
  unfold Fr.step at h
  split at h
  · exact hex h
  · split at h
    · split at h
      · exact hex h
      · injection h with h; subst h; exact hout _ _ _
    · injection h with h; subst h; exact hout _ _ _
    · cases h
theorem steps_ps : ∀ {l : List POp} {fr fr' : Fr}, fr.steps call l = some fr' → fr'.ps = fr.ps
  | [], fr, fr', h => by simp only [Fr.steps, Option.some.injEq] at h; subst h; rfl
  | o :: l, fr, fr', h => by
    simp only [Fr.steps] at h
    split at h
    · rename_i fr1 h1
      exact (steps_ps h).trans (step_ps h1)
    · cases h
theorem runC_ps : ∀ (pc : PC) {n : Nat} {fr fr' : Fr} {e : Ex}, runC call n pc fr = some (e, fr') → fr'.ps = fr.ps
  | .skip, n, fr, fr', e, h => by simp only [runC, Option.some.injEq, Prod.mk.injEq] at h; obtain ⟨_, rfl⟩ := h; rfl
  | .exit i, n, fr, fr', e, h => by simp only [runC, Option.some.injEq, Prod.mk.injEq] at h; obtain ⟨_, rfl⟩ := h; rfl
  | .ret, n, fr, fr', e, h => by simp only [runC, Option.some.injEq, Prod.mk.injEq] at h; obtain ⟨_, rfl⟩ := h; rfl
  | .dops l k, n, fr, fr', e, h => by
    simp only [runC, Option.map_eq_some_iff, Prod.mk.injEq] at h
    obtain ⟨fr1, h1, _, rfl⟩ := h
    have := stepsD_ps h1
    exact this
  | .ops l k, n, fr, fr', e, h => by
    simp only [runC, Option.map_eq_some_iff, Prod.mk.injEq] at h
    obtain ⟨fr1, h1, _, rfl⟩ := h
    have := steps_ps h1
    exact this
  | .seq a b, n, fr, fr', e, h => by
    simp only [runC] at h
    split at h
    · rename_i fr1 h1
      exact (runC_ps b h).trans (runC_ps a h1)
    · exact runC_ps a h
  | .cond c a b, n, fr, fr', e, h => by
    simp only [runC] at h
    split at h
    · split at h
      · exact runC_ps a h
      · exact runC_ps b h
    · cases h
  | .block i c, n, fr, fr', e, h => by
    simp only [runC] at h
    split at h
    · rename_i j fr1 h1
      split at h
      · simp only [Option.some.injEq, Prod.mk.injEq] at h; obtain ⟨_, rfl⟩ := h; exact runC_ps c h1
      · simp only [Option.some.injEq, Prod.mk.injEq] at h; obtain ⟨_, rfl⟩ := h; exact runC_ps c h1
    · exact runC_ps c h
  | .loop live c, n, fr, fr', e, h => by
    simp only [runC] at h
    have key : ∀ (k : Nat) (fr : Fr), iter (fun fr => runC call n c (fr.canon live)) k fr = some (e, fr') → fr'.ps = fr.ps := by
      intro k
      induction k with
      | zero => intro fr h; cases h
      | succ k ih =>
        intro fr h
        simp only [iter] at h
        split at h
        · rename_i fr1 h1
          have e1 : fr1.ps = (fr.canon live).ps := runC_ps c h1
          exact (ih fr1 h).trans e1
        · have e1 : fr'.ps = (fr.canon live).ps := runC_ps c h
          exact e1
    exact key n fr h
theorem runC_ok (hcall : ∀ f args r, call f args = some r → Sat ids P (ids f) args r) : ∀ (pc : PC) {code : Code} {n : Nat} {fr fr' : Fr} {e : Ex} {w : World} {home : Home} {hd : Lb → Value} {a : Act} {Q : Exit → Act → World → Prop}, mC ids P N code pc = true → runC call n pc fr = some (e, fr') →
    FrR ids w home hd N fr a → (∀ a' w' home' hd', Grow w home hd fr.rt w' home' hd' fr'.rt → FrR ids w' home' hd' N fr' a' → Q (exOf e) a' w') → code.wp P Q a w
  | .skip, code, n, fr, fr', e, w, home, hd, a, Q, hm, h, hf, hq => by
    cases code <;> simp only [mC, Bool.false_eq_true] at hm
    simp only [runC, Option.some.injEq, Prod.mk.injEq] at h
    obtain ⟨rfl, rfl⟩ := h
    exact wp_skip (hq a w home hd Grow.refl hf)
  | .exit i, code, n, fr, fr', e, w, home, hd, a, Q, hm, h, hf, hq => by
    cases code <;> simp only [mC, Bool.false_eq_true] at hm
    have hi := eq_of_beq hm
    subst hi
    simp only [runC, Option.some.injEq, Prod.mk.injEq] at h
    obtain ⟨rfl, rfl⟩ := h
    exact wp_exit (hq a w home hd Grow.refl hf)
  | .ret, code, n, fr, fr', e, w, home, hd, a, Q, hm, h, hf, hq => by
    cases code <;> simp only [mC, Bool.false_eq_true] at hm
    simp only [runC, Option.some.injEq, Prod.mk.injEq] at h
    obtain ⟨rfl, rfl⟩ := h
    exact wp_ret (hq a w home hd Grow.refl hf)
  | .dops l k, code, n, fr, fr', e, w, home, hd, a, Q, hm, h, hf, hq => by
    cases code with
    | region id ops draw =>
      simp only [mC, Bool.and_eq_true] at hm
      obtain ⟨rfl, hm⟩ := hm
      simp only [runC, Option.map_eq_some_iff, Prod.mk.injEq] at h
      obtain ⟨fr1, h1, rfl, rfl⟩ := h
      refine stepsD_ok hcall hf hm h1 (fun a' w' home' hd' g hf' => ?_)
      refine hq a' w' _ hd' (g.trans ?_) (keep_ok hf' k)
      rw [keep_rt]; exact keep_grow _
    | _ => simp only [mC, Bool.false_eq_true] at hm
  | .ops l k, code, n, fr, fr', e, w, home, hd, a, Q, hm, h, hf, hq => by
    cases code with
    | region id ops draw =>
      simp only [mC, Bool.and_eq_true, Bool.not_eq_true'] at hm
      obtain ⟨rfl, hm⟩ := hm
      simp only [runC, Option.map_eq_some_iff, Prod.mk.injEq] at h
      obtain ⟨fr1, h1, rfl, rfl⟩ := h
      obtain ⟨m1, m2⟩ := all2_iff hm
      refine wp_region ?_
      have hsz : ops.size = l.length := by rw [← m1]; simp
      rw [List.range_eq_range', hsz]
      refine steps_ok hcall hf (fun j p hp => ?_) h1 (fun a' w' home' hd' g hf' => ?_)
      · have hlt : j < ops.toList.length := by rw [m1]; exact (List.getElem?_eq_some_iff.1 hp).1
        refine ⟨ops.toList[j], ?_, m2 j _ p (List.getElem?_eq_getElem hlt) hp⟩
        rw [Nat.zero_add, ← Array.getElem?_toList]
        exact List.getElem?_eq_getElem hlt
      · refine hq a' w' _ hd' (g.trans ?_) (keep_ok hf' k)
        rw [keep_rt]; exact keep_grow _
    | _ => simp only [mC, Bool.false_eq_true] at hm
  | .seq x y, code, n, fr, fr', e, w, home, hd, a, Q, hm, h, hf, hq => by
    cases code <;> simp only [mC, Bool.false_eq_true, Bool.and_eq_true] at hm
    obtain ⟨m1, m2⟩ := hm
    simp only [runC] at h
    split at h
    · rename_i fr1 h1
      refine wp_seq (runC_ok hcall x m1 h1 hf (fun a' w' home' hd' g hf' => ?_))
      exact runC_ok hcall y m2 h hf' (fun a2 w2 home2 hd2 g2 hf2 => hq a2 w2 home2 hd2 (g.trans g2) hf2)
    · rename_i hne
      refine wp_seq (runC_ok hcall x m1 h hf (fun a' w' home' hd' g hf' => ?_))
      have := hq a' w' home' hd' g hf'
      cases e with
      | normal => exact absurd h (hne fr')
      | exit i => exact this
      | ret => exact this
  | .cond c x y, code, n, fr, fr', e, w, home, hd, a, Q, hm, h, hf, hq => by
    cases code <;> simp only [mC, Bool.false_eq_true, Bool.and_eq_true] at hm
    obtain ⟨⟨m0, m1⟩, m2⟩ := hm
    simp only [runC] at h
    split at h
    · rename_i t ht
      have hv := (hf.ev.V m0 ht).1
      refine wp_cond hv ?_
      cases t with
      | true => exact runC_ok hcall x m1 (by simpa using h) hf hq
      | false => exact runC_ok hcall y m2 (by simpa using h) hf hq
    · cases h
  | .block i c, code, n, fr, fr', e, w, home, hd, a, Q, hm, h, hf, hq => by
    cases code <;> simp only [mC, Bool.false_eq_true, Bool.and_eq_true] at hm
    obtain ⟨m0, m1⟩ := hm
    have hi := eq_of_beq m0
    subst hi
    rename_i i c'
    simp only [runC] at h
    split at h
    · rename_i j fr1 h1
      refine wp_block (runC_ok hcall c m1 h1 hf (fun a' w' home' hd' g hf' => ?_))
      simp only [exOf, Exit.inBlock]
      split at h
      · rename_i hj
        simp only [Option.some.injEq, Prod.mk.injEq] at h
        obtain ⟨rfl, rfl⟩ := h
        rw [if_pos hj]
        exact hq a' w' home' hd' g hf'
      · rename_i hj
        simp only [Option.some.injEq, Prod.mk.injEq] at h
        obtain ⟨rfl, rfl⟩ := h
        rw [if_neg hj]
        exact hq a' w' home' hd' g hf'
    · rename_i hne
      refine wp_block (runC_ok hcall c m1 h hf (fun a' w' home' hd' g hf' => ?_))
      have := hq a' w' home' hd' g hf'
      cases e with
      | normal => exact this
      | exit j => exact absurd h (hne j fr')
      | ret => exact this
  | .loop live c, code, n, fr, fr', e, w, home, hd, a, Q, hm, h, hf, hq => by
    cases code <;> simp only [mC, Bool.false_eq_true] at hm
    rename_i c'
    simp only [runC] at h
    have key : ∀ (k : Nat) (fr : Fr) (w : World) (home : Home) (hd : Lb → Value) (a : Act), iter (fun fr => runC call n c (fr.canon live)) k fr = some (e, fr') → FrR ids w home hd N fr a →
        (∀ a' w' home' hd', Grow w home hd fr.rt w' home' hd' fr'.rt → FrR ids w' home' hd' N fr' a' → Q (exOf e) a' w') → Code.rounds P c' Q k a w := by
      intro k
      induction k with
      | zero => intro fr w home hd a h; cases h
      | succ k ih =>
        intro fr w home hd a h hf hq
        rw [rounds_succ]
        obtain ⟨home0, hd0, g0, hf0⟩ := canon_ok hf live
        simp only [iter] at h
        split at h
        · rename_i fr1 h1
          refine runC_ok hcall c hm h1 hf0 (fun a' w' home' hd' g hf' => ?_)
          exact ih fr1 w' home' hd' a' h hf' (fun a2 w2 home2 hd2 g2 hf2 => hq a2 w2 home2 hd2 ((g0.trans g).trans g2) hf2)
        · rename_i hne
          refine runC_ok hcall c hm h hf0 (fun a' w' home' hd' g hf' => ?_)
          have := hq a' w' home' hd' (g0.trans g) hf'
          cases e with
          | normal => exact absurd h (hne fr')
          | exit i => exact this
          | ret => exact this
    exact wp_loop_rounds n (key n fr w home hd a h hf hq)
end
end Go.Proofs.YtecmolmlojehgaaGreat.T
namespace Go.Proofs.YtecmolmlojehgaaGreat.T
open Go
variable (ids : Nat → FuncId)

def mRes (P : Program) : ResultVar → PR → Bool
  | .tmp t, .t n => t == n
  | .cell t ty, .cell n agg sz => t == n && aggIs P ty agg && elemIs P sz ty
  | _, _ => false
def resOne (tmps : Array Value) : ResultVar → Sem Value
  | .tmp t => pure (tmps.getD t undef)
  | .cell b t => do loadVar t (← asAddr (tmps.getD b undef))
theorem results_eq (fn : Func) (tmps : Array Value) : results fn tmps = (do
    let vs ← fn.results.mapM (resOne tmps)
    pure (if h : vs.size = 1 then vs[0] else .tuple vs)) := by
  unfold results
  congr 1
section
variable {ids} {P : Program} {w : World} {home : Home} {hd : Lb → Value} {N : Nat} {fr : Fr} {a : Act} {rt rt1 : Rts}
/-- A variable's cells, read. -/
theorem load_pb (old : RtR w home hd rt F0) {id off n : Nat} {v : Value} (hv : SVR w home hd rt (.pb id off) v) {ys : List SV} (hl : load rt n (.pb id off) = some ys) :
    ∃ b, v = .pointer (some ⟨b, off, none⟩) ∧ ys.length = n ∧ (∀ (j : Nat) y, ys[j]? = some y → ∃ u, w.cell? ⟨b, off + j, none⟩ = some u ∧ SVR w home hd rt y u ∧ ∀ i ∈ y.ids, (rt i).isSome = true) := by
  simp only [load] at hl
  split at hl
  · rename_i xs hrt
    obtain ⟨g1, g2⟩ := seg_get hl
    obtain ⟨b, cur, e, k1, k2, k3, k4⟩ := RR.box (old.root (.r id) _ hrt)
    obtain ⟨b', k5, k6⟩ := hv.2 xs hrt
    rw [k1] at k5
    injection k5 with k5; injection k5 with k5; injection k5 with k5
    subst k5
    refine ⟨b, k6, g1, fun j y hy => ?_⟩
    have hx := g2 j y hy
    have hlt : off + j < cur.toList.length := by rw [← k4.1]; exact (List.getElem?_eq_some_iff.1 hx).1
    refine ⟨cur.toList[off + j], ?_, k4.2 _ y _ hx (List.getElem?_eq_getElem hlt), fun i hi => old.wf (.r id) _ hrt i (by simp only [Root.ids, List.mem_flatMap]; exact ⟨y, List.mem_of_getElem? hx, hi⟩)⟩
    rw [cell_row k3, ← Array.getElem?_toList]
    exact List.getElem?_eq_getElem hlt
  · cases hl
theorem mkAgg_ids {agg : Bool} {ys : List SV} {r : A1} (h : mkAgg agg ys = some r) (hp : ∀ y ∈ ys, ∀ i ∈ y.ids, (rt i).isSome = true) : ∀ i ∈ r.ids, (rt i).isSome = true := by
  unfold mkAgg at h
  split at h
  · injection h with h; subst h
    intro i hi
    simp only [A1.ids, List.mem_flatMap] at hi
    obtain ⟨y, h1, h2⟩ := hi
    exact hp y h1 i h2
  · split at h
    · injection h with h; subst h
      exact fun i hi => hp _ (List.mem_singleton.2 rfl) i hi
    · cases h
/-- The results, as the machine gives them. -/
theorem results_ok (h : FrR ids w home hd N fr a) {fn : Func} {rs : List PR} (hm : all2 (mRes P) fn.results.toList rs = true) {as : List A1} (hr : mapO (resAt fr.sl fr.rt) rs = some as) :
    ∃ us : List Value, (results fn a.tmps).run P w = .ok (retV us) w ∧ F2 (A1R ids w home hd fr.rt) as us ∧ ∀ x ∈ as, ∀ i ∈ x.ids, (fr.rt i).isSome = true := by
  have one : ∀ (rv : ResultVar) (p : PR) (x : A1), mRes P rv p = true → resAt fr.sl fr.rt p = some x → ∃ u, (resOne a.tmps rv).run P w = .ok u w ∧ A1R ids w home hd fr.rt x u ∧ ∀ i ∈ x.ids, (fr.rt i).isSome = true := by
    intro rv p x hm hx
    cases rv with
    | tmp t =>
      cases p with
      | cell _ _ _ => cases hm
      | t n =>
        have ht : t = n := eq_of_beq hm
        subst ht
        simp only [resAt] at hx
        split at hx
        · rename_i y hy
          injection hx with hx
          subst hx
          obtain ⟨v, e1, e2, e3⟩ := h.sl t _ hy
          exact ⟨v, by simp [resOne, e1], e2, e3⟩
        · cases hx
    | cell t ty =>
      cases p with
      | t n => cases hm
      | cell n agg sz =>
        simp only [mRes, Bool.and_eq_true] at hm
        obtain ⟨⟨h1, h2⟩, h3⟩ := hm
        have ht : t = n := eq_of_beq h1
        subst ht
        simp only [resAt] at hx
        split at hx
        · rename_i id off hy
          split at hx
          · rename_i ys hl
            obtain ⟨v, e1, e2, e3⟩ := h.sl t _ hy
            obtain ⟨b, e4, e5, e6⟩ := load_pb h.rel e2 hl
            obtain ⟨u, e7, e8⟩ := run_loadVar' (ids := ids) (P := P) h2 h3 e5 (fun j y hj => ⟨_, (e6 j y hj).choose_spec.1, (e6 j y hj).choose_spec.2.1⟩) hx
            refine ⟨u, ?_, e8, mkAgg_ids hx (fun y hy i hi => ?_)⟩
            · simp [resOne, e1, e4, asAddr, e7]
            · obtain ⟨j, hj⟩ := List.getElem?_of_mem hy
              obtain ⟨_, _, _, e9⟩ := e6 j y hj
              exact e9 i hi
          · cases hx
        · cases hx
  have many : ∀ (rvs : List ResultVar) (ps : List PR) (as : List A1), all2 (mRes P) rvs ps = true → mapO (resAt fr.sl fr.rt) ps = some as → ∃ us : List Value,
      (rvs.mapM (resOne a.tmps)).run P w = .ok us w ∧ F2 (A1R ids w home hd fr.rt) as us ∧ ∀ x ∈ as, ∀ i ∈ x.ids, (fr.rt i).isSome = true := by
    intro rvs
    induction rvs with
    | nil =>
      intro ps as hm hr
      cases ps with
      | cons _ _ => cases hm
      | nil =>
        simp only [mapO, Option.some.injEq] at hr
        subst hr
        exact ⟨[], rfl, ⟨rfl, fun i x y hx => by simp at hx⟩, fun x hx => by cases hx⟩
    | cons rv rvs ih =>
      intro ps as hm hr
      cases ps with
      | nil => cases hm
      | cons p ps =>
        simp only [all2, Bool.and_eq_true] at hm
        simp only [mapO] at hr
        split at hr
        · rename_i y hy
          split at hr
          · rename_i ys hys
            injection hr with hr
            subst hr
            obtain ⟨u, g1, g2, g3⟩ := one rv p y hm.1 hy
            obtain ⟨us, k1, k2, k3⟩ := ih ps ys hm.2 hys
            refine ⟨u :: us, ?_, ⟨by simp [k2.1], fun i x z hx hz => ?_⟩, fun x hx i hi => ?_⟩
            · rw [List.mapM_cons]
              simp only [Sem.run_bind, g1, Result.andThen_ok, k1, Sem.run_pure]
            · cases i with
              | zero => simp at hx hz; subst hx hz; exact g2
              | succ i => exact k2.2 i x z (by simpa using hx) (by simpa using hz)
            · rcases List.mem_cons.1 hx with rfl | hx
              · exact g3 i hi
              · exact k3 x hx i hi
          · cases hr
        · cases hr
  obtain ⟨us, k1, k2, k3⟩ := many fn.results.toList rs as hm hr
  refine ⟨us, ?_, k2, k3⟩
  rw [results_eq, Array.mapM_eq_mapM_toList]
  simp only [Sem.run_bind, Sem.run_map, k1, Result.andThen_ok, Sem.run_pure]
  congr 1
  match us with
  | [] => rfl
  | [u] => rfl
  | u :: v :: us => simp [retV]
end
end Go.Proofs.YtecmolmlojehgaaGreat.T
namespace Go.Proofs.YtecmolmlojehgaaGreat.T
open Go
variable (ids : Nat → FuncId)

theorem takes_app : ∀ (as : List SV) {bs : List SV} {rt0 rt1 rt2 : Rts} {la lb : List (Ow × C)}, takes rt0 as = some (la, rt1) → takes rt1 bs = some (lb, rt2) → takes rt0 (as ++ bs) = some (la ++ lb, rt2) ∧ la.length = as.length
  | [], bs, rt0, rt1, rt2, la, lb, h1, h2 => by
    simp only [takes, Option.some.injEq, Prod.mk.injEq] at h1
    obtain ⟨rfl, rfl⟩ := h1
    exact ⟨h2, rfl⟩
  | a :: as, bs, rt0, rt1, rt2, la, lb, h1, h2 => by
    simp only [takes] at h1
    split at h1
    · rename_i o c rtm hm
      split at h1
      · rename_i l' rtn hn
        simp only [Option.some.injEq, Prod.mk.injEq] at h1
        obtain ⟨rfl, rfl⟩ := h1
        obtain ⟨e1, e2⟩ := takes_app as hn h2
        exact ⟨by simp only [List.cons_append, takes, hm, e1], by simp [e2]⟩
      · cases h1
    · cases h1
section
variable {ids} {P : Program} {w : World} {home : Home} {hd : Lb → Value} {N : Nat} {fr : Fr} {a : Act} {rt rt1 : Rts}
theorem takesR_flat : ∀ {as : List A1} {rt rt1 : Rts} {rs : List RV} {us : List Value}, takesR rt as = some (rs, rt1) → F2 (A1R ids w home hd fr.rt) as us → ∃ xs l fl, takes rt xs = some (l, rt1) ∧ cellsOf rs = l.map (fun q => .mk q.1 q.2) ∧ F2 (SVR w home hd fr.rt) xs fl ∧ Asm rs fl us ∧
    ∀ x ∈ xs, ∀ i ∈ x.ids, ∃ a ∈ as, i ∈ a.ids
  | [], rt, rt1, rs, us, h, hf => by
    simp only [takesR, Option.some.injEq, Prod.mk.injEq] at h
    obtain ⟨rfl, rfl⟩ := h
    have : us = [] := List.eq_nil_of_length_eq_zero (by rw [← hf.1]; rfl)
    subst this
    exact ⟨[], [], [], rfl, rfl, ⟨rfl, fun i x y hx => by simp at hx⟩, ⟨rfl, rfl⟩, fun x hx => by cases hx⟩
  | a :: as, rt, rt1, rs, us, h, hf => by
    cases us with
    | nil => exact absurd hf.1 (by simp)
    | cons u us =>
      simp only [takesR] at h
      split at h
      · rename_i r rtm hm
        split at h
        · rename_i rs' rtn hn
          simp only [Option.some.injEq, Prod.mk.injEq] at h
          obtain ⟨rfl, rfl⟩ := h
          obtain ⟨xs, l, fl, g1, g2, g3, g4, g5⟩ := takesR_flat (us := us) hn ⟨by have := hf.1; simpa using this, fun i x y hx hy => hf.2 (i + 1) x y hx hy⟩
          have h0 := hf.2 0 a u rfl rfl
          have g5' : ∀ x ∈ xs, ∀ i ∈ x.ids, ∃ b ∈ a :: as, i ∈ b.ids := fun x hx i hi => by
            obtain ⟨b, k1, k2⟩ := g5 x hx i hi
            exact ⟨b, List.mem_cons_of_mem _ k1, k2⟩
          cases a with
          | fn f ys => cases hm
          | s s =>
            simp only [take1] at hm
            split at hm
            · rename_i o c rt' ht
              simp only [Option.some.injEq, Prod.mk.injEq] at hm
              obtain ⟨rfl, rfl⟩ := hm
              refine ⟨s :: xs, (o, c) :: l, u :: fl, by simp only [takes, ht, g1], by simp [cellsOf, g2], ⟨by simp [g3.1], fun i x y hx hy => ?_⟩, ⟨u, fl, us, rfl, rfl, g4⟩, fun x hx i hi => ?_⟩
              · cases i with
                | zero => simp at hx hy; subst hx hy; exact h0
                | succ i => exact g3.2 i x y (by simpa using hx) (by simpa using hy)
              · rcases List.mem_cons.1 hx with rfl | hx
                · exact ⟨_, List.mem_cons_self .., hi⟩
                · exact g5' x hx i hi
            · cases hm
          | agg ys =>
            simp only [take1] at hm
            split at hm
            · rename_i l0 rt' ht
              simp only [Option.some.injEq, Prod.mk.injEq] at hm
              obtain ⟨rfl, rfl⟩ := hm
              obtain ⟨vs, e1, e2⟩ := h0
              obtain ⟨k1, k2⟩ := takes_app ys ht g1
              refine ⟨ys ++ xs, l0 ++ l, vs ++ fl, k1, by simp [cellsOf, g2], e2.append g3, ⟨vs, fl, us, rfl, ?_, by rw [e1], g4⟩, fun x hx i hi => ?_⟩
              · rw [List.length_map, k2]; exact e2.1.symm
              · rcases List.mem_append.1 hx with hx | hx
                · exact ⟨_, List.mem_cons_self .., by simp only [A1.ids, List.mem_flatMap]; exact ⟨x, hx, hi⟩⟩
                · exact g5' x hx i hi
            · cases hm
        · cases h
      · cases h
/-- Roots that are no argument's are let go. -/
theorem drop_rel {F : Nat → Option Root} (old : RtR w home hd rt F) {rt' : Rts} (hF : ∀ k r, F k = some r → ∃ d t c, r = .arr d t c) (h : ∀ i r, rt' i = some r → rt i = some r ∧ r ≠ .gone ∧ r.ids = []) : RtR w (keepHome home rt') hd rt' F := by
  have hn : ∀ b, b < w.heap.size → home b = none → w.heap[b]? = w.heap[b]? ∧ keepHome home rt' b = none := fun b _ hb => ⟨rfl, keepHome_none hb⟩
  refine ⟨fun l r hr => ?_, fun b l p hb => ?_, fun l r hr => ?_⟩
  · have hmv : ∀ (l : Lb) (d : Bool) (c : C) (u : Value), CR w home (arrTg d l) c u → (∀ b q, home b = some (l, q) → keepHome home rt' b = some (l, q)) → CR w (keepHome home rt') (arrTg d l) c u := by
      intro l d c u hc hk
      refine hc.move (fun q b _ hl => ⟨rfl, ?_⟩) (Ok.refl _)
      rcases arrTg_exts d l q with h1 | h1
      · rw [h1] at hl ⊢; exact keepHome_none hl
      · rw [h1] at hl ⊢; exact hk b q hl
    cases l with
    | x => simp only [ext, Option.some.injEq] at hr; subst hr; exact Or.inl rfl
    | t k =>
      have hold := old.root (.t k) r hr
      have hkt : ∀ b q, home b = some (.t k, q) → keepHome home rt' b = some (.t k, q) := fun b q hb => by simp [keepHome, hb]
      cases r with
      | gone => trivial
      | arr d t c => exact hmv _ d c _ hold hkt
      | box xs => obtain ⟨d, t, c, e⟩ := hF k _ hr; cases e
    | r i =>
      obtain ⟨h1, h2, h3⟩ := h i r hr
      have hold := old.root (.r i) r h1
      have hkt : ∀ b q, home b = some (.r i, q) → keepHome home rt' b = some (.r i, q) := fun b q hb => keepHome_r hb (by rw [show rt' i = some r from hr]; rfl)
      cases r with
      | gone => trivial
      | arr d t c => exact hmv _ d c _ hold hkt
      | box xs =>
        obtain ⟨b, cur, e1, k1, k2, k3, k4⟩ := RR.box hold
        refine Or.inr ⟨b, cur, e1, k1, hkt b [] k2, k3, k4.1, fun j x v hx hv => ?_⟩
        simp only [Root.ids, List.flatMap_eq_nil_iff] at h3
        exact (k4.2 j x v hx hv).imm old (h3 x (List.mem_of_getElem? hx)) hn
  · have hcase : home b = some (l, p) ∧ ∀ i, l = .r i → (rt' i).isSome = true := by
      unfold keepHome at hb
      split at hb
      · rename_i i q hh
        split at hb
        · rename_i hs
          injection hb with hb; injection hb with e1 e2; subst e1 e2
          exact ⟨hh, fun j e => by injection e with e; subst e; exact hs⟩
        · cases hb
      · rename_i hne
        exact ⟨hb, fun i e => by subst e; exact absurd hb (hne i p)⟩
    obtain ⟨h1, h2⟩ := hcase
    obtain ⟨h3, r, h4, h5⟩ := old.lab b l p h1
    refine ⟨h3, ?_⟩
    cases l with
    | x => exact ⟨.box [], rfl, by simp⟩
    | t k => exact ⟨r, h4, h5⟩
    | r i =>
      obtain ⟨r', hr'⟩ := Option.isSome_iff_exists.1 (h2 i rfl)
      exact ⟨r', hr', (h i r' hr').2.1⟩
  · cases l with
    | x => simp only [ext, Option.some.injEq] at hr; subst hr; intro i hi; simp [Root.ids] at hi
    | t k => obtain ⟨d, t, c, e⟩ := hF k r hr; subst e; intro i hi; cases hi
    | r i => rw [(h i r hr).2.2]; intro j hj; cases hj
theorem rtM_map {ps : List Nat} {g : Nat → Option Root} {i : Nat} : rtM ps (ps.map g) i = if i ∈ ps then g i else none := by
  induction ps with
  | nil => simp [rtM]
  | cons j ps ih =>
    rw [List.map_cons, rtM_cons, ih]
    by_cases h : i = j
    · subst h; simp
    · simp [h]
/-- A frame's end. -/
theorem finish_ok {w0 : World} {home0 : Home} {hd0 : Lb → Value} {rt0 : Rts} (g : Grow w0 home0 hd0 rt0 w home hd fr.rt) (h : FrR ids w home hd N fr a) {pf : PFunc} {fn : Func} (hm : all2 (mRes P) fn.results.toList pf.results = true) {res : Res} (hf : finish pf fr = some res) :
    ∃ us, (results fn a.tmps).run P w = .ok (retV us) w ∧ ∃ home' hd' F', Ret w0 home0 hd0 fr.ps w home' hd' F' res us := by
  unfold finish at hf
  split at hf
  · rename_i as has
    split at hf
    · rename_i rs rt1 hrs
      split at hf
      · rename_i hps
        injection hf with hf
        subst hf
        obtain ⟨us, hrun, hF2, hids⟩ := results_ok (P := P) h hm has
        refine ⟨us, hrun, ?_⟩
        obtain ⟨xs, l, fl, g1, g2, g3, g4, g5⟩ := takesR_flat hrs hF2
        obtain ⟨home', hd', F', s, _, n1, q1, _, len, held⟩ := takes_step xs (k := 0) h.rel g3 (fun x hx i hi => by
          obtain ⟨b, k1, k2⟩ := g5 x hx i hi
          exact hids b k1 i k2) (fun _ _ => rfl) g1
        have hcl : (cellsOf rs).length = xs.length := by rw [g2, List.length_map, len]
        have hF' : ∀ j r, F' j = some r → ∃ o c, (cellsOf rs)[j]? = some (.mk o c) ∧ o ≠ .imm ∧ r = .arr (decide (o = .deep)) false c := by
          intro j r hj
          by_cases hlt : j < xs.length
          · have hl : j < l.length := by rw [len]; exact hlt
            have hfl : j < fl.length := by rw [← g3.1]; exact hlt
            obtain ⟨k1, k2, k3⟩ := held j _ _ (List.getElem?_eq_getElem hl) (List.getElem?_eq_getElem hfl)
            rw [Nat.zero_add] at k1 k3
            refine ⟨l[j].1, l[j].2, by rw [g2, List.getElem?_map, List.getElem?_eq_getElem hl]; rfl, ?_, ?_⟩
            · intro e; rw [k3 e] at hj; cases hj
            · rcases k1 with ⟨e, _⟩ | ⟨_, k4, _, _⟩
              · rw [k3 e] at hj; cases hj
              · rw [hj] at k4; injection k4
          · rw [n1 j (by omega)] at hj; cases hj
        have hrtM : ∀ i r, rtM fr.ps (fr.ps.map (fun i => Root.fin (rt1 i))) i = some r → rt1 i = some r ∧ r ≠ .gone ∧ r.ids = [] := by
          intro i r hr
          rw [rtM_map] at hr
          split at hr
          · rename_i hi
            have hall := List.all_eq_true.1 hps i hi
            cases h1 : rt1 i with
            | none => rw [h1] at hr; cases hr
            | some r1 =>
              rw [h1] at hr hall
              cases r1 with
              | gone => cases hr
              | arr d t c => simp only [Root.fin, Option.some.injEq] at hr; subst hr; exact ⟨rfl, by simp, rfl⟩
              | box xs => simp only [Root.fin, Option.some.injEq] at hr; subst hr; exact ⟨rfl, by simp, by simpa using hall⟩
          · cases hr
        have hg := g.trans s.grow
        refine ⟨keepHome home' (rtM fr.ps (fr.ps.map (fun i => Root.fin (rt1 i)))), hd', F', ?_, ⟨fl, by rw [hcl]; exact g3.1.symm, fun j o c v hc hv => ?_, g4⟩, hF', hg.os, hg.tape, hg.output, hg.size, fun b hb hn => ?_, fun b q hb hx => ?_, fun i hi r hr hne => ?_⟩
        · exact drop_rel s.rel (fun k r hk => by
            obtain ⟨o, c, _, _, e⟩ := hF' k r hk
            exact ⟨_, _, _, e⟩) hrtM
        · rw [g2, List.getElem?_map, Option.map_eq_some_iff] at hc
          obtain ⟨q, hq, e⟩ := hc
          injection e with e1 e2
          subst e1 e2
          obtain ⟨k1, k2, _⟩ := held j q v hq hv
          rw [Nat.zero_add] at k1
          refine ⟨?_, k2⟩
          rcases k1 with ⟨e, k1⟩ | k1
          · exact Or.inl ⟨e, k1.move (fun q b _ hl => by rw [Tg.exts_imm] at hl ⊢; exact ⟨rfl, keepHome_none hl⟩) (Ok.imm _)⟩
          · exact Or.inr k1
        · obtain ⟨e1, e2⟩ := hg.blk b hb hn
          exact ⟨e1, keepHome_none e2⟩
        · obtain ⟨e1, e2⟩ := hg.oth b q hb hx
          exact ⟨e1, by simp [keepHome, e2]⟩
        · exact (hg.pin i hi r (hrtM i r hr).1 hne).1
      · cases hf
    · cases hf
  · cases hf
end
end Go.Proofs.YtecmolmlojehgaaGreat.T
namespace Go.Proofs.YtecmolmlojehgaaGreat.T
open Go
variable (ids : Nat → FuncId)

/-- This function's code is that one. -/
def fnOk (P : Program) (fn : Func) (pf : PFunc) : Bool :=
  match fn.body with
  | some code => mC ids P fn.ntmps code pf.body && all2 (mRes P) fn.results.toList pf.results && decide (pf.np ≤ fn.ntmps) && !(fn.name == "runtime.NumGoroutine")
  | none => false
section
variable {ids} {P : Program}
theorem runF_ok {f : FuncId} {fn : Func} (hf : P.funcs[f]? = some fn) {pf : PFunc} (hm : fnOk ids P fn pf = true) {call : Nat → List Arg → Option Res} (hcall : ∀ f args r, call f args = some r → Sat ids P (ids f) args r) {n : Nat} {args : List Arg} {res : Res} (h : runF call n pf args = some res) : Sat ids P f args res := by
  unfold fnOk at hm
  split at hm
  · rename_i code hb
    simp only [Bool.and_eq_true, decide_eq_true_eq, Bool.not_eq_true'] at hm
    obtain ⟨⟨⟨m1, m2⟩, m3⟩, m4⟩ := hm
    unfold runF at h
    split at h
    · rename_i hnp
      intro w home hd vs hlen hrel hargs himm
      refine Or.inl ⟨?_, ?_⟩
      · unfold callFunc
        simp only [Sem.run_bind, run_program, Result.andThen_ok, hf, m4, hb, Option.isNone_some, Bool.false_eq_true, if_false, Sem.run_pure]
      · have hsz : vs.toArray.size = args.length := by simp [hlen]
        have hfr : FrR ids w home hd fn.ntmps (initFr args) { tmps := vs.toArray ++ Array.replicate (fn.ntmps - vs.toArray.size) undef, defers := [] } := by
          refine ⟨hrel, fun t av ht => ?_, ?_, rfl⟩
          · obtain ⟨i, g, g1, g2, g3⟩ := initSl_at (args := args) (k := 0) ht
            rw [Nat.zero_add] at g2 g3
            subst g2
            have hlt : t < vs.length := by rw [hlen]; exact (List.getElem?_eq_some_iff.1 g1).1
            refine ⟨vs[t], ?_, ?_, ?_⟩
            · simp only
              rw [Array.getElem?_append_left (by simpa using hlt)]
              simp [hlt]
            · rw [g3]; exact hargs t g _ g1 (List.getElem?_eq_getElem hlt)
            · rw [g3]
              intro i hi
              cases g with
              | imm x =>
                have := himm t x g1
                simp only [initArg, AV.ids] at hi
                rw [this] at hi; cases hi
              | arr d c len =>
                simp only [initArg, AV.ids, A1.ids, SV.ids, List.mem_singleton] at hi
                subst hi
                have := initRt_at (k := 0) g1 (r := .arr d false c) (by simp [initArg])
                rw [Nat.zero_add] at this
                show (asl (initRt 0 args) (t * 64)).isSome = true
                rw [this]; rfl
              | box xs =>
                simp only [initArg, AV.ids, A1.ids, SV.ids, List.mem_singleton] at hi
                subst hi
                have := initRt_at (k := 0) g1 (r := .box xs) (by simp [initArg])
                rw [Nat.zero_add] at this
                show (asl (initRt 0 args) (t * 64)).isSome = true
                rw [this]; rfl
          · simp only [Array.size_append, Array.size_replicate]; omega
        refine calls_of_wp hf hb ?_
        have fin : ∀ (e : Ex) (fr : Fr), runC call n pf.body (initFr args) = some (e, fr) → (e = .normal ∨ e = .ret) → finish pf fr = some res → code.wp P (bodyPost P fn (fun e w' => ∃ v, e = .returned v ∧ ∃ home' hd' F' us, v = retV us ∧ Ret w home hd (initFr args).ps w' home' hd' F' res us)) { tmps := vs.toArray ++ Array.replicate (fn.ntmps - vs.toArray.size) undef, defers := [] } w := by
          intro e fr hr he hfin
          refine runC_ok hcall pf.body m1 hr hfr (fun a' w' home' hd' g hf' => ?_)
          obtain ⟨us, hrun, home2, hd2, F', hret⟩ := finish_ok (P := P) g hf' m2 hfin
          rw [runC_ps _ hr] at hret
          rcases he with rfl | rfl
          · exact ⟨hf'.nd, _, hrun, _, rfl, home2, hd2, F', us, rfl, hret⟩
          · exact ⟨hf'.nd, _, hrun, _, rfl, home2, hd2, F', us, rfl, hret⟩
        split at h
        · rename_i fr hr; exact fin .normal fr hr (Or.inl rfl) h
        · rename_i fr hr; exact fin .ret fr hr (Or.inr rfl) h
        · cases h
    · cases h
  · cases hm
theorem den_ok {pp : PP} (hcode : ∀ f pf, pp.code f = some pf → ∃ fn, P.funcs[ids f]? = some fn ∧ fnOk ids P fn pf = true) (hhand : ∀ f args r, pp.code f = none → pp.hand f args = some r → Sat ids P (ids f) args r) :
    ∀ (n f : Nat) (args : List Arg) (r : Res), den pp n f args = some r → Sat ids P (ids f) args r
  | 0, f, args, r, h => by cases h
  | n + 1, f, args, r, h => by
    simp only [den] at h
    split at h
    · rename_i pf hpf
      obtain ⟨fn, h1, h2⟩ := hcode f pf hpf
      exact runF_ok h1 h2 (den_ok hcode hhand n) h
    · rename_i hpf
      exact hhand f args r hpf h
end
end Go.Proofs.YtecmolmlojehgaaGreat.T
