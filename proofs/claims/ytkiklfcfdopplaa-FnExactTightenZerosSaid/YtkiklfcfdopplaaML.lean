/- Plain facts of catalogues. The law. The law holds of the abstract executor. -/
import Derived.Test.YtkiklfcfdopplaaMK
import Derived.Test.YtkiklfcfdopplaaMH
namespace Go.Proofs.Ytkiklfcfdopplaa.T
open Go
set_option maxHeartbeats 2000000
theorem bytesLess_trans : ∀ {a b c : List UInt8}, Op.bytesLess a b = true → Op.bytesLess b c = true → Op.bytesLess a c = true
  | _, _, [], _, h => by cases ‹List UInt8› <;> simp [Op.bytesLess] at h
  | [], b, z :: c, _, _ => by simp [Op.bytesLess]
  | x :: a, [], z :: c, h, _ => by simp [Op.bytesLess] at h
  | x :: a, y :: b, z :: c, h1, h2 => by
    simp only [Op.bytesLess, Bool.or_eq_true, decide_eq_true_eq, Bool.and_eq_true, beq_iff_eq] at h1 h2 ⊢
    rcases h1 with h1 | ⟨rfl, h1⟩
    · rcases h2 with h2 | ⟨rfl, h2⟩
      · exact Or.inl (UInt8.lt_trans h1 h2)
      · exact Or.inl h1
    · rcases h2 with h2 | ⟨rfl, h2⟩
      · exact Or.inl h2
      · exact Or.inr ⟨rfl, bytesLess_trans h1 h2⟩
theorem lessN_trans {a b c : ByteArray} (h1 : lessN a b = true) (h2 : lessN b c = true) : lessN a c = true := bytesLess_trans h1 h2
theorem catGo_sorted : ∀ {l : List QEntry} {prev : Option ByteArray}, catGo prev l = true → (∀ p, prev = some p → ∀ e ∈ l, lessN p e.name = true) ∧ l.Pairwise (fun a b => lessN a.name b.name = true)
  | [], prev, _ => ⟨fun _ _ e he => by simp at he, List.Pairwise.nil⟩
  | e :: r, none, h => by
    simp only [catGo, Bool.and_eq_true] at h
    obtain ⟨h1, h2⟩ := catGo_sorted h.2
    exact ⟨fun p hp => (by cases hp), List.Pairwise.cons (fun x hx => h1 _ rfl x hx) h2⟩
  | e :: r, some p, h => by
    simp only [catGo, Bool.and_eq_true] at h
    obtain ⟨_, h3, h4⟩ := h
    obtain ⟨h1, h2⟩ := catGo_sorted h4
    refine ⟨fun p' hp x hx => ?_, List.Pairwise.cons (fun x hx => h1 _ rfl x hx) h2⟩
    injection hp with hp
    subst hp
    simp only [List.mem_cons] at hx
    rcases hx with rfl | hx
    · exact h3
    · exact lessN_trans h3 (h1 _ rfl x hx)
theorem place_iff (n : ByteArray) : ∀ {l : List EntryV}, l.Pairwise (fun a b => lessN a.name b.name = true) → ∀ (i : Nat) (h : i < l.length), lessN l[i].name n = true ↔ i < placeGo n l
  | [], _, i, h => by simp at h
  | e :: r, hp, i, h => by
    obtain ⟨h1, h2⟩ := List.pairwise_cons.1 hp
    by_cases c : lessN e.name n = true
    · have hpl : placeGo n (e :: r) = placeGo n r + 1 := by rw [placeGo, if_pos c]
      rw [hpl]
      cases i with
      | zero => simp [c]
      | succ i =>
        have := place_iff n h2 i (by simpa using h)
        simp only [List.getElem_cons_succ, this]
        omega
    · have hpl : placeGo n (e :: r) = 0 := by rw [placeGo, if_neg c]
      rw [hpl]
      refine ⟨fun hx => ?_, fun hx => absurd hx (Nat.not_lt_zero _)⟩
      exfalso
      have hm := List.getElem_mem h
      simp only [List.mem_cons] at hm
      rcases hm with hm | hm
      · rw [hm] at hx; exact c hx
      · exact c (lessN_trans (h1 _ hm) hx)
theorem place_mono (n : ByteArray) {l : List EntryV} (hp : l.Pairwise (fun a b => lessN a.name b.name = true)) (i : Nat) (h : i < l.length) : lessN l[i].name n = decide (i < placeGo n l) := by
  rw [Bool.eq_iff_iff, decide_eq_true_iff]
  exact place_iff n hp i h
theorem mono_of {l : Entries} (h : catOk (qL l) = true) (n : ByteArray) : Mono l.es n := by
  simp only [catOk, Bool.and_eq_true] at h
  have := (catGo_sorted h.1).2
  unfold qL at this
  rw [List.pairwise_map] at this
  exact place_mono n this
theorem catGo_set : ∀ {l : List QEntry} {prev : Option ByteArray} {k : Nat} {a b : QEntry}, catGo prev l = true → l[k]? = some a → b.name = a.name → catGo prev (l.set k b) = entryOk b
  | [], _, k, a, b, _, h, _ => by simp at h
  | e :: r, none, 0, a, b, hc, h, hn => by
    simp only [List.getElem?_cons_zero, Option.some.injEq] at h
    subst h
    simp only [catGo, Bool.and_eq_true] at hc
    simp only [List.set_cons_zero, catGo, hn, hc.2, Bool.and_true]
  | e :: r, some p, 0, a, b, hc, h, hn => by
    simp only [List.getElem?_cons_zero, Option.some.injEq] at h
    subst h
    simp only [catGo, Bool.and_eq_true] at hc
    simp only [List.set_cons_zero, catGo, hn, hc.2.1, hc.2.2, Bool.and_true]
  | e :: r, none, k + 1, a, b, hc, h, hn => by
    simp only [catGo, Bool.and_eq_true] at hc
    simp only [List.set_cons_succ, catGo, hc.1, Bool.true_and]
    exact catGo_set hc.2 (by simpa using h) hn
  | e :: r, some p, k + 1, a, b, hc, h, hn => by
    simp only [catGo, Bool.and_eq_true] at hc
    simp only [List.set_cons_succ, catGo, hc.1, hc.2.1, Bool.true_and]
    exact catGo_set hc.2.2 (by simpa using h) hn
theorem qE_bare (e : EntryV) : qE (bareE e) = qE e := by
  have h1 : pS (bareS e.system) = pS e.system := by simp [pS, bareS, bareRow, Function.comp_def]
  simp only [qE, bareE, h1]
  rfl
theorem qL_bareL (l : Entries) : qL (bareL l) = qL l := by
  simp only [qL, bareL, List.map_map, Function.comp_def, qE_bare]
theorem qL_set (l : Entries) (k : Nat) (e : EntryV) : qL (setRow l k e) = (qL l).set k (qE e) := by
  simp only [qL, setRow, List.map_set]
theorem cat_set {l : Entries} (h : catOk (qL l) = true) {k : Nat} {e : EntryV} (hk : l.es[k]? = some e) (least most : Int) : catOk (qL (bareL (setRow l k (tight e least most)))) = entryOk (qE (tight e least most)) := by
  rw [qL_bareL, qL_set]
  simp only [catOk, Bool.and_eq_true] at h
  have hg : (qL l)[k]? = some (qE e) := by simp [qL, hk]
  simp only [catOk, List.length_set, h.2, Bool.and_true]
  exact catGo_set h.1 hg rfl
/-! ### What can be read of entries decides -/
theorem placeGo_q (n : ByteArray) : ∀ {a b : List EntryV}, a.map qE = b.map qE → placeGo n a = placeGo n b
  | [], [], _ => rfl
  | [], _ :: _, h => by simp at h
  | _ :: _, [], h => by simp at h
  | x :: a, y :: b, h => by
    simp only [List.map_cons, List.cons.injEq] at h
    have hn : x.name = y.name := congrArg QEntry.name h.1
    simp only [placeGo, hn, placeGo_q n h.2]
def tightQ (q : QEntry) (least most : Int) : QEntry := ⟨q.name, q.system, q.box, max q.least least, min q.most most, q.version⟩
theorem qE_tight (e : EntryV) (least most : Int) : qE (tight e least most) = tightQ (qE e) least most := rfl
theorem get_q {a b : List EntryV} (h : a.map qE = b.map qE) (k : Nat) : (a[k]?).map qE = (b[k]?).map qE := by
  rw [← List.getElem?_map, ← List.getElem?_map, h]
theorem atB_q {a b : List EntryV} (h : a.map qE = b.map qE) (k : Nat) (n : ByteArray) : atB a k n = atB b k n := by
  have := get_q h k
  unfold atB
  cases ha : a[k]? with
  | none =>
    rw [ha] at this
    cases hb : b[k]? with
    | none => rfl
    | some y => rw [hb] at this; cases this
  | some x =>
    rw [ha] at this
    cases hb : b[k]? with
    | none => rw [hb] at this; cases this
    | some y =>
      rw [hb] at this
      simp only [Option.map_some, Option.some.injEq] at this
      have hn : x.name = y.name := congrArg QEntry.name this
      simp only [hn]
theorem tightOk_q {a b : Entries} (h : qL a = qL b) (n : ByteArray) (least most : Int) : tightOk a n least most = tightOk b n least most := by
  unfold tightOk
  have h' : a.es.map qE = b.es.map qE := h
  rw [h, placeGo_q n h', atB_q h']
  have := get_q h' (placeGo n b.es)
  cases ha : a.es[placeGo n b.es]? with
  | none =>
    rw [ha] at this
    cases hb : b.es[placeGo n b.es]? with
    | none => rfl
    | some y => rw [hb] at this; cases this
  | some x =>
    rw [ha] at this
    cases hb : b.es[placeGo n b.es]? with
    | none => rw [hb] at this; cases this
    | some y =>
      rw [hb] at this
      simp only [Option.map_some, Option.some.injEq] at this
      simp only [qE_tight, this]
theorem outE_q (l : Entries) (k : Nat) (least most : Int) : qL (outE l k least most) = match (qL l)[k]? with | some q => (qL l).set k (tightQ q least most) | none => qL l := by
  unfold outE
  have : (qL l)[k]? = (l.es[k]?).map qE := by simp [qL]
  rw [this]
  cases l.es[k]? with
  | none => exact qL_bareL l
  | some e => simp only [Option.map_some]; rw [qL_bareL, qL_set, qE_tight]
def pQ (q : QEntry) : PEntry := ⟨q.name.toList, q.system, q.box, q.least, q.most, q.version⟩
theorem pE_q (e : EntryV) : pE e = pQ (qE e) := rfl
theorem pL_q (l : Entries) : l.es.map pE = (qL l).map pQ := by simp [qL, Function.comp_def, pE_q]
theorem qE_to (e : EntryV) (b : Bool) (h : SmallE e) : qE (toEntryV e b) = qE e := by
  obtain ⟨⟨h1, h2⟩, h3, h4⟩ := h
  have e1 : pS (toSys e.system b) = pS e.system := by
    unfold pS
    rw [toSys_es _ _ h1, List.map_map]
    apply List.map_congr_left
    intro p hp
    exact toPoly_es p b (h2 p hp)
  have e2 : pB (toBoxV e.box b) = pB e.box := by
    simp only [pB, toBoxV, toInts_es _ _ h3, toInts_es _ _ h4]
  simp only [qE, toEntryV, e1, e2]
theorem toEntries_es (a : Entries) (b : Bool) (h : a.es.length ≤ 1000000) : (toEntries a b).es = a.es.map (fun e => toEntryV e b) := by
  by_cases hb : b = true ∧ a.es.length = 0
  · obtain ⟨rfl, h0⟩ := hb
    rw [(copyRow_bare h0).1]; symm; simpa using h0
  · rw [(copyRow_full hb h).1]
theorem qL_to (a : Entries) (b : Bool) (h : a.es.length ≤ 1000000) (hp : ∀ e ∈ a.es, SmallE e) : qL (toEntries a b) = qL a := by
  unfold qL
  rw [toEntries_es a b h, List.map_map]
  apply List.map_congr_left
  intro e he
  exact qE_to e b (hp e he)
end Go.Proofs.Ytkiklfcfdopplaa.T
namespace Go.Proofs.Ytkiklfcfdopplaa.T
open Go
set_option maxHeartbeats 8000000
attribute [-simp] List.getElem_cons_drop List.map_drop List.map_take
theorem L_sz_neg (a : Entries) (left : Int) (h0 : left < 0) (h1 : -4611686018427387904 ≤ left) (h2 : a.es.length ≤ 4611686018427387904) : L0 n_laws_szEntryS [arg (cE a), argI left] = some (resI (-1)) := by
  refine L_body (b := b_laws_szEntryS) rfl rfl 0 ?_
  intro fuel _
  have hw := wrap64 (n := left - a.es.length) (by omega) (by omega)
  have hn : left - a.es.length < 0 := by omega
  simp -implicitDefEqProofs [b_laws_szEntryS, hw, hn]
def empty8 : Entries := ⟨[], [], by simp⟩
def gives (l : Entries) (n : ByteArray) (least most : Int) : Entries := if tightOk l n least most = true then outE l (placeGo n l.es) least most else empty8
theorem gives_res (l : Entries) (n : ByteArray) (least most : Int) : resL (tightOk l n least most) (outE l (placeGo n l.es) least most) = ⟨[.s (.mk .deep (.sl 8 ((gives l n least most).es.map eE) [])), .s (.mk .imm (.val (.bool (tightOk l n least most))))], []⟩ := by
  unfold gives
  cases tightOk l n least most
  · rfl
  · simp only [if_true]
    unfold outE
    split <;> rfl
theorem gives_sp (l : Entries) (n : ByteArray) (least most : Int) : (gives l n least most).sp = [] := by
  unfold gives
  split
  · unfold outE; split <;> rfl
  · rfl
theorem gives_q {a b : Entries} (h : qL a = qL b) (n : ByteArray) (least most : Int) : qL (gives a n least most) = qL (gives b n least most) := by
  unfold gives
  rw [tightOk_q h]
  split
  · rw [outE_q, outE_q, placeGo_q n (show a.es.map qE = b.es.map qE from h), h]
  · rfl
theorem small_to {e : EntryV} (h : SmallE e) (b : Bool) : SmallE (toEntryV e b) := by
  obtain ⟨⟨h1, h2⟩, h3, h4⟩ := h
  refine ⟨⟨?_, ?_⟩, ?_, ?_⟩
  · simp only [toEntryV, toSys_es _ _ h1, List.length_map]; exact h1
  · intro p hp
    simp only [toEntryV, toSys_es _ _ h1, List.mem_map] at hp
    obtain ⟨q, hq, rfl⟩ := hp
    rw [toPoly_es _ _ (h2 q hq)]
    exact h2 q hq
  · simp only [toEntryV, toBoxV, toInts_es _ _ h3]; exact h3
  · simp only [toEntryV, toBoxV, toInts_es _ _ h4]; exact h4
theorem roomy_copy {α β : Type} {f : α → β} {fill : β} {a : Row α} (h : a.es.length ≤ 1000000) : Roomy (copyRow f fill a false) := by
  obtain ⟨h1, h2⟩ := copyRow_full (f := f) (fill := fill) (bare := false) (by simp) h
  unfold Roomy
  rw [h1, h2]
  simp [h]
theorem roomy_to {a : Entries} (h : a.es.length ≤ 1000000) (hp : ∀ e ∈ a.es, SmallE e) : RoomyL (toEntries a false) := by
  refine ⟨roomy_copy h, fun e he => ?_⟩
  rw [toEntries_es a false h, List.mem_map] at he
  obtain ⟨x, hx, rfl⟩ := he
  obtain ⟨⟨h1, h2⟩, h3, h4⟩ := hp x hx
  refine ⟨⟨roomy_copy h1, fun p hpp => ?_⟩, roomy_copy h3, roomy_copy h4⟩
  simp only [toEntryV, toSys_es _ _ h1, List.mem_map] at hpp
  obtain ⟨q, hq, rfl⟩ := hpp
  exact roomy_copy (h2 q hq)
theorem sum_le_of {α : Type} {f g : α → Nat} {l : List α} {c d : Nat} (h : ∀ x ∈ l, f x ≤ c * g x + d) : (l.map f).sum ≤ c * (l.map g).sum + d * l.length := by
  induction l with
  | nil => simp
  | cons x r ih =>
    have h1 := h x (by simp)
    have h2 := ih (fun y hy => h y (by simp [hy]))
    simp only [List.map_cons, List.sum_cons, List.length_cons, Nat.mul_add, Nat.mul_one]
    omega
theorem mem_le_sum {α : Type} {f : α → Nat} {l : List α} {x : α} (h : x ∈ l) : f x ≤ (l.map f).sum := by
  induction l with
  | nil => simp at h
  | cons y r ih =>
    simp only [List.mem_cons] at h
    simp only [List.map_cons, List.sum_cons]
    rcases h with rfl | h
    · omega
    · have := ih h; omega
def cntQ (q : QEntry) : Nat := 1 + (q.system.map (fun p => 4 * p.length)).sum + 1 + q.box.low.length + q.box.high.length + 3
theorem cntE_q (e : EntryV) : cntE e = cntQ (qE e) := by
  simp only [cntE, cntQ, qE, pS, pB, List.map_map, Function.comp_def]
  rfl
theorem endL_q {a b : List EntryV} (h : a.map qE = b.map qE) (k : Nat) : endL cntE k a = endL cntE k b := by
  have e : ∀ l : List EntryV, (l.map cntE).sum = ((l.map qE).map cntQ).sum := by
    intro l; rw [List.map_map]; congr 1; apply List.map_congr_left; intro x _; exact cntE_q x
  simp only [endL, e, h]
theorem cntE_le (e : EntryV) : cntE e ≤ 4 * nEntry e + 5 := by
  have : (e.system.es.map cntP).sum ≤ 4 * (e.system.es.map nPoly).sum + 0 * e.system.es.length := sum_le_of (fun p _ => by simp [cntP, nPoly])
  simp only [cntE, nEntry, nSys, nBox]
  omega
theorem gives_cnt (l : Entries) (n : ByteArray) (least most : Int) : endL cntE 101 (gives l n least most).es ≤ endL cntE 101 l.es := by
  have e : ∀ l : List EntryV, endL cntE 101 l = 101 + ((l.map qE).map cntQ).sum := by
    intro l; simp only [endL]; rw [List.map_map]; congr 2; apply List.map_congr_left; intro x _; exact cntE_q x
  rw [e, e]
  have hq : (gives l n least most).es.map qE = (qL (gives l n least most)) := rfl
  rw [hq]
  unfold gives
  split
  · rw [outE_q]
    split
    · rename_i q hk
      have : ((qL l).set (placeGo n l.es) (tightQ q least most)).map cntQ = (qL l).map cntQ := by
        rw [List.map_set]
        apply List.ext_getElem?
        intro j
        rw [List.getElem?_set]
        split
        · rename_i hj
          subst hj
          simp only [List.length_map, List.getElem?_map, hk, Option.map_some]
          split
          · rfl
          · rename_i hlt
            rw [List.getElem?_eq_none (by omega)] at hk
            cases hk
        · rfl
      rw [this]
      exact Nat.le_refl _
    · exact Nat.le_refl _
  · simp [qL, empty8]
theorem gives_len (l : Entries) (n : ByteArray) (least most : Int) : (gives l n least most).es.length ≤ l.es.length := by
  unfold gives
  split
  · unfold outE; split <;> simp [bareL, setRow]
  · simp [empty8]
theorem gives_small {l : Entries} (hp : ∀ e ∈ l.es, SmallE e) (n : ByteArray) (least most : Int) : ∀ e ∈ (gives l n least most).es, SmallE e := by
  have hb : ∀ e, SmallE e → SmallE (bareE e) := by
    rintro e ⟨⟨h1, h2⟩, h3, h4⟩
    refine ⟨⟨by simpa [bareE, bareS] using h1, ?_⟩, h3, h4⟩
    intro p hp
    simp only [bareE, bareS, List.mem_map] at hp
    obtain ⟨q, hq, rfl⟩ := hp
    exact h2 q hq
  intro e he
  unfold gives at he
  split at he
  · unfold outE at he
    split at he
    · rename_i x hx
      simp only [bareL, setRow, List.mem_map] at he
      obtain ⟨y, hy, rfl⟩ := he
      refine hb y ?_
      rcases List.mem_or_eq_of_mem_set hy with h | h
      · exact hp y h
      · rw [h]; exact hp x (List.mem_of_getElem? hx)
    · simp only [bareL, List.mem_map] at he
      obtain ⟨y, hy, rfl⟩ := he
      exact hb y (hp y hy)
  · simp [empty8] at he
end Go.Proofs.Ytkiklfcfdopplaa.T
namespace Go.Proofs.Ytkiklfcfdopplaa.T
open Go
set_option maxHeartbeats 16000000
attribute [-simp] List.getElem_cons_drop List.map_drop List.map_take
theorem L_law (a : Entries) (n : ByteArray) (least most : Int) (hn : n.size ≤ 140737488355328) (hlen : a.es.length ≤ 140737488355328) : L0 n_laws_FnExactTightenZeros [arg (cE a), argV (.string n), argI least, argI most] = some (resB true) := by
  refine L_body (b := b_laws_FnExactTightenZeros) rfl rfl 0 ?_
  intro fuel _
  have w0 : IntKind.i64.wrap (1000000 - (n.size : Int)) = 1000000 - (n.size : Int) := wrap64 (by omega) (by omega)
  by_cases h1 : (1000000 : Int) - n.size < 0
  · have hs := L_sz_neg a (1000000 - n.size) h1 (by omega) (by omega)
    simp -implicitDefEqProofs [b_laws_FnExactTightenZeros, w0, hs]
  have hs := L_szEntryS (hand := handF) a (1000000 - n.size) (by omega) (by omega)
  by_cases h2 : (1000000 : Int) - n.size - nEntries a < 0
  · rw [less_neg h2] at hs
    simp -implicitDefEqProofs [b_laws_FnExactTightenZeros, w0, hs]
  rw [less_pos h2] at hs
  have hN : nEntries a ≤ 1000000 := by omega
  have hl : a.es.length ≤ 1000000 := by unfold nEntries at hN; omega
  have hp : ∀ e ∈ a.es, SmallE e := by
    intro e he
    have h3 : nEntry e ≤ 1000000 := by have := mem_le_sum (f := nEntry) he; unfold nEntries at hN; omega
    simp only [nEntry, nSys, nBox] at h3
    refine ⟨⟨by omega, fun p hp => ?_⟩, by omega, by omega⟩
    have h4 := mem_le_sum (f := nPoly) hp
    have h5 : p.es.length = nPoly p := rfl
    omega
  have hcnt : endL cntE 101 a.es < 4611686018427387904 := by
    have := sum_le_of (l := a.es) (f := cntE) (g := nEntry) (c := 4) (d := 5) (fun e _ => cntE_le e)
    unfold nEntries at hN
    unfold endL
    omega
  obtain ⟨X, hX⟩ : ∃ X, X = toEntries a false := ⟨_, rfl⟩
  obtain ⟨Y, hY⟩ : ∃ Y, Y = toEntries a true := ⟨_, rfl⟩
  have hTo := L_toEntryS (hand := handF) a false hl hp
  have hTo2 := L_toEntryS (hand := handF) a true hl hp
  rw [← hX] at hTo
  rw [← hY] at hTo2
  have qX : qL X = qL a := by rw [hX]; exact qL_to a false hl hp
  have qY : qL Y = qL a := by rw [hY]; exact qL_to a true hl hp
  have lX : X.es.length = a.es.length := by rw [hX, toEntries_es a false hl]; simp
  have lY : Y.es.length = a.es.length := by rw [hY, toEntries_es a true hl]; simp
  have pX : ∀ e ∈ X.es, SmallE e := by
    intro e he
    rw [hX, toEntries_es a false hl, List.mem_map] at he
    obtain ⟨x, hx, rfl⟩ := he
    exact small_to (hp x hx) _
  have pY : ∀ e ∈ Y.es, SmallE e := by
    intro e he
    rw [hY, toEntries_es a true hl, List.mem_map] at he
    obtain ⟨x, hx, rfl⟩ := he
    exact small_to (hp x hx) _
  have rX : RoomyL X := by rw [hX]; exact roomy_to hl hp
  have cX : endL cntE 101 X.es < 4611686018427387904 := by rw [endL_q (show X.es.map qE = a.es.map qE from qX)]; exact hcnt
  clear hX hY
  have hSpec := L_specTighten X n least most (by omega) pX
  have hImpl := L_implTighten X n least most (by omega) pX (fun h => mono_of h n) (fun h k e hk => cat_set h hk least most)
  have hImpl2 := L_implTighten Y n least most (by omega) pY (fun h => mono_of h n) (fun h k e hk => cat_set h hk least most)
  rw [gives_res] at hSpec hImpl hImpl2
  have okY : tightOk Y n least most = tightOk X n least most := tightOk_q (by rw [qX, qY]) n least most
  rw [okY] at hImpl2
  obtain ⟨ok, hok⟩ : ∃ ok, ok = tightOk X n least most := ⟨_, rfl⟩
  rw [← hok] at hSpec hImpl hImpl2
  have hInt := L_intactEntryS (hand := handF) X rX
  have hMX := L_markEntryS (hand := handF) X 101 (by omega) (by omega) pX cX
  obtain ⟨W, hW⟩ : ∃ W, W = gives X n least most := ⟨_, rfl⟩
  obtain ⟨V, hV⟩ : ∃ V, V = gives Y n least most := ⟨_, rfl⟩
  rw [← hW] at hSpec hImpl
  rw [← hV] at hImpl2
  have lW : W.es.length ≤ 1000000 := by rw [hW]; have := gives_len X n least most; omega
  have pW : ∀ e ∈ W.es, SmallE e := by rw [hW]; exact gives_small pX n least most
  have sW : W.sp = [] := by rw [hW]; exact gives_sp _ _ _ _
  have sV : V.sp = [] := by rw [hV]; exact gives_sp _ _ _ _
  have cW : endL cntE 101 W.es < 4611686018427387904 := by rw [hW]; exact Nat.lt_of_le_of_lt (gives_cnt _ _ _ _) cX
  have qVW : V.es.map qE = W.es.map qE := by
    have := gives_q (show qL Y = qL X by rw [qX, qY]) n least most
    rw [hV, hW]; exact this
  clear hW hV
  have hEq := L_eqEntryS (hand := handF) W W
  have hEq2 := L_eqEntryS (hand := handF) V W
  have hpe : V.es.map pE = W.es.map pE := by
    have e : ∀ l : List EntryV, l.map pE = (l.map qE).map pQ := by intro l; rw [List.map_map]; rfl
    rw [e, e, qVW]
  rw [hpe] at hEq2
  simp only [beq_self_eq_true] at hEq hEq2
  have hMW := L_markEntryS (hand := handF) W 101 (by omega) lW pW cW
  have hHW := L_heldEntryS (hand := handF) W 101 (by omega) lW pW cW
  obtain ⟨m, hm⟩ : ∃ m, m = endL cntE 101 W.es := ⟨_, rfl⟩
  obtain ⟨mX, hmX⟩ : ∃ mX, mX = endL cntE 101 X.es := ⟨_, rfl⟩
  rw [← hm] at hMW hHW
  rw [← hmX] at hMX
  have lM : (markEs 101 W).es.length = W.es.length := markL_length _ _ _ _
  have lMX : (markEs 101 X).es.length = X.es.length := markL_length _ _ _ _
  have sM : (markEs 101 W).sp = [] := by rw [markEs_sp]; exact sW
  obtain ⟨A, hA⟩ : ∃ A, A = X.es.map eE := ⟨_, rfl⟩
  obtain ⟨B, hB⟩ : ∃ B, B = X.sp.map eE := ⟨_, rfl⟩
  obtain ⟨A2, hA2⟩ : ∃ A, A = Y.es.map eE := ⟨_, rfl⟩
  obtain ⟨B2, hB2⟩ : ∃ B, B = Y.sp.map eE := ⟨_, rfl⟩
  obtain ⟨G, hG⟩ : ∃ G, G = W.es.map eE := ⟨_, rfl⟩
  obtain ⟨H, hH⟩ : ∃ H, H = V.es.map eE := ⟨_, rfl⟩
  obtain ⟨M, hM⟩ : ∃ M, M = (markEs 101 W).es.map eE := ⟨_, rfl⟩
  obtain ⟨MX, hMX'⟩ : ∃ M, M = (markEs 101 X).es.map eE ++ (markEs 101 X).sp.map eE := ⟨_, rfl⟩
  have eX : cE X = .sl 8 A B := by rw [hA, hB]
  have eY : cE Y = .sl 8 A2 B2 := by rw [hA2, hB2]
  have eW : cE W = .sl 8 G [] := by rw [hG]; unfold cE; rw [sW]; rfl
  have eV : cE V = .sl 8 H [] := by rw [hH]; unfold cE; rw [sV]; rfl
  have eM : cE (markEs 101 W) = .sl 8 M [] := by rw [hM]; unfold cE; rw [sM]; rfl
  have eWX : wE X = .sl 8 (A ++ B) [] := by rw [hA, hB]
  have eWW : wE W = .sl 8 G [] := by rw [hG]; unfold wE; rw [sW]; simp
  have eWM : wE (markEs 101 W) = .sl 8 M [] := by rw [hM]; unfold wE; rw [sM]; simp
  have eWMX : wE (markEs 101 X) = .sl 8 MX [] := by rw [hMX']
  have nA : A.length = X.es.length := by rw [hA]; simp
  have nA2 : A2.length = Y.es.length := by rw [hA2]; simp
  have nG : G.length = W.es.length := by rw [hG]; simp
  have nH : H.length = V.es.length := by rw [hH]; simp
  have nM : M.length = W.es.length := by rw [hM]; simp [lM]
  have nMX : A.length + B.length ≤ MX.length := by rw [hMX', hA, hB]; simp [lMX, markEs_sp]
  rw [← hG] at hSpec hImpl
  rw [← hH] at hImpl2
  rw [eX] at hTo hSpec hImpl hInt
  rw [eY] at hTo2 hImpl2
  rw [eW] at hEq hEq2
  rw [eV] at hEq2
  rw [eM] at hHW
  rw [eWX, eWMX] at hMX
  rw [eWW, eWM] at hMW
  rw [← nA] at hMX
  rw [← nG] at hMW
  rw [← nG] at nM
  clear eX eY eW eV eM eWX eWW eWM eWMX hA hB hA2 hB2 hG hH hM hMX' lM lMX sM nA nA2 nG nH hm hmX qVW hpe cW sW sV pW lW pX pY cX rX lX lY qX qY okY hcnt
  have tA : (A ++ B).take A.length = A := List.take_left' rfl
  have dA : (A ++ B).drop A.length = B := List.drop_left' rfl
  have tA2 : (A2 ++ B2).take A2.length = A2 := List.take_left' rfl
  have dA2 : (A2 ++ B2).drop A2.length = B2 := List.drop_left' rfl
  have tG : G.take G.length = G := List.take_length
  have dG : G.drop G.length = [] := List.drop_length
  have tH : H.take H.length = H := List.take_length
  have dH : H.drop H.length = [] := List.drop_length
  have tM : M.take G.length = M := by rw [← nM]; exact List.take_length
  have dM : M.drop G.length = [] := by rw [← nM]; exact List.drop_length
  have hm0 : ¬ ((m : Int) < 0) := by omega
  have hmX0 : ¬ ((mX : Int) < 0) := by omega
  have hMX : L0 n_laws_markEntryS [own (.sl 8 (A ++ B) []) A.length, argI 101] = some (backI mX (.sl 8 MX [])) := hMX
  have hMW : L0 n_laws_markEntryS [own (.sl 8 G []) G.length, argI 101] = some (backI m (.sl 8 M [])) := hMW
  have hHW : L0 n_laws_heldEntryS [arg (.sl 8 M []), argI 101] = some (resI (m : Int)) := hHW
  simp -implicitDefEqProofs [b_laws_FnExactTightenZeros, w0, hs, h2, hTo, hTo2, hSpec, hImpl, hImpl2, hInt, hMX, hEq, hEq2, hMW, hHW, tA, dA, tA2, dA2, tG, dG, tH, dH, tM, dM, hm0, hmX0, nM, nMX]
end Go.Proofs.Ytkiklfcfdopplaa.T
