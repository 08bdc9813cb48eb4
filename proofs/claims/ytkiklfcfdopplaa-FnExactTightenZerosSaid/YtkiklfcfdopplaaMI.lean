/- Marks that are written, and found again. Marks in rows of rows. What is valid: the reference's side. What is valid: systems, boxes, entries, catalogues. What is valid: entries, catalogues. -/
import Derived.Test.YtkiklfcfdopplaaMH
namespace Go.Proofs.Ytkiklfcfdopplaa.T
open Go
variable {hand : Call}
set_option maxHeartbeats 2000000
attribute [-simp] List.getElem_cons_drop List.map_drop
/-! ### A row of which the first places are new -/
def mixRow {α : Type} (X Y : List α) (i : Nat) : List α := X.take i ++ Y.drop i
section
variable {α : Type} {X Y : List α} {i : Nat}
theorem mix_length (h : X.length = Y.length) : (mixRow X Y i).length = Y.length := by simp [mixRow]; omega
theorem mix_zero : mixRow X Y 0 = Y := by simp [mixRow]
theorem mix_all (h : X.length = Y.length) : mixRow X Y X.length = X := by simp [mixRow, List.drop_eq_nil_of_le (show Y.length ≤ X.length by omega)]
theorem mix_get (h : X.length = Y.length) (hi : i < Y.length) : (mixRow X Y i)[i]? = some Y[i] := by
  unfold mixRow
  rw [List.getElem?_append_right (by simp; omega), List.length_take, Nat.min_eq_left (by omega), Nat.sub_self, List.getElem?_drop, Nat.add_zero, List.getElem?_eq_getElem hi]
theorem mix_at (h : X.length = Y.length) (hi : i < (mixRow X Y i).length) : (mixRow X Y i)[i] = Y[i]'(by rw [mix_length h] at hi; exact hi) := by
  have h2 : i < Y.length := by rw [mix_length h] at hi; exact hi
  have h3 := mix_get h h2
  rw [List.getElem?_eq_getElem hi] at h3
  exact Option.some.inj h3
theorem mix_set {v : α} (h : X.length = Y.length) (hv : X[i]? = some v) : (mixRow X Y i).set i v = mixRow X Y (i + 1) := by
  obtain ⟨hlt, hv'⟩ := List.getElem?_eq_some_iff.1 hv
  unfold mixRow
  apply List.ext_getElem?
  intro j
  rw [List.getElem?_set]
  by_cases e : i = j
  · subst e
    rw [if_pos rfl, if_pos (by simp; omega)]
    rw [List.getElem?_append_left (by simp; omega), List.getElem?_take_of_lt (by omega), hv]
  · rw [if_neg e]
    by_cases hj : j < i
    · rw [List.getElem?_append_left (by simp; omega), List.getElem?_append_left (by simp; omega), List.getElem?_take_of_lt hj, List.getElem?_take_of_lt (by omega)]
    · rw [List.getElem?_append_right (by simp; omega), List.getElem?_append_right (by simp; omega), List.length_take, List.length_take, Nat.min_eq_left (by omega), Nat.min_eq_left (by omega), List.getElem?_drop, List.getElem?_drop]
      congr 1; omega
end
/-! ### Texts -/
abbrev dig (k : Nat) : ByteArray := ⟨#[UInt8.ofNat (IntKind.u8.wrap (IntKind.i64.wrap (48 + (k : Int).tmod 10))).toNat]⟩
def digs (k : Nat) (out : ByteArray) : ByteArray := if h : k = 0 then out else digs (k / 10) (dig k ++ out)
termination_by k
decreasing_by omega
theorem digs_zero (out : ByteArray) : digs 0 out = out := by rw [digs]; simp
theorem digs_pos {k : Nat} (h : k ≠ 0) (out : ByteArray) : digs k out = digs (k / 10) (dig k ++ out) := by rw [digs, dif_neg h]
theorem digs_size (k : Nat) : ∀ out : ByteArray, (digs k out).size ≤ out.size + k := by
  induction k using Nat.strongRecOn with
  | ind k ih =>
    intro out
    by_cases h : k = 0
    · subst h; rw [digs_zero]; omega
    · rw [digs_pos h]
      have := ih (k / 10) (by omega) (dig k ++ out)
      have e : (dig k ++ out).size = 1 + out.size := by rw [ByteArray.size_append]; rfl
      omega
abbrev bM : ByteArray := ⟨#[109]⟩
def mText (k : Nat) : ByteArray := bM ++ digs k ⟨#[]⟩
theorem L_markText (k : Nat) (h0 : 0 < k) (h1 : k < 4611686018427387904) : L (prog hand) n_laws_markText [argI k] = some (resV (.string (mText k))) := by
  refine L_body (b := b_laws_markText) rfl rfl k ?_
  intro fuel hfuel
  have e0 : ¬ ((k : Int) ≤ 0) := by omega
  have e1 : k ≠ 0 := by omega
  simp -implicitDefEqProofs [b_laws_markText, e0, e1]
  refine (K_loop (fun (s : Nat × ByteArray) => ⟨asl [(0, .sv (.v (int s.1))), (3, .sv (.v (.string s.2)))], asl [], []⟩) (fun s => some (resV (.string (bM ++ digs s.1 s.2)))) (fun s => s.1) (fun s => s.1 + s.2.size < 4611686018427387904) ?_ (k, ⟨#[]⟩) (by show k + 0 < _; omega) (by simpa using hfuel))
  rintro ⟨k, out⟩ hI K hK
  simp only at hI
  by_cases hk : k = 0
  · subst hk
    have hs : bM.size + out.size ≤ 9223372036854775807 := by have : bM.size = 1 := rfl; omega
    simp -implicitDefEqProofs [l1_laws_markText, digs_zero, hs]
  · have hk' : 0 < k := by omega
    have hd : IntKind.i64.wrap ((k : Int) / 10) = (k : Int) / 10 := wrap64 (by omega) (by omega)
    have hs : (dig k).size + out.size ≤ 9223372036854775807 := by have : (dig k).size = 1 := rfl; omega
    simp -implicitDefEqProofs [l1_laws_markText, hk', digs_pos hk, hd, hs]
    refine (hK (k / 10, dig k ++ out) ?_ ?_).trans rfl
    · show k / 10 + (dig k ++ out).size < _
      rw [ByteArray.size_append]
      have : (dig k).size = 1 := rfl
      omega
    · show k / 10 < k
      omega
/-! ### What is written -/
def mInts (k n : Nat) : List Int := (List.range n).map (fun i => ((k + i : Nat) : Int))
abbrev mTerm (k : Nat) : TermV := ⟨k, (k + 1 : Nat), (k + 2 : Nat), (k + 3 : Nat)⟩
def mTerms (k n : Nat) : List TermV := (List.range n).map (fun i => mTerm (k + 4 * i))
def markI (k : Nat) (a : Ints) : Ints := ⟨mInts k a.es.length, a.sp, by have := a.ok; simpa [mInts] using this⟩
def markP (k : Nat) (a : Poly) : Poly := ⟨mTerms k a.es.length, a.sp, by have := a.ok; simpa [mTerms] using this⟩
theorem mInts_length (k n : Nat) : (mInts k n).length = n := by simp [mInts]
theorem mTerms_length (k n : Nat) : (mTerms k n).length = n := by simp [mTerms]
theorem mInts_get {k n i : Nat} (h : i < n) : (mInts k n)[i]? = some ((k + i : Nat) : Int) := by simp [mInts, h]
theorem mTerms_get {k n i : Nat} (h : i < n) : (mTerms k n)[i]? = some (mTerm (k + 4 * i)) := by simp [mTerms, h]
theorem markI_es (k : Nat) (a : Ints) : (markI k a).es = mInts k a.es.length := rfl
theorem markI_sp (k : Nat) (a : Ints) : (markI k a).sp = a.sp := rfl
theorem markP_es (k : Nat) (a : Poly) : (markP k a).es = mTerms k a.es.length := rfl
theorem markP_sp (k : Nat) (a : Poly) : (markP k a).sp = a.sp := rfl
/-- A row that is handed over: all of it, its length. -/
abbrev own (c : C) (n : Nat) : Arg := .arr true c n
abbrev backI (k : Nat) (c : C) : Res := ⟨[.s (.mk .imm (.val (int k)))], [some (.arr true false c)]⟩
abbrev wI (a : Ints) : C := .fl 1 (a.es.map eI ++ a.sp.map eI) []
abbrev wP (a : Poly) : C := .fl 4 (a.es.map eT ++ a.sp.map eT) []
theorem L_markIntS (a : Ints) (k : Nat) (h1 : a.es.length ≤ 1000000) (hk : k + a.es.length < 4611686018427387904) : L (prog hand) n_laws_markIntS [own (wI a) a.es.length, argI k] = some (backI (k + a.es.length) (wI (markI k a))) := by
  refine L_body (b := b_laws_markIntS) rfl rfl a.es.length ?_
  intro fuel hfuel
  obtain ⟨Y, hY⟩ : ∃ Y, Y = a.es.map eI ++ a.sp.map eI := ⟨_, rfl⟩
  obtain ⟨X, hX⟩ : ∃ X, X = (markI k a).es.map eI ++ (markI k a).sp.map eI := ⟨_, rfl⟩
  have hl : X.length = Y.length := by rw [hX, hY]; simp [markI_es, markI_sp, mInts_length]
  have hn : a.es.length ≤ Y.length := by rw [hY]; simp
  have hXi : ∀ i, i < a.es.length → X[i]? = some (eI ((k + i : Nat) : Int)) := by
    intro i hi
    rw [hX, List.getElem?_append_left (by simpa [markI_es, mInts_length] using hi), List.getElem?_map, markI_es, mInts_get hi]
    rfl
  have hYi : ∀ (i : Nat) (h : i < Y.length), ∃ y, Y[i] = eI y := by
    intro i h
    have : Y[i] ∈ Y := List.getElem_mem h
    subst hY
    simp only [List.mem_append, List.mem_map] at this
    rcases this with ⟨x, _, e⟩ | ⟨x, _, e⟩ <;> exact ⟨x, e.symm⟩
  have hrest : mixRow X Y a.es.length = X := by
    unfold mixRow
    rw [hX, hY, List.take_left' (by simp [markI_es, mInts_length]), List.drop_left' (by simp), markI_sp]
  have e1 : wI a = .fl 1 Y [] := by rw [hY]
  have e2 : wI (markI k a) = .fl 1 X [] := by rw [hX]
  rw [e1, e2]
  clear e1 e2 hX hY
  simp -implicitDefEqProofs [b_laws_markIntS]
  rw [K_start (fr' := ⟨asl [(0, .sv (.ref 0 [] 0 a.es.length)), (1, .sv (.v (int ((k + 0 : Nat) : Int)))), (5, .sv (.v (int (0 : Nat))))], asl [(0, .arr true false (.fl 1 (mixRow X Y 0) []))], [0]⟩) (by simp [mix_zero])]
  refine K_for (fun i => ⟨asl [(0, .sv (.ref 0 [] 0 a.es.length)), (1, .sv (.v (int ((k + i : Nat) : Int)))), (5, .sv (.v (int i)))], asl [(0, .arr true false (.fl 1 (mixRow X Y i) []))], [0]⟩) 0 a.es.length (by omega) (by omega) ?_ ?_
  · intro i _ hi K
    have h2 : i < Y.length := by omega
    have hs := mix_set (Y := Y) hl (hXi i hi)
    obtain ⟨y, hy⟩ := hYi i h2
    have hw := wrap64 (n := ((k : Int) + (i : Int)) + 1) (by omega) (by omega)
    have ha : (k : Int) + ((i : Int) + 1) = ((k : Int) + (i : Int)) + 1 := by omega
    simp only [Int.natCast_add] at hs
    simp -implicitDefEqProofs [l1_laws_markIntS, hi, h2, hn, hy, mix_at hl, mix_length hl, hs, hw, ha, wrap_suc (show i < 9223372036854775807 by omega)]
  · intro k
    simp -implicitDefEqProofs [l1_laws_markIntS, hrest]
theorem L_markTermS (a : Poly) (k : Nat) (h1 : a.es.length ≤ 1000000) (hk : k + 4 * a.es.length < 4611686018427387904) : L (prog hand) n_laws_markTermS [own (wP a) a.es.length, argI k] = some (backI (k + 4 * a.es.length) (wP (markP k a))) := by
  refine L_body (b := b_laws_markTermS) rfl rfl a.es.length ?_
  intro fuel hfuel
  obtain ⟨Y, hY⟩ : ∃ Y, Y = a.es.map eT ++ a.sp.map eT := ⟨_, rfl⟩
  obtain ⟨X, hX⟩ : ∃ X, X = (markP k a).es.map eT ++ (markP k a).sp.map eT := ⟨_, rfl⟩
  have hl : X.length = Y.length := by rw [hX, hY]; simp [markP_es, markP_sp, mTerms_length]
  have hn : a.es.length ≤ Y.length := by rw [hY]; simp
  have hXi : ∀ i, i < a.es.length → X[i]? = some (eT (mTerm (k + 4 * i))) := by
    intro i hi
    rw [hX, List.getElem?_append_left (by simpa [markP_es, mTerms_length] using hi), List.getElem?_map, markP_es, mTerms_get hi]
    rfl
  have hYi : ∀ (i : Nat) (h : i < Y.length), ∃ y, Y[i] = eT y := by
    intro i h
    have : Y[i] ∈ Y := List.getElem_mem h
    subst hY
    simp only [List.mem_append, List.mem_map] at this
    rcases this with ⟨x, _, e⟩ | ⟨x, _, e⟩ <;> exact ⟨x, e.symm⟩
  have hrest : mixRow X Y a.es.length = X := by
    unfold mixRow
    rw [hX, hY, List.take_left' (by simp [markP_es, mTerms_length]), List.drop_left' (by simp), markP_sp]
  have e1 : wP a = .fl 4 Y [] := by rw [hY]
  have e2 : wP (markP k a) = .fl 4 X [] := by rw [hX]
  rw [e1, e2]
  clear e1 e2 hX hY
  simp -implicitDefEqProofs [b_laws_markTermS]
  rw [K_start (fr' := ⟨asl [(0, .sv (.ref 0 [] 0 a.es.length)), (1, .sv (.v (int ((k + 4 * 0 : Nat) : Int)))), (5, .sv (.v (int (0 : Nat))))], asl [(0, .arr true false (.fl 4 (mixRow X Y 0) []))], [0]⟩) (by simp [mix_zero])]
  refine K_for (fun i => ⟨asl [(0, .sv (.ref 0 [] 0 a.es.length)), (1, .sv (.v (int ((k + 4 * i : Nat) : Int)))), (5, .sv (.v (int i)))], asl [(0, .arr true false (.fl 4 (mixRow X Y i) []))], [0]⟩) 0 a.es.length (by omega) (by omega) ?_ ?_
  · intro i _ hi K
    have h2 : i < Y.length := by omega
    have hs := mix_set (Y := Y) hl (hXi i hi)
    obtain ⟨y, hy⟩ := hYi i h2
    have hF : k + 4 * (i + 1) = (k + 4 * i) + 4 := by omega
    have hb : k + 4 * i < 4611686018427387904 := by omega
    simp only [hF]
    generalize k + 4 * i = b at hs hb
    have hw1 := wrap64 (n := (b : Int) + 1) (by omega) (by omega)
    have hw2 : IntKind.i64.wrap ((b : Int) + 1 + 1) = (b : Int) + 2 := by rw [wrap64 (by omega) (by omega)]; omega
    have hw3 : IntKind.i64.wrap ((b : Int) + 2 + 1) = (b : Int) + 3 := by rw [wrap64 (by omega) (by omega)]; omega
    have hw4 : IntKind.i64.wrap ((b : Int) + 3 + 1) = (b : Int) + 4 := by rw [wrap64 (by omega) (by omega)]; omega
    have hs : (mixRow X Y i).set i [int b, int ((b : Int) + 1), int ((b : Int) + 2), int ((b : Int) + 3)] = mixRow X Y (i + 1) := hs
    simp -implicitDefEqProofs [l1_laws_markTermS, hi, h2, hn, hy, mix_at hl, mix_length hl, hs, hw1, hw2, hw3, hw4, wrap_suc (show i < 9223372036854775807 by omega)]
  · intro k
    simp -implicitDefEqProofs [l1_laws_markTermS, hrest]
theorem L_heldIntS (a : Ints) (k : Nat) (h1 : a.es.length ≤ 1000000) (hk : k + a.es.length < 4611686018427387904) : L (prog hand) n_laws_heldIntS [arg (cI (markI k a)), argI k] = some (resI ((k + a.es.length : Nat) : Int)) := by
  refine L_body (b := b_laws_heldIntS) rfl rfl a.es.length ?_
  intro fuel hfuel
  have hl : (markI k a).es.length = a.es.length := mInts_length _ _
  have hg : ∀ (i : Nat) (h : i < (markI k a).es.length), (markI k a).es[i] = ((k + i : Nat) : Int) := by
    intro i h
    have := mInts_get (k := k) (n := a.es.length) (i := i) (by rw [← hl]; exact h)
    rw [← markI_es, List.getElem?_eq_getElem h] at this
    exact Option.some.inj this
  generalize markI k a = m at hl hg
  simp -implicitDefEqProofs [b_laws_heldIntS]
  rw [K_start (fr' := ⟨asl [(0, .sv (.c (cI m))), (1, .sv (.v (int ((k + 0 : Nat) : Int)))), (5, .sv (.v (int (0 : Nat))))], asl [], []⟩) (by simp)]
  refine K_for (fun i => ⟨asl [(0, .sv (.c (cI m))), (1, .sv (.v (int ((k + i : Nat) : Int)))), (5, .sv (.v (int i)))], asl [], []⟩) 0 m.es.length (by omega) (by omega) ?_ ?_
  · intro i _ hi K
    have hw := wrap64 (n := ((k : Int) + (i : Int)) + 1) (by omega) (by omega)
    have ha : (k : Int) + ((i : Int) + 1) = ((k : Int) + (i : Int)) + 1 := by omega
    have hgi := hg i hi
    simp only [Int.natCast_add] at hgi
    simp -implicitDefEqProofs [l1_laws_heldIntS, hi, hgi, hw, ha, wrap_suc (show i < 9223372036854775807 by omega)]
  · intro k
    simp -implicitDefEqProofs [l1_laws_heldIntS, hl]
theorem L_heldTermS (a : Poly) (k : Nat) (h1 : a.es.length ≤ 1000000) (hk : k + 4 * a.es.length < 4611686018427387904) : L (prog hand) n_laws_heldTermS [arg (cP (markP k a)), argI k] = some (resI ((k + 4 * a.es.length : Nat) : Int)) := by
  refine L_body (b := b_laws_heldTermS) rfl rfl a.es.length ?_
  intro fuel hfuel
  have hl : (markP k a).es.length = a.es.length := mTerms_length _ _
  have hg : ∀ (i : Nat) (h : i < (markP k a).es.length), (markP k a).es[i] = mTerm (k + 4 * i) := by
    intro i h
    have := mTerms_get (k := k) (n := a.es.length) (i := i) (by rw [← hl]; exact h)
    rw [← markP_es, List.getElem?_eq_getElem h] at this
    exact Option.some.inj this
  generalize markP k a = m at hl hg
  simp -implicitDefEqProofs [b_laws_heldTermS]
  rw [K_start (fr' := ⟨asl [(0, .sv (.c (cP m))), (1, .sv (.v (int ((k + 4 * 0 : Nat) : Int)))), (5, .sv (.v (int (0 : Nat))))], asl [], []⟩) (by simp)]
  refine K_for (fun i => ⟨asl [(0, .sv (.c (cP m))), (1, .sv (.v (int ((k + 4 * i : Nat) : Int)))), (5, .sv (.v (int i)))], asl [], []⟩) 0 m.es.length (by omega) (by omega) ?_ ?_
  · intro i _ hi K
    have hgi := hg i hi
    have hF : k + 4 * (i + 1) = (k + 4 * i) + 4 := by omega
    have hb : k + 4 * i < 4611686018427387904 := by omega
    simp only [hF]
    generalize k + 4 * i = b at hgi hb
    have hw1 := wrap64 (n := (b : Int) + 1) (by omega) (by omega)
    have hw2 : IntKind.i64.wrap ((b : Int) + 1 + 1) = (b : Int) + 2 := by rw [wrap64 (by omega) (by omega)]; omega
    have hw3 : IntKind.i64.wrap ((b : Int) + 2 + 1) = (b : Int) + 3 := by rw [wrap64 (by omega) (by omega)]; omega
    have hw4 : IntKind.i64.wrap ((b : Int) + 3 + 1) = (b : Int) + 4 := by rw [wrap64 (by omega) (by omega)]; omega
    simp -implicitDefEqProofs [l1_laws_heldTermS, hi, hgi, hw1, hw2, hw3, hw4, wrap_suc (show i < 9223372036854775807 by omega)]
  · intro k
    simp -implicitDefEqProofs [l1_laws_heldTermS, hl]
end Go.Proofs.Ytkiklfcfdopplaa.T
namespace Go.Proofs.Ytkiklfcfdopplaa.T
open Go
variable {hand : Call}
set_option maxHeartbeats 2000000
attribute [-simp] List.getElem_cons_drop List.map_drop
section
variable {α : Type} (m : Nat → α → α) (cnt : α → Nat)
/-- Marks one behind the other. -/
def markL : Nat → List α → List α
  | _, [] => []
  | k, x :: xs => m k x :: markL (k + cnt x) xs
def endL (k : Nat) (l : List α) : Nat := k + (l.map cnt).sum
theorem markL_length : ∀ (l : List α) (k : Nat), (markL m cnt k l).length = l.length
  | [], _ => rfl
  | x :: xs, k => by simp [markL, markL_length xs]
theorem markL_get : ∀ (l : List α) (k i : Nat) (h : i < l.length), (markL m cnt k l)[i]? = some (m (endL cnt k (l.take i)) l[i])
  | [], _, _, h => by simp at h
  | x :: xs, k, 0, _ => by simp [markL, endL]
  | x :: xs, k, i + 1, h => by
    have := markL_get xs (k + cnt x) i (by simpa using h)
    simp only [markL, List.getElem?_cons_succ, this, List.getElem_cons_succ, List.take_succ_cons]
    congr 2
    simp [endL]; omega
theorem endL_succ {l : List α} {k i : Nat} (h : i < l.length) : endL cnt k (l.take (i + 1)) = endL cnt k (l.take i) + cnt l[i] := by
  rw [List.take_succ_eq_append_getElem h]
  unfold endL
  rw [List.map_append, List.sum_append]
  simp only [List.map_cons, List.map_nil, List.sum_cons, List.sum_nil]; omega
theorem endL_le {l : List α} {k i : Nat} : endL cnt k (l.take i) ≤ endL cnt k l := by
  have e : endL cnt k l = endL cnt k (l.take i) + ((l.drop i).map cnt).sum := by
    conv => lhs; rw [← List.take_append_drop i l]
    simp only [endL, List.map_append, List.sum_append]; omega
  omega
end
def cntP (p : Poly) : Nat := 4 * p.es.length
def markS (k : Nat) (s : Sys) : Sys := ⟨markL markP cntP k s.es, s.sp, by have := s.ok; rw [markL_length]; exact this⟩
theorem markS_es (k : Nat) (s : Sys) : (markS k s).es = markL markP cntP k s.es := rfl
theorem markS_sp (k : Nat) (s : Sys) : (markS k s).sp = s.sp := rfl
abbrev wS (s : Sys) : C := .sl 1 (s.es.map eP ++ s.sp.map eP) []
theorem sub_markP (k : Nat) (p : Poly) : C.fl 4 (((markP k p).es.map eT ++ p.sp.map eT).take p.es.length) (((markP k p).es.map eT ++ p.sp.map eT).drop p.es.length) = cP (markP k p) := by
  rw [List.take_left' (by simp [markP_es, mTerms_length]), List.drop_left' (by simp [markP_es, mTerms_length])]
  rfl
theorem L_markTermSS (a : Sys) (k : Nat) (h1 : a.es.length ≤ 1000000) (hp : ∀ p ∈ a.es, p.es.length ≤ 1000000) (hk : endL cntP k a.es < 4611686018427387904) : L (prog hand) n_laws_markTermSS [own (wS a) a.es.length, argI k] = some (backI (endL cntP k a.es) (wS (markS k a))) := by
  refine L_body (b := b_laws_markTermSS) rfl rfl a.es.length ?_
  intro fuel hfuel
  obtain ⟨Y, hY⟩ : ∃ Y, Y = a.es.map eP ++ a.sp.map eP := ⟨_, rfl⟩
  obtain ⟨X, hX⟩ : ∃ X, X = (markS k a).es.map eP ++ (markS k a).sp.map eP := ⟨_, rfl⟩
  have hl : X.length = Y.length := by rw [hX, hY]; simp [markS_es, markS_sp, markL_length]
  have hn : a.es.length ≤ Y.length := by rw [hY]; simp
  have hXi : ∀ i (h : i < a.es.length), X[i]? = some (eP (markP (endL cntP k (a.es.take i)) a.es[i])) := by
    intro i hi
    rw [hX, List.getElem?_append_left (by simpa [markS_es, markL_length] using hi), List.getElem?_map, markS_es, markL_get markP cntP _ _ _ hi]
    rfl
  have hYi : ∀ (i : Nat) (h : i < a.es.length), Y[i]'(by omega) = eP a.es[i] := by
    intro i h
    subst hY
    rw [List.getElem_append_left (by simpa using h)]
    simp
  have hrest : mixRow X Y a.es.length = X := by
    unfold mixRow
    rw [hX, hY, List.take_left' (by simp [markS_es, markL_length]), List.drop_left' (by simp), markS_sp]
  have e1 : wS a = .sl 1 Y [] := by rw [hY]
  have e2 : wS (markS k a) = .sl 1 X [] := by rw [hX]
  rw [e1, e2]
  clear e1 e2 hX hY
  simp -implicitDefEqProofs [b_laws_markTermSS]
  rw [K_start (fr' := ⟨asl [(0, .sv (.ref 0 [] 0 a.es.length)), (1, .sv (.v (int ((endL cntP k (a.es.take 0) : Nat) : Int)))), (5, .sv (.v (int (0 : Nat))))], asl [(0, .arr true false (.sl 1 (mixRow X Y 0) []))], [0]⟩) (by simp [mix_zero, endL])]
  refine K_for (fun i => ⟨asl [(0, .sv (.ref 0 [] 0 a.es.length)), (1, .sv (.v (int ((endL cntP k (a.es.take i) : Nat) : Int)))), (5, .sv (.v (int i)))], asl [(0, .arr true false (.sl 1 (mixRow X Y i) []))], [0]⟩) 0 a.es.length (by omega) (by omega) ?_ ?_
  · intro i _ hi K
    have h2 : i < Y.length := by omega
    have hs := mix_set (Y := Y) hl (hXi i hi)
    have hb : endL cntP k (a.es.take i) + cntP a.es[i] < 4611686018427387904 := by
      rw [← endL_succ cntP hi]
      exact Nat.lt_of_le_of_lt (endL_le cntP) hk
    have hq := hp _ (List.getElem_mem hi)
    rw [endL_succ cntP hi]
    generalize endL cntP k (a.es.take i) = b at hs hb
    have hL := L_markTermS (hand := hand) a.es[i] b hq hb
    have hm : (markP b a.es[i]).es.length = a.es[i].es.length := mTerms_length _ _
    have hs : (mixRow X Y i).set i [C.fl 4 ((markP b a.es[i]).es.map eT) (a.es[i].sp.map eT)] = mixRow X Y (i + 1) := hs
    simp -implicitDefEqProofs [l1_laws_markTermSS, hi, hm, cntP, h2, hn, hYi i hi, mix_at hl, mix_length hl, hL, sub_markP, hs, markP_sp, wrap_suc (show i < 9223372036854775807 by omega)]
  · intro _
    simp -implicitDefEqProofs [l1_laws_markTermSS, hrest]
theorem L_heldTermSS (a : Sys) (k : Nat) (h1 : a.es.length ≤ 1000000) (hp : ∀ p ∈ a.es, p.es.length ≤ 1000000) (hk : endL cntP k a.es < 4611686018427387904) : L (prog hand) n_laws_heldTermSS [arg (cS (markS k a)), argI k] = some (resI ((endL cntP k a.es : Nat) : Int)) := by
  refine L_body (b := b_laws_heldTermSS) rfl rfl a.es.length ?_
  intro fuel hfuel
  have hl : (markS k a).es.length = a.es.length := markL_length _ _ _ _
  have hg : ∀ (i : Nat) (h : i < (markS k a).es.length), (markS k a).es[i] = markP (endL cntP k (a.es.take i)) (a.es[i]'(by rw [← hl]; exact h)) := by
    intro i h
    have := markL_get markP cntP a.es k i (by rw [← hl]; exact h)
    rw [← markS_es, List.getElem?_eq_getElem h] at this
    exact Option.some.inj this
  generalize markS k a = m at hl hg
  simp -implicitDefEqProofs [b_laws_heldTermSS]
  rw [K_start (fr' := ⟨asl [(0, .sv (.c (cS m))), (1, .sv (.v (int ((endL cntP k (a.es.take 0) : Nat) : Int)))), (5, .sv (.v (int (0 : Nat))))], asl [], []⟩) (by simp [endL])]
  refine K_for (fun i => ⟨asl [(0, .sv (.c (cS m))), (1, .sv (.v (int ((endL cntP k (a.es.take i) : Nat) : Int)))), (5, .sv (.v (int i)))], asl [], []⟩) 0 m.es.length (by omega) (by omega) ?_ ?_
  · intro i _ hi K
    have hi' : i < a.es.length := by omega
    have hgi := hg i hi
    have hb : endL cntP k (a.es.take i) + cntP a.es[i] < 4611686018427387904 := by
      rw [← endL_succ cntP hi']
      exact Nat.lt_of_le_of_lt (endL_le cntP) hk
    have hq := hp _ (List.getElem_mem hi')
    rw [endL_succ cntP hi']
    generalize endL cntP k (a.es.take i) = b at hgi hb
    have hL := L_heldTermS (hand := hand) a.es[i] b hq hb
    have hnn : ¬ ((b : Int) + 4 * (a.es[i].es.length : Int) < 0) := by omega
    simp -implicitDefEqProofs [l1_laws_heldTermSS, hi, hgi, hL, cntP, hnn, wrap_suc (show i < 9223372036854775807 by omega)]
  · intro _
    have ht : a.es.take m.es.length = a.es := List.take_of_length_le (by omega)
    simp -implicitDefEqProofs [l1_laws_heldTermSS, ht]
/-! ### Entries -/
def cntE (e : EntryV) : Nat := 1 + (e.system.es.map cntP).sum + 1 + e.box.low.es.length + e.box.high.es.length + 3
theorem mText_size (k : Nat) : (mText k).size ≤ 1 + k := by
  unfold mText
  rw [ByteArray.size_append]
  have h1 := digs_size k ⟨#[]⟩
  have h2 : bM.size = 1 := rfl
  have h3 : (⟨#[]⟩ : ByteArray).size = 0 := rfl
  omega
def mName (k : Nat) : ByteArray := if k < 4611686018427387904 then mText k else ⟨#[]⟩
theorem mName_size (k : Nat) : (mName k).size ≤ 9223372036854775807 := by
  unfold mName
  split
  · have := mText_size k; omega
  · exact Nat.zero_le _
def boxAt (k : Nat) (e : EntryV) : Nat := endL cntP (k + 1) e.system.es
def lastAt (k : Nat) (e : EntryV) : Nat := boxAt k e + 1 + e.box.low.es.length + e.box.high.es.length
def markE (k : Nat) (e : EntryV) : EntryV := ⟨mName k, mName_size k, markS (k + 1) e.system, ⟨boxAt k e, markI (boxAt k e + 1) e.box.low, markI (boxAt k e + 1 + e.box.low.es.length) e.box.high⟩, lastAt k e, (lastAt k e + 1 : Nat), (lastAt k e + 2 : Nat)⟩
theorem cntE_eq (k : Nat) (e : EntryV) : lastAt k e + 3 = k + cntE e := by
  simp only [lastAt, boxAt, cntE, endL]; omega
def markEs (k : Nat) (l : Entries) : Entries := ⟨markL markE cntE k l.es, l.sp, by have := l.ok; rw [markL_length]; exact this⟩
theorem markEs_es (k : Nat) (l : Entries) : (markEs k l).es = markL markE cntE k l.es := rfl
theorem markEs_sp (k : Nat) (l : Entries) : (markEs k l).sp = l.sp := rfl
abbrev wE (l : Entries) : C := .sl 8 (l.es.map eE ++ l.sp.map eE) []
theorem L_markEntryS (a : Entries) (k : Nat) (h0 : 0 < k) (h1 : a.es.length ≤ 1000000) (hp : ∀ e ∈ a.es, SmallE e) (hk : endL cntE k a.es < 4611686018427387904) : L (prog hand) n_laws_markEntryS [own (wE a) a.es.length, argI k] = some (backI (endL cntE k a.es) (wE (markEs k a))) := by
  refine L_body (b := b_laws_markEntryS) rfl rfl a.es.length ?_
  intro fuel hfuel
  obtain ⟨Y, hY⟩ : ∃ Y, Y = a.es.map eE ++ a.sp.map eE := ⟨_, rfl⟩
  obtain ⟨X, hX⟩ : ∃ X, X = (markEs k a).es.map eE ++ (markEs k a).sp.map eE := ⟨_, rfl⟩
  have hl : X.length = Y.length := by rw [hX, hY]; simp [markEs_es, markEs_sp, markL_length]
  have hn : a.es.length ≤ Y.length := by rw [hY]; simp
  have hXi : ∀ i (h : i < a.es.length), X[i]? = some (eE (markE (endL cntE k (a.es.take i)) a.es[i])) := by
    intro i hi
    rw [hX, List.getElem?_append_left (by simpa [markEs_es, markL_length] using hi), List.getElem?_map, markEs_es, markL_get markE cntE _ _ _ hi]
    rfl
  have hYi : ∀ (i : Nat) (h : i < a.es.length), Y[i]'(by omega) = eE a.es[i] := by
    intro i h
    subst hY
    rw [List.getElem_append_left (by simpa using h)]
    simp
  have hrest : mixRow X Y a.es.length = X := by
    unfold mixRow
    rw [hX, hY, List.take_left' (by simp [markEs_es, markL_length]), List.drop_left' (by simp), markEs_sp]
  have e1 : wE a = .sl 8 Y [] := by rw [hY]
  have e2 : wE (markEs k a) = .sl 8 X [] := by rw [hX]
  rw [e1, e2]
  clear e1 e2 hX hY
  simp -implicitDefEqProofs [b_laws_markEntryS]
  rw [K_start (fr' := ⟨asl [(0, .sv (.ref 0 [] 0 a.es.length)), (1, .sv (.v (int ((endL cntE k (a.es.take 0) : Nat) : Int)))), (5, .sv (.v (int (0 : Nat))))], asl [(0, .arr true false (.sl 8 (mixRow X Y 0) []))], [0]⟩) (by simp [mix_zero, endL])]
  refine K_for (fun i => ⟨asl [(0, .sv (.ref 0 [] 0 a.es.length)), (1, .sv (.v (int ((endL cntE k (a.es.take i) : Nat) : Int)))), (5, .sv (.v (int i)))], asl [(0, .arr true false (.sl 8 (mixRow X Y i) []))], [0]⟩) 0 a.es.length (by omega) (by omega) ?_ ?_
  · intro i _ hi K
    have h2 : i < Y.length := by omega
    have hs := mix_set (Y := Y) hl (hXi i hi)
    have hb : endL cntE k (a.es.take i) + cntE a.es[i] < 4611686018427387904 := by
      rw [← endL_succ cntE hi]
      exact Nat.lt_of_le_of_lt (endL_le cntE) hk
    have hb0 : 0 < endL cntE k (a.es.take i) := by unfold endL; omega
    obtain ⟨⟨q1, q2⟩, q3, q4⟩ := hp _ (List.getElem_mem hi)
    rw [endL_succ cntE hi]
    generalize endL cntE k (a.es.take i) = b at hs hb hb0
    have hYe := hYi i hi
    generalize a.es[i] = e at hs hb hYe q1 q2 q3 q4
    have hc := cntE_eq b e
    have hmn : mName b = mText b := by unfold mName; rw [if_pos (by omega)]
    have hx : lastAt b e = boxAt b e + 1 + e.box.low.es.length + e.box.high.es.length := rfl
    have hT := L_markText (hand := hand) b hb0 (by omega)
    have hS := L_markTermSS (hand := hand) e.system (b + 1) q1 q2 (show boxAt b e < _ by omega)
    have hI1 := L_markIntS (hand := hand) e.box.low (boxAt b e + 1) q3 (by omega)
    have hI2 := L_markIntS (hand := hand) e.box.high (boxAt b e + 1 + e.box.low.es.length) q4 (by omega)
    have hS : L (prog hand) n_laws_markTermSS [own (wS e.system) e.system.es.length, argI ((b : Int) + 1)] = some (backI (boxAt b e) (wS (markS (b + 1) e.system))) := hS
    have hI1 : L (prog hand) n_laws_markIntS [own (wI e.box.low) e.box.low.es.length, argI ((boxAt b e : Int) + 1)] = some (backI (boxAt b e + 1 + e.box.low.es.length) (wI (markI (boxAt b e + 1) e.box.low))) := hI1
    have hI2 : L (prog hand) n_laws_markIntS [own (wI e.box.high) e.box.high.es.length, argI ((boxAt b e : Int) + 1 + (e.box.low.es.length : Int))] = some (backI (lastAt b e) (wI (markI (boxAt b e + 1 + e.box.low.es.length) e.box.high))) := hI2
    have hs : (mixRow X Y i).set i [.val (.string (mText b)), .sl 1 ((markS (b + 1) e.system).es.map eP) (e.system.sp.map eP), .val (int (boxAt b e : Nat)), .fl 1 ((markI (boxAt b e + 1) e.box.low).es.map eI) (e.box.low.sp.map eI), .fl 1 ((markI (boxAt b e + 1 + e.box.low.es.length) e.box.high).es.map eI) (e.box.high.sp.map eI), .val (int (lastAt b e : Nat)), .val (int ((lastAt b e : Int) + 1)), .val (int ((lastAt b e : Int) + 2))] = mixRow X Y (i + 1) := by rw [← hmn]; exact hs
    have m1 : (markS (b + 1) e.system).es.length = e.system.es.length := markL_length _ _ _ _
    have m2 : (markI (boxAt b e + 1) e.box.low).es.length = e.box.low.es.length := mInts_length _ _
    have m3 : (markI (boxAt b e + 1 + e.box.low.es.length) e.box.high).es.length = e.box.high.es.length := mInts_length _ _
    have w1 := wrap64 (n := (b : Int) + 1) (by omega) (by omega)
    have w2 := wrap64 (n := (boxAt b e : Int) + 1) (by omega) (by omega)
    have w3 := wrap64 (n := (lastAt b e : Int) + 1) (by omega) (by omega)
    have w4 : IntKind.i64.wrap ((lastAt b e : Int) + 1 + 1) = (lastAt b e : Int) + 2 := by rw [wrap64 (by omega) (by omega)]; omega
    have w5 : IntKind.i64.wrap ((lastAt b e : Int) + 2 + 1) = (lastAt b e : Int) + 3 := by rw [wrap64 (by omega) (by omega)]; omega
    have ha : (b : Int) + (cntE e : Int) = (lastAt b e : Int) + 3 := by omega
    simp -implicitDefEqProofs [l1_laws_markEntryS, hi, h2, hn, hYe, mix_at hl, mix_length hl, hT, hS, hI1, hI2, hs, m1, m2, m3, markS_sp, markI_sp, w1, w2, w3, w4, w5, ha, wrap_suc (show i < 9223372036854775807 by omega)]
  · intro _
    simp -implicitDefEqProofs [l1_laws_markEntryS, hrest]
theorem L_heldEntryS (a : Entries) (k : Nat) (h0 : 0 < k) (h1 : a.es.length ≤ 1000000) (hp : ∀ e ∈ a.es, SmallE e) (hk : endL cntE k a.es < 4611686018427387904) : L (prog hand) n_laws_heldEntryS [arg (cE (markEs k a)), argI k] = some (resI ((endL cntE k a.es : Nat) : Int)) := by
  refine L_body (b := b_laws_heldEntryS) rfl rfl a.es.length ?_
  intro fuel hfuel
  have hl : (markEs k a).es.length = a.es.length := markL_length _ _ _ _
  have hg : ∀ (i : Nat) (h : i < (markEs k a).es.length), (markEs k a).es[i] = markE (endL cntE k (a.es.take i)) (a.es[i]'(by rw [← hl]; exact h)) := by
    intro i h
    have := markL_get markE cntE a.es k i (by rw [← hl]; exact h)
    rw [← markEs_es, List.getElem?_eq_getElem h] at this
    exact Option.some.inj this
  generalize markEs k a = m at hl hg
  simp -implicitDefEqProofs [b_laws_heldEntryS]
  rw [K_start (fr' := ⟨asl [(0, .sv (.c (cE m))), (1, .sv (.v (int ((endL cntE k (a.es.take 0) : Nat) : Int)))), (5, .sv (.v (int (0 : Nat))))], asl [], []⟩) (by simp [endL])]
  refine K_for (fun i => ⟨asl [(0, .sv (.c (cE m))), (1, .sv (.v (int ((endL cntE k (a.es.take i) : Nat) : Int)))), (5, .sv (.v (int i)))], asl [], []⟩) 0 m.es.length (by omega) (by omega) ?_ ?_
  · intro i _ hi K
    have hi' : i < a.es.length := by omega
    have hgi := hg i hi
    have hb : endL cntE k (a.es.take i) + cntE a.es[i] < 4611686018427387904 := by
      rw [← endL_succ cntE hi']
      exact Nat.lt_of_le_of_lt (endL_le cntE) hk
    have hb0 : 0 < endL cntE k (a.es.take i) := by unfold endL; omega
    obtain ⟨⟨q1, q2⟩, q3, q4⟩ := hp _ (List.getElem_mem hi')
    rw [endL_succ cntE hi']
    generalize endL cntE k (a.es.take i) = b at hgi hb hb0
    generalize a.es[i] = e at hgi hb q1 q2 q3 q4
    have hc := cntE_eq b e
    have hmn : mName b = mText b := by unfold mName; rw [if_pos (by omega)]
    have hx : lastAt b e = boxAt b e + 1 + e.box.low.es.length + e.box.high.es.length := rfl
    have hT := L_markText (hand := hand) b hb0 (by omega)
    have hS := L_heldTermSS (hand := hand) e.system (b + 1) q1 q2 (show boxAt b e < _ by omega)
    have hI1 := L_heldIntS (hand := hand) e.box.low (boxAt b e + 1) q3 (by omega)
    have hI2 := L_heldIntS (hand := hand) e.box.high (boxAt b e + 1 + e.box.low.es.length) q4 (by omega)
    have hS : L (prog hand) n_laws_heldTermSS [arg (cS (markS (b + 1) e.system)), argI ((b : Int) + 1)] = some (resI ((boxAt b e : Nat) : Int)) := hS
    have hI1 : L (prog hand) n_laws_heldIntS [arg (cI (markI (boxAt b e + 1) e.box.low)), argI ((boxAt b e : Int) + 1)] = some (resI ((boxAt b e : Int) + 1 + (e.box.low.es.length : Int))) := hI1
    have hI2 : L (prog hand) n_laws_heldIntS [arg (cI (markI (boxAt b e + 1 + e.box.low.es.length) e.box.high)), argI ((boxAt b e : Int) + 1 + (e.box.low.es.length : Int))] = some (resI ((lastAt b e : Nat) : Int)) := hI2
    have g0 : m.es[i].name = mText b := by rw [hgi]; exact hmn
    have g1 : m.es[i].system = markS (b + 1) e.system := by rw [hgi]; rfl
    have g2 : m.es[i].box = ⟨boxAt b e, markI (boxAt b e + 1) e.box.low, markI (boxAt b e + 1 + e.box.low.es.length) e.box.high⟩ := by rw [hgi]; rfl
    have g3 : m.es[i].least = (lastAt b e : Int) := by rw [hgi]; rfl
    have g4 : m.es[i].most = (lastAt b e : Int) + 1 := by rw [hgi]; rfl
    have g5 : m.es[i].version = (lastAt b e : Int) + 2 := by rw [hgi]; rfl
    clear hgi
    have w1 := wrap64 (n := (b : Int) + 1) (by omega) (by omega)
    have w2 := wrap64 (n := (boxAt b e : Int) + 1) (by omega) (by omega)
    have w3 := wrap64 (n := (lastAt b e : Int) + 1) (by omega) (by omega)
    have w4 : IntKind.i64.wrap ((lastAt b e : Int) + 1 + 1) = (lastAt b e : Int) + 2 := by rw [wrap64 (by omega) (by omega)]; omega
    have w5 : IntKind.i64.wrap ((lastAt b e : Int) + 2 + 1) = (lastAt b e : Int) + 3 := by rw [wrap64 (by omega) (by omega)]; omega
    have ha : (b : Int) + (cntE e : Int) = (lastAt b e : Int) + 3 := by omega
    have n1 : ¬ ((boxAt b e : Int) < 0) := by omega
    have n2 : ¬ ((boxAt b e : Int) + 1 + (e.box.low.es.length : Int) < 0) := by omega
    have n3 : ¬ ((lastAt b e : Int) < 0) := by omega
    simp -implicitDefEqProofs [l1_laws_heldEntryS, hi, hT, hS, hI1, hI2, g0, g1, g2, g3, g4, g5, w1, w2, w3, w4, w5, ha, n1, n2, n3, wrap_suc (show i < 9223372036854775807 by omega)]
  · intro _
    have ht : a.es.take m.es.length = a.es := List.take_of_length_le (by omega)
    simp -implicitDefEqProofs [l1_laws_heldEntryS, ht]
end Go.Proofs.Ytkiklfcfdopplaa.T
namespace Go.Proofs.Ytkiklfcfdopplaa.T
open Go
variable {hand : Call}
set_option maxHeartbeats 2000000
attribute [-simp] List.getElem_cons_drop List.map_drop
def inR (n lo hi : Int) : Bool := decide (lo ≤ n) && decide (n ≤ hi)
theorem L_l1In (n lo hi : Int) : L (prog hand) n_spec_l1In [argI n, argI lo, argI hi] = some (resB (inR n lo hi)) := by
  refine L_body (b := b_spec_l1In) rfl rfl 0 ?_
  intro fuel _
  by_cases h : lo ≤ n <;> simp -implicitDefEqProofs [b_spec_l1In, inR, h]
theorem L_inside (n lo hi : Int) : L (prog hand) n_impl_inside [argI n, argI lo, argI hi] = some (resB (inR n lo hi)) := by
  refine L_body (b := b_impl_inside) rfl rfl 0 ?_
  intro fuel _
  by_cases h : lo ≤ n <;> simp -implicitDefEqProofs [b_impl_inside, inR, h]
def sgn (n : Int) : Int := if 0 < n then 1 else if n < 0 then -1 else 0
theorem L_l1Sign (n : Int) : L (prog hand) n_spec_l1Sign [argI n] = some (resI (sgn n)) := by
  refine L_body (b := b_spec_l1Sign) rfl rfl 0 ?_
  intro fuel _
  by_cases h : 0 < n
  · simp -implicitDefEqProofs [b_spec_l1Sign, sgn, h]
  · by_cases h2 : n < 0 <;> simp -implicitDefEqProofs [b_spec_l1Sign, sgn, h, h2]
theorem L_l1Most (a b : Int) : L (prog hand) n_spec_l1Most [argI a, argI b] = some (resI (max a b)) := by
  refine L_body (b := b_spec_l1Most) rfl rfl 0 ?_
  intro fuel _
  by_cases h : b < a
  · have e : max a b = a := by omega
    simp -implicitDefEqProofs [b_spec_l1Most, h, e]
  · have e : max a b = b := by omega
    simp -implicitDefEqProofs [b_spec_l1Most, h, e]
theorem L_l1Least (a b : Int) : L (prog hand) n_spec_l1Least [argI a, argI b] = some (resI (min a b)) := by
  refine L_body (b := b_spec_l1Least) rfl rfl 0 ?_
  intro fuel _
  by_cases h : a < b
  · have e : min a b = a := by omega
    simp -implicitDefEqProofs [b_spec_l1Least, h, e]
  · have e : min a b = b := by omega
    simp -implicitDefEqProofs [b_spec_l1Least, h, e]
def allUp (f : Nat → Bool) : Nat → Nat → Bool
  | _, 0 => true
  | i, m + 1 => f i && allUp f (i + 1) m
theorem allUp_step {f : Nat → Bool} {i n : Nat} (h : i < n) : allUp f i (n - i) = (f i && allUp f (i + 1) (n - (i + 1))) := by
  obtain ⟨m, hm⟩ : ∃ m, n - i = m + 1 := ⟨n - i - 1, by omega⟩
  rw [hm, show n - (i + 1) = m by omega]
  rfl
theorem allUp_end {f : Nat → Bool} {i n : Nat} (h : ¬ i < n) : allUp f i (n - i) = true := by rw [show n - i = 0 by omega]; rfl
def byteOk (s : ByteArray) (i : Nat) : Bool :=
  match s[i]? with
  | some b => decide (97 ≤ b.toNat) && decide (b.toNat ≤ 122)
  | none => false
def nameOk (s : ByteArray) : Bool := allUp (byteOk s) 0 s.size && inR s.size 1 8
theorem L_caName (s : ByteArray) (hs : s.size ≤ 9223372036854775807) : L (prog hand) n_spec_caName [argV (.string s)] = some (resB (nameOk s)) := by
  refine L_body (b := b_spec_caName) rfl rfl s.size ?_
  intro fuel hfuel
  simp -implicitDefEqProofs [b_spec_caName]
  refine K_loop (fun (i : Nat) => ⟨asl [(0, .sv (.v (.string s))), (3, .sv (.v (int i)))], asl [], []⟩) (fun i => some (resB (allUp (byteOk s) i (s.size - i) && inR s.size 1 8))) (fun i => s.size - i) (fun i => i ≤ s.size) ?_ 0 (by simp) (by omega)
  intro i hi k hk
  by_cases hlt : i < s.size
  · rw [allUp_step hlt]
    have hb : s[i]? = some s[i] := by simp [hlt]
    have hbo : byteOk s i = (decide (97 ≤ s[i].toNat) && decide (s[i].toNat ≤ 122)) := by unfold byteOk; rw [hb]
    rw [hbo]
    by_cases h1 : 97 ≤ s[i].toNat
    · have h1' : ¬ ((s[i].toNat : Int) < 97) := by omega
      have h1z : (97 : Int) ≤ s[i].toNat := by omega
      by_cases h2 : s[i].toNat ≤ 122
      · have h2' : ¬ ((122 : Int) < s[i].toNat) := by omega
        have h2z : (s[i].toNat : Int) ≤ 122 := by omega
        simp -implicitDefEqProofs [l1_spec_caName, hlt, h1, h1', h1z, h2, h2', h2z, wrap_suc (show i < 9223372036854775807 by omega)]
        exact (hk (i + 1) (by omega) (by omega)).trans (by simp)
      · have h2' : ((122 : Int) < s[i].toNat) := by omega
        simp -implicitDefEqProofs [l1_spec_caName, hlt, h1, h1', h1z, h2, h2']
    · have h1' : ((s[i].toNat : Int) < 97) := by omega
      simp -implicitDefEqProofs [l1_spec_caName, hlt, h1, h1']
  · rw [allUp_end hlt]
    simp -implicitDefEqProofs [l1_spec_caName, hlt, L_l1In]
def termOk (t : TermV) : Bool := inR t.c (-1000) 1000 && (inR t.x 0 4 && (inR t.y 0 4 && (inR t.z 0 4 && decide (t.x + t.y + t.z ≤ 4))))
theorem inR_true {n lo hi : Int} (h : inR n lo hi = true) : lo ≤ n ∧ n ≤ hi := by simpa [inR] using h
theorem L_poTerm (t : TermV) : L (prog hand) n_spec_poTerm [argT t] = some (resB (termOk t)) := by
  refine L_body (b := b_spec_poTerm) rfl rfl 0 ?_
  intro fuel _
  cases h1 : inR t.c (-1000) 1000
  · simp -implicitDefEqProofs [b_spec_poTerm, termOk, L_l1In, h1]
  cases h2 : inR t.x 0 4
  · simp -implicitDefEqProofs [b_spec_poTerm, termOk, L_l1In, h1, h2]
  cases h3 : inR t.y 0 4
  · simp -implicitDefEqProofs [b_spec_poTerm, termOk, L_l1In, h1, h2, h3]
  cases h4 : inR t.z 0 4
  · simp -implicitDefEqProofs [b_spec_poTerm, termOk, L_l1In, h1, h2, h3, h4]
  have e2 := inR_true h2
  have e3 := inR_true h3
  have e4 := inR_true h4
  have w1 := wrap64 (n := t.x + t.y) (by omega) (by omega)
  have w2 := wrap64 (n := t.x + t.y + t.z) (by omega) (by omega)
  simp -implicitDefEqProofs [b_spec_poTerm, termOk, L_l1In, h1, h2, h3, h4, w1, w2]
def cmp3 (a b : TermV) : Int := if a.x ≠ b.x then sgn (a.x - b.x) else if a.y ≠ b.y then sgn (a.y - b.y) else sgn (a.z - b.z)
theorem L_poOrder (a b : TermV) (ha : termOk a = true) (hb : termOk b = true) : L (prog hand) n_spec_poOrder [argT a, argT b] = some (resI (cmp3 a b)) := by
  refine L_body (b := b_spec_poOrder) rfl rfl 0 ?_
  intro fuel _
  simp only [termOk, Bool.and_eq_true] at ha hb
  have a2 := inR_true ha.2.1
  have a3 := inR_true ha.2.2.1
  have a4 := inR_true ha.2.2.2.1
  have b2 := inR_true hb.2.1
  have b3 := inR_true hb.2.2.1
  have b4 := inR_true hb.2.2.2.1
  have w1 := wrap64 (n := a.x - b.x) (by omega) (by omega)
  have w2 := wrap64 (n := a.y - b.y) (by omega) (by omega)
  have w3 := wrap64 (n := a.z - b.z) (by omega) (by omega)
  by_cases h1 : a.x = b.x
  · by_cases h2 : a.y = b.y
    · simp -implicitDefEqProofs [b_spec_poOrder, cmp3, h1, h2, w3, L_l1Sign]
    · simp -implicitDefEqProofs [b_spec_poOrder, cmp3, h1, h2, w2, L_l1Sign]
  · simp -implicitDefEqProofs [b_spec_poOrder, cmp3, h1, w1, L_l1Sign]
def polyGo : Option TermV → List TermV → Bool
  | _, [] => true
  | none, t :: r => termOk t && (decide (t.c ≠ 0) && polyGo (some t) r)
  | some p, t :: r => termOk t && (decide (t.c ≠ 0) && (decide (cmp3 p t < 0) && polyGo (some t) r))
def polyOk (l : List TermV) : Bool := polyGo none l && decide (l.length ≤ 20)
def prevAt (l : List TermV) : Nat → Option TermV
  | 0 => none
  | i + 1 => l[i]?
theorem L_poGood (p : Poly) : L (prog hand) n_spec_poGood [arg (cP p)] = some (resB (polyOk p.es)) := by
  have hok := p.ok
  refine L_body (b := b_spec_poGood) rfl rfl p.es.length ?_
  intro fuel hfuel
  simp -implicitDefEqProofs [b_spec_poGood]
  refine K_loop (fun (i : Nat) => ⟨asl [(0, .sv (.c (cP p))), (5, .sv (.c (cP p))), (6, .sv (.v (int p.es.length))), (7, .sv (.v (int i)))], asl [], []⟩) (fun i => some (resB (polyGo (prevAt p.es i) (p.es.drop i) && decide (p.es.length ≤ 20)))) (fun i => p.es.length - i) (fun i => i ≤ p.es.length ∧ ∀ t, prevAt p.es i = some t → termOk t = true) ?_ 0 ⟨by simp, fun t h => by cases h⟩ (by omega)
  rintro i ⟨hi, hprev⟩ k hk
  by_cases hlt : i < p.es.length
  · have hk' := hk (i + 1)
    have hnext : prevAt p.es (i + 1) = some p.es[i] := by simp [prevAt, hlt]
    rw [hnext] at hk'
    rw [drop_cons hlt]
    have hws := wrap_suc (show i < 9223372036854775807 by omega)
    by_cases hi0 : i = 0
    · have hz : ¬ (0 < i) := by omega
      have hp0 : prevAt p.es i = none := by rw [hi0]; rfl
      rw [hp0]
      cases h1 : termOk p.es[i]
      · simp -implicitDefEqProofs [l1_spec_poGood, hlt, L_poTerm, h1, polyGo]
      · by_cases h2 : p.es[i].c = 0
        · have hPT := L_poTerm (hand := hand) p.es[i]
          rw [h1] at hPT
          simp only [argT, sT, h2] at hPT
          simp -implicitDefEqProofs [l1_spec_poGood, hlt, hPT, h1, h2, polyGo]
        · have hgo := hk' ⟨by omega, fun t e => by injection e with e; rw [← e]; exact h1⟩ (by omega)
          simp -implicitDefEqProofs [l1_spec_poGood, hlt, L_poTerm, h1, h2, polyGo, hz, hws]
          exact hgo.trans (by simp)
    · have hz : 0 < i := by omega
      have hj : i - 1 < p.es.length := by omega
      have hp0 : prevAt p.es i = some p.es[i - 1] := by
        obtain ⟨j, rfl⟩ : ∃ j, i = j + 1 := ⟨i - 1, by omega⟩
        simp [prevAt, show j < p.es.length by omega]
      have hpj : termOk p.es[i - 1] = true := hprev _ hp0
      rw [hp0]
      have hw := wrap64 (n := (i : Int) - 1) (by omega) (by omega)
      have ht : ((i : Int) - 1).toNat = i - 1 := by omega
      have hb0 : (0 : Int) ≤ (i : Int) - 1 := by omega
      have hb1 : (i : Int) - 1 < (p.es.length : Int) := by omega
      have hb2 : (1 : Int) ≤ (i : Int) := by omega
      have hb3 : 1 ≤ i := by omega
      cases h1 : termOk p.es[i]
      · simp -implicitDefEqProofs [l1_spec_poGood, hlt, L_poTerm, h1, polyGo]
      · by_cases h2 : p.es[i].c = 0
        · have hPT := L_poTerm (hand := hand) p.es[i]
          rw [h1] at hPT
          simp only [argT, sT, h2] at hPT
          simp -implicitDefEqProofs [l1_spec_poGood, hlt, hPT, h1, h2, polyGo]
        · have hgo := hk' ⟨by omega, fun t e => by injection e with e; rw [← e]; exact h1⟩ (by omega)
          have hO := L_poOrder (hand := hand) p.es[i - 1] p.es[i] hpj h1
          by_cases h3 : cmp3 p.es[i - 1] p.es[i] < 0
          · have h3' : ¬ (0 ≤ cmp3 p.es[i - 1] p.es[i]) := by omega
            simp -implicitDefEqProofs [l1_spec_poGood, hlt, L_poTerm, h1, h2, polyGo, hO, hw, hz, hj, ht, hb0, hb1, hb2, hb3, h3, h3', hws]
            exact hgo
          · have h3' : 0 ≤ cmp3 p.es[i - 1] p.es[i] := by omega
            simp -implicitDefEqProofs [l1_spec_poGood, hlt, L_poTerm, h1, h2, polyGo, hO, hw, hz, hj, ht, hb0, hb1, hb2, hb3, h3, h3']
  · rw [drop_end hlt]
    have hg : polyGo (prevAt p.es i) [] = true := by cases prevAt p.es i <;> rfl
    have hc : ((p.es.length : Int) ≤ 20) = (p.es.length ≤ 20) := by rw [eq_iff_iff]; omega
    simp -implicitDefEqProofs [l1_spec_poGood, hlt, hg, hc]
end Go.Proofs.Ytkiklfcfdopplaa.T
namespace Go.Proofs.Ytkiklfcfdopplaa.T
open Go
variable {hand : Call}
set_option maxHeartbeats 2000000
attribute [-simp] List.getElem_cons_drop List.map_drop
def pow (t : TermV) (k : Nat) : Int := if k = 0 then t.x else if k = 1 then t.y else t.z
theorem L_poPower (t : TermV) (k : Nat) : L (prog hand) n_spec_poPower [argT t, argI k] = some (resI (pow t k)) := by
  refine L_body (b := b_spec_poPower) rfl rfl 0 ?_
  intro fuel _
  by_cases h0 : k = 0
  · simp -implicitDefEqProofs [b_spec_poPower, pow, h0]
  · by_cases h1 : k = 1
    · simp -implicitDefEqProofs [b_spec_poPower, pow, h1]
    · have h1' : ¬ ((k : Int) = 1) := by omega
      simp -implicitDefEqProofs [b_spec_poPower, pow, h0, h1, h1']
def degGo (k : Nat) : Int → List TermV → Int
  | m, [] => m
  | m, t :: r => degGo k (max m (pow t k)) r
theorem L_poDegreeIn (p : Poly) (k : Nat) : L (prog hand) n_spec_poDegreeIn [arg (cP p), argI k] = some (resI (degGo k (-1) p.es)) := by
  have hok := p.ok
  refine L_body (b := b_spec_poDegreeIn) rfl rfl p.es.length ?_
  intro fuel hfuel
  simp -implicitDefEqProofs [b_spec_poDegreeIn]
  refine K_loop (fun (s : Nat × Int) => ⟨asl [(1, .sv (.v (int k))), (5, .sv (.v (int s.2))), (8, .sv (.c (cP p))), (9, .sv (.v (int p.es.length))), (10, .sv (.v (int s.1)))], asl [], []⟩) (fun s => some (resI (degGo k s.2 (p.es.drop s.1)))) (fun s => p.es.length - s.1) (fun s => s.1 ≤ p.es.length) ?_ (0, -1) (by simp) (by simpa using hfuel)
  rintro ⟨i, m⟩ hi K hK
  simp only at hi
  by_cases hlt : i < p.es.length
  · rw [drop_cons hlt]
    simp -implicitDefEqProofs [l1_spec_poDegreeIn, hlt, L_poPower, L_l1Most, degGo, wrap_suc (show i < 9223372036854775807 by omega)]
    exact hK (i + 1, max m (pow p.es[i] k)) (by simp; omega) (by simp; omega)
  · rw [drop_end hlt]
    simp -implicitDefEqProofs [l1_spec_poDegreeIn, hlt, degGo]
def degOk (p : List TermV) (n : Nat) : Bool := allUp (fun k => !decide (0 < degGo k (-1) p)) n (3 - n)
def sysGo (n : Nat) : List (List TermV) → Bool
  | [] => true
  | p :: r => polyOk p && (degOk p n && sysGo n r)
def sysOk (s : List (List TermV)) : Bool := sysGo s.length s && inR s.length 1 3
theorem L_poSystem (s : Sys) : L (prog hand) n_spec_poSystem [arg (cS s)] = some (resB (sysOk (pS s))) := by
  have hok := s.ok
  have hlen : (pS s).length = s.es.length := by simp [pS]
  refine L_body (b := b_spec_poSystem) rfl rfl (s.es.length + 4) ?_
  intro fuel hfuel
  rw [sysOk, hlen]
  simp -implicitDefEqProofs [b_spec_poSystem]
  refine K_loop (fun (i : Nat) => ⟨asl [(0, .sv (.c (cS s))), (6, .sv (.c (cS s))), (7, .sv (.v (int s.es.length))), (8, .sv (.v (int i)))], asl [], []⟩) (fun i => some (resB (sysGo s.es.length ((pS s).drop i) && inR s.es.length 1 3))) (fun i => s.es.length - i) (fun i => i ≤ s.es.length) ?_ 0 (by simp) (by omega)
  intro i hi K hK
  by_cases hlt : i < s.es.length
  · have hd : (pS s).drop i = s.es[i].es :: (pS s).drop (i + 1) := by
      rw [drop_cons (by rw [hlen]; exact hlt)]
      simp [pS]
    rw [hd]
    cases h1 : polyOk s.es[i].es
    · simp -implicitDefEqProofs [l2_spec_poSystem, hlt, L_poGood, h1, sysGo]
    · simp -implicitDefEqProofs [l2_spec_poSystem, hlt, L_poGood, h1, sysGo]
      refine K_loop (fun (k : Nat) => ⟨asl [(0, .sv (.c (cS s))), (4, .sv (.c (cP s.es[i]))), (5, .sv (.v (int k))), (6, .sv (.c (cS s))), (7, .sv (.v (int s.es.length))), (8, .sv (.v (int i)))], asl [], []⟩) (fun k => some (resB (allUp (fun k => !decide (0 < degGo k (-1) s.es[i].es)) k (3 - k) && (sysGo s.es.length ((pS s).drop (i + 1)) && inR s.es.length 1 3)))) (fun k => 3 - k) (fun _ => True) ?_ s.es.length trivial (by omega) |> Eq.trans <| ?_
      · intro k _ K2 hK2
        by_cases hk : k < 3
        · have hk' : (k : Int) < 3 := by omega
          rw [allUp_step hk]
          by_cases h2 : 0 < degGo k (-1) s.es[i].es
          · simp -implicitDefEqProofs [l1_spec_poSystem, hk, hk', L_poDegreeIn, h2]
          · simp -implicitDefEqProofs [l1_spec_poSystem, hk, hk', L_poDegreeIn, h2, wrap_suc (show k < 9223372036854775807 by omega)]
            exact (hK2 (k + 1) trivial (by omega)).trans (by simp)
        · have hk' : ¬ ((k : Int) < 3) := by omega
          rw [allUp_end hk]
          simp -implicitDefEqProofs [l1_spec_poSystem, hk, hk', wrap_suc (show i < 9223372036854775807 by omega)]
          exact (hK (i + 1) (by omega) (by omega)).trans (by simp)
      · simp [degOk, Bool.and_assoc]
  · have hd : (pS s).drop i = [] := drop_end (by rw [hlen]; exact hlt)
    rw [hd]
    simp -implicitDefEqProofs [l2_spec_poSystem, hlt, sysGo, L_l1In]
theorem L_dyPower (k : Nat) (h : k ≤ 8) : L (prog hand) n_spec_dyPower [argI k] = some (resI (2 ^ k)) := by
  refine L_body (b := b_spec_dyPower) rfl rfl 0 ?_
  intro fuel _
  have h8 : k = 0 ∨ k = 1 ∨ k = 2 ∨ k = 3 ∨ k = 4 ∨ k = 5 ∨ k = 6 ∨ k = 7 ∨ k = 8 := by omega
  have hw : IntKind.u64.wrap (k : Int) = (k : Int) := by rcases h8 with rfl | rfl | rfl | rfl | rfl | rfl | rfl | rfl | rfl <;> decide
  have hp : IntKind.i64.wrap (2 ^ min k IntKind.i64.bits) = 2 ^ k := by rcases h8 with rfl | rfl | rfl | rfl | rfl | rfl | rfl | rfl | rfl <;> decide
  have hn : ¬ ((k : Int) < 0) := by omega
  simp -implicitDefEqProofs [b_spec_dyPower, hw, hn, hp]
theorem pow_le {k : Nat} (h : k ≤ 8) : 1 ≤ (2 : Int) ^ k ∧ (2 : Int) ^ k ≤ 256 := by
  have h8 : k = 0 ∨ k = 1 ∨ k = 2 ∨ k = 3 ∨ k = 4 ∨ k = 5 ∨ k = 6 ∨ k = 7 ∨ k = 8 := by omega
  rcases h8 with rfl | rfl | rfl | rfl | rfl | rfl | rfl | rfl | rfl <;> decide
def par (n : Int) : Bool := n.tmod 2 != 0
def sidesGo (most : Int) : Bool → List Int → List Int → Bool
  | odd, [], _ => odd
  | odd, _ :: _, [] => odd
  | odd, x :: xs, y :: ys => inR x (-most) most && (inR y (-most) most && (decide (x < y) && sidesGo most (odd || (par x || par y)) xs ys))
def boxOk (b : PBox) : Bool := inR b.k 0 8 && (inR b.low.length 1 3 && (decide (b.high.length = b.low.length) && sidesGo (8 * 2 ^ b.k.toNat) (decide (b.k = 0)) b.low b.high))
theorem L_bxGood (b : BoxV) : L (prog hand) n_spec_bxGood [argB b] = some (resB (boxOk (pB b))) := by
  have hok := b.low.ok
  refine L_body (b := b_spec_bxGood) rfl rfl b.low.es.length ?_
  intro fuel hfuel
  cases h1 : inR b.k 0 8
  · simp -implicitDefEqProofs [b_spec_bxGood, boxOk, pB, L_l1In, h1]
  cases h2 : inR b.low.es.length 1 3
  · simp -implicitDefEqProofs [b_spec_bxGood, boxOk, pB, L_l1In, h1, h2]
  by_cases h3 : ¬ (b.high.es.length = b.low.es.length)
  · simp -implicitDefEqProofs [b_spec_bxGood, boxOk, pB, L_l1In, h1, h2, h3]
  have h3 : b.high.es.length = b.low.es.length := Decidable.not_not.1 h3
  have hk := inR_true h1
  obtain ⟨n, hn⟩ : ∃ n : Nat, b.k = n := ⟨b.k.toNat, by omega⟩
  have hn8 : n ≤ 8 := by omega
  obtain ⟨p1, p2⟩ := pow_le hn8
  have hw := wrap64 (n := 8 * 2 ^ n) (by omega) (by omega)
  have hbo : boxOk (pB b) = sidesGo (8 * 2 ^ n) (decide (n = 0)) b.low.es b.high.es := by
    have h0 : ((n : Int) = 0) = (n = 0) := by rw [eq_iff_iff]; omega
    simp [boxOk, pB, h1, h2, h3, hn]
    rw [hn] at h1
    simp [h1]
  rw [hbo]
  rw [hn] at h1
  simp -implicitDefEqProofs [b_spec_bxGood, L_l1In, h1, h2, h3, hn, L_dyPower _ hn8, hw]
  obtain ⟨M, hM⟩ : ∃ M : Int, M = 8 * 2 ^ n := ⟨_, rfl⟩
  rw [← hM]
  rw [← hM] at hw
  have hz : ((n : Int) == 0) = decide (n = 0) := by rw [Bool.eq_iff_iff]; simp
  rw [hz]
  have m1 : 8 ≤ M := by omega
  have m2 : M ≤ 2048 := by omega
  clear hbo hM hw hz
  generalize decide (n = 0) = odd0
  rw [K_start (fr' := ⟨asl [(1, .sv (.pb 1000000 0)), (3, .sv (.v (int M))), (4, .sv (.v (.bool odd0))), (36, .sv (.c (cI b.low))), (37, .sv (.v (int b.low.es.length))), (38, .sv (.v (int (0 : Nat))))], asl [(1000000, .box [.c (.val (int n)), .c (cI b.low), .c (cI b.high)])], []⟩) (by simp)]
  refine K_loop (fun (s : Nat × Bool) => ⟨asl [(1, .sv (.pb 1000000 0)), (3, .sv (.v (int M))), (4, .sv (.v (.bool s.2))), (36, .sv (.c (cI b.low))), (37, .sv (.v (int b.low.es.length))), (38, .sv (.v (int s.1)))], asl [(1000000, .box [.c (.val (int n)), .c (cI b.low), .c (cI b.high)])], []⟩) (fun s => some (resB (sidesGo M s.2 (b.low.es.drop s.1) (b.high.es.drop s.1)))) (fun s => b.low.es.length - s.1) (fun s => s.1 ≤ b.low.es.length) ?_ (0, odd0) (by simp) (by simpa using hfuel)
  rintro ⟨i, odd⟩ hi K hK
  simp only at hi
  have hneg : IntKind.i64.wrap (-M) = -M := wrap64 (by omega) (by omega)
  by_cases hlt : i < b.low.es.length
  · have hlt2 : i < b.high.es.length := by omega
    have hws := wrap_suc (show i < 9223372036854775807 by omega)
    rw [drop_cons hlt, drop_cons hlt2]
    cases c1 : inR b.low.es[i] (-M) M
    · simp -implicitDefEqProofs [l1_spec_bxGood, hlt, hlt2, L_l1In, hneg, c1, sidesGo]
    cases c2 : inR b.high.es[i] (-M) M
    · simp -implicitDefEqProofs [l1_spec_bxGood, hlt, hlt2, L_l1In, hneg, c1, c2, sidesGo]
    by_cases c3 : ¬ (b.low.es[i] < b.high.es[i])
    · have c3' : b.high.es[i] ≤ b.low.es[i] := by omega
      simp -implicitDefEqProofs [l1_spec_bxGood, hlt, hlt2, L_l1In, hneg, c1, c2, c3, c3', sidesGo]
    have c3 : b.low.es[i] < b.high.es[i] := Decidable.not_not.1 c3
    have c3' : ¬ (b.high.es[i] ≤ b.low.es[i]) := by omega
    have hgo := hK (i + 1, odd || (par b.low.es[i] || par b.high.es[i])) (by simp; omega) (by simp; omega)
    rw [sidesGo, c1, c2]
    simp only [decide_eq_true c3, Bool.true_and]
    rw [← hgo]
    cases odd
    · cases q1 : par b.low.es[i]
      · cases q2 : par b.high.es[i]
        · simp only [par] at q1 q2
          simp -implicitDefEqProofs [l1_spec_bxGood, hlt, hlt2, L_l1In, hneg, c1, c2, c3, c3', hws, q1, q2]
        · simp only [par] at q1 q2
          simp -implicitDefEqProofs [l1_spec_bxGood, hlt, hlt2, L_l1In, hneg, c1, c2, c3, c3', hws, q1, q2]
      · simp only [par] at q1
        simp -implicitDefEqProofs [l1_spec_bxGood, hlt, hlt2, L_l1In, hneg, c1, c2, c3, c3', hws, q1]
    · simp -implicitDefEqProofs [l1_spec_bxGood, hlt, hlt2, L_l1In, hneg, c1, c2, c3, c3', hws]
  · have hlt2 : ¬ i < b.high.es.length := by omega
    rw [drop_end hlt, drop_end hlt2]
    simp -implicitDefEqProofs [l1_spec_bxGood, hlt, sidesGo]
end Go.Proofs.Ytkiklfcfdopplaa.T
namespace Go.Proofs.Ytkiklfcfdopplaa.T
open Go
variable {hand : Call}
set_option maxHeartbeats 2000000
attribute [-simp] List.getElem_cons_drop List.map_drop
structure QEntry where
  name : ByteArray
  system : List (List TermV)
  box : PBox
  least : Int
  most : Int
  version : Int
def qE (e : EntryV) : QEntry := ⟨e.name, pS e.system, pB e.box, e.least, e.most, e.version⟩
def bothOk (s : List (List TermV)) (b : PBox) : Bool := sysOk s && (boxOk b && decide (s.length = b.low.length))
def entryOk (e : QEntry) : Bool := nameOk e.name && (bothOk e.system e.box && (inR e.most 0 64 && (inR e.least 0 e.most && inR e.version 1 999)))
def lessN (a b : ByteArray) : Bool := Op.bytesLess a.toList b.toList
def catGo : Option ByteArray → List QEntry → Bool
  | _, [] => true
  | none, e :: r => entryOk e && catGo (some e.name) r
  | some n, e :: r => entryOk e && (lessN n e.name && catGo (some e.name) r)
def catOk (l : List QEntry) : Bool := catGo none l && decide (l.length ≤ 10)
def qL (l : Entries) : List QEntry := l.es.map qE
theorem L_vaBoth (s : Sys) (b : BoxV) : L (prog hand) n_spec_vaBoth [arg (cS s), argB b] = some (resB (bothOk (pS s) (pB b))) := by
  refine L_body (b := b_spec_vaBoth) rfl rfl 0 ?_
  intro fuel _
  have e1 : (pS s).length = s.es.length := by simp [pS]
  have e2 : (pB b).low.length = b.low.es.length := rfl
  rw [bothOk, e1, e2]
  cases h1 : sysOk (pS s)
  · simp -implicitDefEqProofs [b_spec_vaBoth, L_poSystem, h1]
  cases h2 : boxOk (pB b)
  · simp -implicitDefEqProofs [b_spec_vaBoth, L_poSystem, L_bxGood, h1, h2]
  simp -implicitDefEqProofs [b_spec_vaBoth, L_poSystem, L_bxGood, h1, h2]
  by_cases h3 : s.es.length = b.low.es.length <;> simp [h3]
theorem L_caEntry (e : EntryV) : L (prog hand) n_spec_caEntry [argE e] = some (resB (entryOk (qE e))) := by
  refine L_body (b := b_spec_caEntry) rfl rfl 0 ?_
  intro fuel _
  have e0 : entryOk (qE e) = (nameOk e.name && (bothOk (pS e.system) (pB e.box) && (inR e.most 0 64 && (inR e.least 0 e.most && inR e.version 1 999)))) := rfl
  rw [e0]
  cases h1 : nameOk e.name
  · simp -implicitDefEqProofs [b_spec_caEntry, L_caName _ e.nok, h1]
  cases h2 : bothOk (pS e.system) (pB e.box)
  · simp -implicitDefEqProofs [b_spec_caEntry, L_caName _ e.nok, L_vaBoth, h1, h2]
  cases h3 : inR e.most 0 64
  · simp -implicitDefEqProofs [b_spec_caEntry, L_caName _ e.nok, L_vaBoth, L_l1In, h1, h2, h3]
  cases h4 : inR e.least 0 e.most
  · simp -implicitDefEqProofs [b_spec_caEntry, L_caName _ e.nok, L_vaBoth, L_l1In, h1, h2, h3, h4]
  simp -implicitDefEqProofs [b_spec_caEntry, L_caName _ e.nok, L_vaBoth, L_l1In, h1, h2, h3, h4]
def nameAt (l : Entries) : Nat → Option ByteArray
  | 0 => none
  | i + 1 => (l.es[i]?).map (·.name)
theorem L_caGood (l : Entries) : L (prog hand) n_spec_caGood [arg (cE l)] = some (resB (catOk (qL l))) := by
  have hok := l.ok
  have hlen : (qL l).length = l.es.length := by simp [qL]
  refine L_body (b := b_spec_caGood) rfl rfl l.es.length ?_
  intro fuel hfuel
  rw [catOk, hlen]
  simp -implicitDefEqProofs [b_spec_caGood]
  refine K_loop (fun (i : Nat) => ⟨asl [(0, .sv (.c (cE l))), (5, .sv (.c (cE l))), (6, .sv (.v (int l.es.length))), (7, .sv (.v (int i)))], asl [], []⟩) (fun i => some (resB (catGo (nameAt l i) ((qL l).drop i) && decide (l.es.length ≤ 10)))) (fun i => l.es.length - i) (fun i => i ≤ l.es.length) ?_ 0 (by simp) (by omega)
  intro i hi k hk
  by_cases hlt : i < l.es.length
  · have hk' := hk (i + 1) (by omega) (by omega)
    have hnext : nameAt l (i + 1) = some l.es[i].name := by simp [nameAt, hlt]
    have hd : (qL l).drop i = qE l.es[i] :: (qL l).drop (i + 1) := by
      rw [drop_cons (by rw [hlen]; exact hlt)]
      simp [qL]
    rw [hnext] at hk'
    rw [hd]
    have hqn : (qE l.es[i]).name = l.es[i].name := rfl
    have hws := wrap_suc (show i < 9223372036854775807 by omega)
    by_cases hi0 : i = 0
    · have hz : ¬ (0 < i) := by omega
      have hp0 : nameAt l i = none := by rw [hi0]; rfl
      rw [hp0]
      cases h1 : entryOk (qE l.es[i])
      · simp -implicitDefEqProofs [l1_spec_caGood, hlt, L_caEntry, h1, catGo]
      · simp -implicitDefEqProofs [l1_spec_caGood, hlt, L_caEntry, h1, catGo, hz, hws]
        exact hk'
    · have hz : 0 < i := by omega
      have hj : i - 1 < l.es.length := by omega
      have hp0 : nameAt l i = some l.es[i - 1].name := by
        obtain ⟨j, rfl⟩ : ∃ j, i = j + 1 := ⟨i - 1, by omega⟩
        simp [nameAt, show j < l.es.length by omega]
      rw [hp0]
      have hw := wrap64 (n := (i : Int) - 1) (by omega) (by omega)
      have ht : ((i : Int) - 1).toNat = i - 1 := by omega
      have hb0 : (0 : Int) ≤ (i : Int) - 1 := by omega
      have hb1 : (i : Int) - 1 < (l.es.length : Int) := by omega
      have hb2 : (1 : Int) ≤ (i : Int) := by omega
      have hb3 : 1 ≤ i := by omega
      cases h1 : entryOk (qE l.es[i])
      · simp -implicitDefEqProofs [l1_spec_caGood, hlt, L_caEntry, h1, catGo]
      · cases h3 : lessN l.es[i - 1].name l.es[i].name
        · have h3' : Op.bytesLess l.es[i - 1].name.toList l.es[i].name.toList = false := h3
          simp -implicitDefEqProofs [l1_spec_caGood, hlt, L_caEntry, h1, catGo, hw, hz, hj, ht, hb0, hb1, hb2, hb3, hqn, h3, h3', hws]
        · have h3' : Op.bytesLess l.es[i - 1].name.toList l.es[i].name.toList = true := h3
          simp -implicitDefEqProofs [l1_spec_caGood, hlt, L_caEntry, h1, catGo, hw, hz, hj, ht, hb0, hb1, hb2, hb3, hqn, h3, h3', hws]
          exact hk'
  · have hd : (qL l).drop i = [] := drop_end (by rw [hlen]; exact hlt)
    rw [hd]
    have hg : catGo (nameAt l i) [] = true := by cases nameAt l i <;> rfl
    have hc : ((l.es.length : Int) ≤ 10) = (l.es.length ≤ 10) := by rw [eq_iff_iff]; omega
    simp -implicitDefEqProofs [l1_spec_caGood, hlt, hg, hc]
end Go.Proofs.Ytkiklfcfdopplaa.T
