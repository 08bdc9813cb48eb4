/- Rows of strings. The code fits the program. slices.Insert in memory. slices.Sort and slices.Compact of strings, as the abstract executor has them. slices.Sort and slices.Compact of strings: the contracts, laid at this program. -/
import Derived.Sort.EncStr
import Derived.Lib.SlicesCompact
import Derived.Laws.Strings
import GoSem.Core.Sem
import Derived.Test.YtecmolmlojehgaaGreatMI
import Derived.Test.YtecmolmlojehgaaGreatMB
import Derived.Test.YtecmolmlojehgaaGreatChecked
import Derived.KernelRfl
import Derived.WalkKit
import Derived.Shelf.RegionOpenPlain
import Derived.Lib.Walk
import Derived.Lib.AppendZerosOnto
import Derived.Lib.Overlaps
import Derived.Laws.Externs
import Derived.Laws.IdiomCopy
import Derived.Laws.NewBlocks
import Derived.Sort.OwnSorted
import Derived.Shelf.Sort.Plain
import Derived.Shelf.Slices.CompactS
import Derived.Shelf.Slices.In.SortNone
import Derived.Test.YtecmolmlojehgaaGreatProg
namespace Go.Proofs.YtecmolmlojehgaaGreat.T
open Go
abbrev eStr (l : List UInt8) : List Value := [encStr l]
abbrev le8 (x y : List UInt8) : Bool := decide (x ≤ y)
def sortL (ss : List (List UInt8)) : List (List UInt8) := ss.mergeSort le8
theorem sortL_length (ss : List (List UInt8)) : (sortL ss).length = ss.length := by simp [sortL]
def strs : List (List Value) → Option (List (List UInt8))
  | [] => some []
  | [.string s] :: es => (strs es).map (s.toList :: ·)
  | _ :: _ => none
theorem toList_data (s : ByteArray) : s.toList = s.data.toList := by
  exact Go.ByteArray.toList_eq s
theorem strs_some : ∀ {es : List (List Value)} {ss : List (List UInt8)}, strs es = some ss → es = ss.map eStr
  | [], ss, h => by injection h with h; subst h; rfl
  | [.string s] :: es, ss, h => by
    simp only [strs, Option.map_eq_some_iff] at h
    obtain ⟨ts, h1, rfl⟩ := h
    rw [strs_some h1, List.map_cons, toList_data]
  | [] :: es, ss, h => by simp [strs] at h
  | (_ :: _ :: _) :: es, ss, h => by simp [strs] at h
  | [.bool _] :: es, ss, h => by simp [strs] at h
theorem strs_map : ∀ ss : List (List UInt8), strs (ss.map eStr) = some ss
  | [] => rfl
  | l :: ss => by
    show (strs (ss.map eStr)).map ((⟨l.toArray⟩ : ByteArray).toList :: ·) = _
    rw [strs_map ss, toList_data]; rfl
end Go.Proofs.YtecmolmlojehgaaGreat.T
namespace Go.Proofs.YtecmolmlojehgaaGreat.T
open Go
theorem ok_all : tabL.all (fun x => match Go.Proofs.Tryz.prog.funcs[ids x.1]? with | some fn => fnOk ids Go.Proofs.Tryz.prog fn x.2 | none => false) = true := by kernel_rfl
theorem tab_ok (i : Nat) (pf : PFunc) (h : tab i = some pf) : ∃ fn, Go.Proofs.Tryz.prog.funcs[ids i]? = some fn ∧ fnOk ids Go.Proofs.Tryz.prog fn pf = true := by
  have key : ∀ (l : List (Nat × PFunc)) (j : Nat), l.lookup j = some pf → (j, pf) ∈ l := by
    intro l
    induction l with
    | nil => intro j h; cases h
    | cons x l ih =>
      intro j h
      obtain ⟨k, q⟩ := x
      rw [List.lookup_cons] at h
      split at h
      · rename_i e
        have e := eq_of_beq e
        subst e
        injection h with h
        subst h
        exact List.mem_cons_self
      · exact List.mem_cons_of_mem _ (ih j h)
  have := List.all_eq_true.1 ok_all (i, pf) (key tabL i h)
  simp only at this
  split at this
  · rename_i fn hf
    exact ⟨fn, hf, this⟩
  · cases this
end Go.Proofs.YtecmolmlojehgaaGreat.T
set_option linter.unusedVariables false
set_option linter.unusedSimpArgs false
namespace Go.Proofs.YtecmolmlojehgaaGreat.T
open Go Go.RowKit Go.Lib
variable {P : Program}
theorem wp_copy_runI (w : World) {o : Oper} {a : Act} {K : Act → World → Prop} {Q : Exit → Act → World → Prop} (d s : Operand) (t t' : TypeId)
    (ho : o.op = .call { callee := .builtin .copy, args := #[d, s], argTypes := #[t, t'] }) (v u : Value) (hd : a.eval d = v) (hs : a.eval s = u) {v' : Value} {w' : World}
    (hr : (Builtin.copy_ #[t, t'] o.type #[v, u]).run P w = .ok v' w') (h : K (a.put o.dst v') w') : o.wp P a w K Q := by
  unfold Oper.wp execOp
  simp only [ho, resolve, invoke, builtin, Sem.run_bind, Sem.run_pure, Result.andThen_ok, List.map_toArray, List.map_cons, List.map_nil, hd, hs, hr]
  exact h
theorem wpList_copy_runI (w : World) {ops : Array Oper} {rest : List Oper} {o : Oper} {a : Act} {Q : Exit → Act → World → Prop} (hgd : o.guard = none) (d s : Operand) (t t' : TypeId)
    (ho : o.op = .call { callee := .builtin .copy, args := #[d, s], argTypes := #[t, t'] }) (v u : Value) (hd : a.eval d = v) (hs : a.eval s = u) {v' : Value} {w' : World}
    (hr : (Builtin.copy_ #[t, t'] o.type #[v, u]).run P w = .ok v' w') (h : wpList P ops Q rest (a.put o.dst v') w') : wpList P ops Q (o :: rest) a w :=
  wpList_plain hgd fun _ hK => wp_copy_runI w d s t t' ho v u hd hs hr (hK _ _ h)
theorem step_copy_runI {ops : Array Oper} {o : Oper} {a : Act} {w : World} {K : Act → World → Prop} {Q : Exit → Act → World → Prop} {E : Prop}
    (hg : o.guard = none) (d x : Operand) (dT sT : TypeId) (hop : o.op = Op.call { callee := Callee.builtin Builtin.copy, args := #[d, x], argTypes := #[dT, sT] })
    (v u : Value) (hd : a.eval d = v) (hx : a.eval x = u) {v' : Value} {w' : World} (hr : (Builtin.copy_ #[dT, sT] o.type #[v, u]).run P w = .ok v' w') (hK : K (a.put o.dst v') w') :
    if Region.wanted o (yielded ops a.tmps) = true then Oper.wp P o a w K Q else E := by
  have hw : Region.wanted o (yielded ops a.tmps) = true := by simp [Region.wanted, hg]
  rw [if_pos hw]
  unfold Oper.wp
  simp [execOp, hop, resolve, invoke, builtin, hd, hx, hr, Result.andThen]
  exact hK
theorem drew_setCells (b : Nat) : ∀ (vs : List Value) (o : Nat) (w : World), (w.setCells b o vs).drew = w.drew.setCells b o vs
  | [], _, _ => rfl
  | v :: r, o, w => by rw [World.setCells, World.setCells, drew_setCells b r]; rfl
theorem isSome_setCells (b : Nat) (vs : List Value) (o : Nat) (w : World) (h : ∀ j, j < vs.length → (w.cell? ⟨b, o + j, none⟩).isSome = true) (k : Nat) (hk : (w.cell? ⟨b, k, none⟩).isSome = true) : ((w.setCells b o vs).cell? ⟨b, k, none⟩).isSome = true := by
  by_cases hin : o ≤ k ∧ k < o + vs.length
  · have := World.cell?_setCells_in b vs o w h (k - o) (by omega)
    rw [show o + (k - o) = k by omega] at this
    rw [this]; rfl
  · rw [World.cell?_setCells_out b vs o w ⟨b, k, none⟩ (fun _ _ => by show k < o ∨ o + vs.length ≤ k; omega)]
    exact hk
/-- copy, of elements of any size. -/
theorem run_copy_sz (w : World) (dT sT ty elem : TypeId) (sz b o dLen dCap : Nat) (a : Addr) (sLen sCap : Nat) (cs : List Value)
    (hu : P.underlying dT = some (.slice elem)) (hs : (P.info? elem).map (·.size) = some sz) (hsz : 0 < sz) (hn : cs.length = Nat.min sLen dLen * sz)
    (hsrc : ∀ j v, cs[j]? = some v → w.cell? (a.add j) = some v) (hc : ∀ j, j < cs.length → (w.cell? ⟨b, o + j, none⟩).isSome = true) (hf : ∀ j, j < cs.length → w.frozen? ⟨b, o + j, none⟩ = false) (h1 : ∀ v ∈ cs, v.oneCell' = true) :
    (Builtin.copy_ #[dT, sT] ty #[.slice (some ⟨b, o, none⟩) dLen dCap, .slice (some a) sLen sCap]).run P w = .ok (goInt (Nat.min sLen dLen)) (w.setCells b o cs) := by
  have hl := run_loadCells_list (P := P) w a cs hsrc
  have hst := run_storeCells_cells (P := P) b o cs 0 w (by simpa using hc) (by simpa using hf) h1
  cases hq : P.info? elem with
  | none => simp [hq] at hs
  | some i =>
    have hi : i.size = sz := by simpa [hq] using hs
    simp [Builtin.copy_, run_underlying hu, Builtin.lenOf, Builtin.firstCells, sizeOf, typeInfo, hq, hi, ← hn, hl, hst]
open Go.Proofs in
set_option maxHeartbeats 4000000 in
set_option maxRecDepth 100000 in
theorem ins_shift (b n c i vb vc : Nat) (cs vs : List Value) (w : World) (hi : i < n) (hroom : n + 1 ≤ c) (hc63 : c ≤ 9223372036854775807) (hvb : vb ≠ b)
    (hcl : cs.length = n * 8) (hvl : vs.length = 8)
    (hcs : ∀ j v, cs[j]? = some v → w.cell? ⟨b, j, none⟩ = some v) (hsp : ∀ j, j < (n + 1) * 8 → (w.cell? ⟨b, j, none⟩).isSome = true) (hfz : ∀ j, w.frozen? ⟨b, j, none⟩ = false)
    (hvs : ∀ j v, vs[j]? = some v → w.cell? ⟨vb, j, none⟩ = some v) (h1c : ∀ v ∈ cs, v.oneCell' = true) (h1v : ∀ v ∈ vs, v.oneCell' = true)
    (tA tB : TypeId) (kA kB : Nat) (hsa : w.shape? vb = some (tA, kA)) (hsb : w.shape? b = some (tB, kB)) (hkB : kB ≠ 0) (hfa : w.frozen? ⟨vb, 0, none⟩ = false) (hfe : w.frozen? ⟨vb, kA, none⟩ = false) :
    Calls Tryz.prog 57 #[.slice (some ⟨b, 0, none⟩) n c, .int .i64 i, .slice (some ⟨vb, 0, none⟩) 1 vc] w fun e w' =>
      e = .returned (.slice (some ⟨b, 0, none⟩) (n + 1) c) ∧ w' = (w.drew.setCells b ((i + 1) * 8) (cs.drop (i * 8))).setCells b (i * 8) vs := by
  have mixed : Tryz.prog.follows .mixedOrders = true := by kernel_rfl
  have hz2 : ¬ ((i : Int) = (n : Int)) := by omega
  have hsz : (Tryz.prog.info? 39).map (·.size) = some 8 := by kernel_rfl
  have ht : Tryz.prog.underlying 23 = some (.slice 39) := by kernel_rfl
  have hov : ∀ lb cb, (callFunc 111 #[.slice (some ⟨vb, 0, none⟩) 1 vc, .slice (some ⟨b, (i + 1) * 8, none⟩) lb cb]).run Tryz.prog w = .ok (.value (.bool false)) w := fun lb cb => by
    rw [run_callFunc_extern Tryz.func111 (by kernel_rfl) (by kernel_rfl) (by kernel_rfl) (e := Extern.SlicesOverlaps.overlaps #[23, 23] #[4]) (by kernel_rfl),
      Lib.run_overlaps_apart w 23 4 39 ht 8 (fun w => by kernel_rfl) ⟨vb, 0, none⟩ ⟨b, (i + 1) * 8, none⟩ 1 vc lb cb hvb tA tB kA kB hsa hsb hkB hfa hfe]
    rfl
  have hw1 : IntKind.i64.wrap ((i : Int) + 1) = (i : Int) + 1 := by rw [IntKind.wrap_i64]; omega
  have hw2 : IntKind.i64.wrap ((n : Int) + 1) = (n : Int) + 1 := by rw [IntKind.wrap_i64]; omega
  have hb1 : (0 : Int) ≤ (i : Int) + 1 := by omega
  have htn : ((i : Int) + 1).toNat = i + 1 := by omega
  have hin : i ≤ n := by omega
  have hb2 : ¬ (c = i + 1) := by omega
  have hb3 : (i : Int) ≤ (n : Int) + 1 := by omega
  have hb4 : ¬ (c = i) := by omega
  have hb5 : (i : Int) ≤ (n : Int) := by omega
  have hb6 : i ≤ n + 1 := by omega
  have hdl : (cs.drop (i * 8)).length = (n - i) * 8 := by rw [List.length_drop, hcl]; omega
  have hcp1 : ∀ ty dc sc, (Builtin.copy_ #[23, 23] ty #[.slice (some ⟨b, (i + 1) * 8, none⟩) (n - i) dc, .slice (some ⟨b, i * 8, none⟩) (n + 1 - i) sc]).run Tryz.prog w.drew = .ok (goInt (Nat.min (n + 1 - i) (n - i))) (w.drew.setCells b ((i + 1) * 8) (cs.drop (i * 8))) := fun ty dc sc =>
    run_copy_sz w.drew _ _ ty 39 8 b ((i + 1) * 8) (n - i) dc ⟨b, i * 8, none⟩ (n + 1 - i) sc (cs.drop (i * 8)) ht hsz (by decide) (by rw [hdl]; simp only [Nat.min_def]; split <;> omega)
      (fun j v hj => by rw [Addr.add_lit]; exact hcs (i * 8 + j) v (by rwa [List.getElem?_drop] at hj))
      (fun j hj => hsp _ (by omega)) (fun j hj => hfz _) (fun v hv => h1c v (List.mem_of_mem_drop hv))
  obtain ⟨W1, hW1⟩ : ∃ W1, W1 = w.drew.setCells b ((i + 1) * 8) (cs.drop (i * 8)) := ⟨_, rfl⟩
  have hsp1 : ∀ k, k < (n + 1) * 8 → (W1.cell? ⟨b, k, none⟩).isSome = true := fun k hk => by
    rw [hW1]
    exact isSome_setCells b (cs.drop (i * 8)) ((i + 1) * 8) w.drew (fun j hj => hsp _ (by rw [hdl] at hj; omega)) k (hsp k hk)
  have hcp2 : ∀ (W : World), (∀ x, W.cell? x = W1.cell? x) → (∀ x, W.frozen? x = W1.frozen? x) → ∀ ty dc, (Builtin.copy_ #[23, 23] ty #[.slice (some ⟨b, i * 8, none⟩) (n + 1 - i) dc, .slice (some ⟨vb, 0, none⟩) 1 vc]).run Tryz.prog W = .ok (goInt (Nat.min 1 (n + 1 - i))) (W.setCells b (i * 8) vs) := fun W hWc hWf ty dc =>
    run_copy_sz W _ _ ty 39 8 b (i * 8) (n + 1 - i) dc ⟨vb, 0, none⟩ 1 vc vs ht hsz (by decide) (by rw [hvl]; simp only [Nat.min_def]; split <;> omega)
      (fun j v hj => by
        rw [Addr.add_lit, Nat.zero_add, hWc, hW1, World.cell?_setCells_out b _ _ _ _ (fun h _ => absurd h hvb)]
        exact hvs j v hj)
      (fun j hj => by rw [hWc]; exact hsp1 _ (by omega)) (fun j hj => by rw [hWf, hW1, World.frozen?_setCells]; exact hfz _) h1v
  rw [← hW1] at hcp1
  go_enter Tryz.func57, Tryz.ntmps57
  go_wp2_with (simp only [hov])
  go_region_law_o (refine step_copy_runI rfl _ _ 23 23 rfl _ _ (by simp [Act.eval, Act.put]) (by simp [Act.eval, Act.put]) (hcp1 _ _ _) ?_)
  go_wp2_with (at_builtin; refine wpList_copy_runI _ rfl _ _ 23 23 rfl _ _ rfl rfl (hcp2 _ (fun _ => rfl) (fun _ => rfl) _ _) ?_)
  go_ret
  first | exact ⟨rfl, rfl⟩ | exact ⟨rfl, by rw [hW1]⟩
open Go.Proofs in
set_option maxHeartbeats 4000000 in
set_option maxRecDepth 100000 in
theorem ins_grow (b n c i vb vc : Nat) (cs vs : List Value) (w : World) (hi : i < n) (hnc : n ≤ c) (hroom : c < n + 1) (hbig : (n + 1) * 120 ≤ 140737488355328)
    (hcl : cs.length = n * 8) (hvl : vs.length = 8)
    (hcs : ∀ j v, cs[j]? = some v → w.cell? ⟨b, j, none⟩ = some v) (hbw : b < w.heap.size) (hvw : vb < w.heap.size)
    (hvs : ∀ j v, vs[j]? = some v → w.cell? ⟨vb, j, none⟩ = some v) (h1c : ∀ v ∈ cs, v.oneCell' = true) (h1v : ∀ v ∈ vs, v.oneCell' = true) (z : Value) (i0 : TypeInfo) (hi0 : Tryz.prog.info? 39 = some i0) (hz0 : i0.zero = some z) (hzb : i0.bytes = 120) (hzc : z.cells.size = 8) :
    Calls Tryz.prog 57 #[.slice (some ⟨b, 0, none⟩) n c, .int .i64 i, .slice (some ⟨vb, 0, none⟩) 1 vc] w fun e w' =>
      e = .returned (.slice (some ⟨w.heap.size, 0, none⟩) (n + 1) (grownCap w (n + 1) c 39)) ∧
      w' = (((w.alloc (.cells ((cs.take (i * 8)).toArray ++ Builtin.zeroCells z.cells (n + 1 - i) ++ Builtin.zeroCells z.cells (grownCap w (n + 1) c 39 - (n + 1))) 39)).drew.setCells w.heap.size (i * 8) vs).drew).setCells w.heap.size ((i + 1) * 8) (cs.drop (i * 8)) := by
  have mixed : Tryz.prog.follows .mixedOrders = true := by kernel_rfl
  have hz2 : ¬ ((i : Int) = (n : Int)) := by omega
  have hz3 : (c : Int) < (n : Int) + 1 := by omega
  have hsz : (Tryz.prog.info? 39).map (·.size) = some 8 := by kernel_rfl
  have hzs : i0.size = 8 := by rw [hi0] at hsz; simpa using hsz
  have ht : Tryz.prog.underlying 23 = some (.slice 39) := by kernel_rfl
  have ht3 : Tryz.prog.underlying 3 = some (.int .i64) := by kernel_rfl
  have hkk : (n : Int) + 1 - (i : Int) = ((n + 1 - i : Nat) : Int) := by omega
  have hik : i + (n + 1 - i) = n + 1 := by omega
  have hold : (Builtin.firstCells i0.size i (.slice (some ⟨b, 0, none⟩) i c)).run Tryz.prog w.drew = .ok (cs.take (i * 8)).toArray w.drew := by
    rw [hzs]
    exact run_firstCells_some w.drew 8 i ⟨b, 0, none⟩ i c (cs.take (i * 8)) (by rw [List.length_take]; omega) (fun j v hj => by
      rw [Addr.add_lit, Nat.zero_add]
      rw [List.getElem?_take] at hj
      split at hj
      · exact hcs j v hj
      · cases hj)
  have hrz : ∀ ty, (Builtin.append_ #[23, 3] ty #[.slice (some ⟨b, 0, none⟩) i c, .int .i64 ((n : Int) + 1 - (i : Int))]).run Tryz.prog w =
      .ok (.slice (some ⟨w.heap.size, 0, none⟩) (n + 1) (grownCap w (n + 1) c 39)) (w.drew.alloc (.cells ((cs.take (i * 8)).toArray ++ Builtin.zeroCells z.cells (n + 1 - i) ++ Builtin.zeroCells z.cells (grownCap w (n + 1) c 39 - (n + 1))) 39)) := fun ty => by
    have h := Lib.run_append_grow_zeros w 23 3 ty 39 i0 _ .i64 .i64 ht ht3 hi0 hz0 (some ⟨b, 0, none⟩) i c (cs.take (i * 8)) hold (n + 1 - i) (by omega) (by omega) (by omega) (by omega) (by rw [hzb]; omega) (by rw [hzb, hik]; exact growslice_fits hroom hbig)
    rw [hik] at h
    rw [hkk]
    exact h
  obtain ⟨G, hG⟩ : ∃ G, G = grownCap w (n + 1) c 39 := ⟨_, rfl⟩
  obtain ⟨ROW, hROW⟩ : ∃ ROW : Array Value, ROW = (cs.take (i * 8)).toArray ++ Builtin.zeroCells z.cells (n + 1 - i) ++ Builtin.zeroCells z.cells (G - (n + 1)) := ⟨_, rfl⟩
  rw [← hG] at hrz ⊢
  rw [← hROW] at hrz ⊢
  have hRl : (n + 1) * 8 ≤ ROW.size := by
    rw [hROW]
    simp only [Array.size_append, List.size_toArray, List.length_take, size_zeroCells, hzc]
    omega
  obtain ⟨W1, hW1⟩ : ∃ W1, W1 = w.drew.alloc (.cells ROW 39) := ⟨_, rfl⟩
  rw [← hW1] at hrz
  have hN : ∀ j, j < (n + 1) * 8 → (W1.cell? ⟨w.heap.size, j, none⟩).isSome = true := fun j hj => by
    rw [hW1, World.cell?_alloc_at (w := w.drew) ROW _ w.heap.size j rfl, Array.getElem?_eq_getElem (by omega)]; rfl
  have hNf : ∀ j, W1.frozen? ⟨w.heap.size, j, none⟩ = false := fun j => by rw [hW1]; exact World.frozen?_alloc_at (w := w.drew) ROW _ w.heap.size j rfl
  have hOb : ∀ j v, w.cell? ⟨b, j, none⟩ = some v → W1.cell? ⟨b, j, none⟩ = some v := fun j v h => by rw [hW1, World.cell?_alloc_past (w := w.drew) _ b j hbw]; exact h
  have hOv : ∀ j v, w.cell? ⟨vb, j, none⟩ = some v → W1.cell? ⟨vb, j, none⟩ = some v := fun j v h => by rw [hW1, World.cell?_alloc_past (w := w.drew) _ vb j hvw]; exact h
  have hcpA : ∀ (W : World), (∀ x, W.cell? x = W1.cell? x) → (∀ x, W.frozen? x = W1.frozen? x) → ∀ ty dc, (Builtin.copy_ #[23, 23] ty #[.slice (some ⟨w.heap.size, i * 8, none⟩) (n + 1 - i) dc, .slice (some ⟨vb, 0, none⟩) 1 vc]).run Tryz.prog W = .ok (goInt (Nat.min 1 (n + 1 - i))) (W.setCells w.heap.size (i * 8) vs) := fun W hWc hWf ty dc =>
    run_copy_sz W _ _ ty 39 8 w.heap.size (i * 8) (n + 1 - i) dc ⟨vb, 0, none⟩ 1 vc vs ht hsz (by decide) (by rw [hvl]; simp only [Nat.min_def]; split <;> omega)
      (fun j v hj => by rw [Addr.add_lit, Nat.zero_add, hWc]; exact hOv _ v (hvs j v hj))
      (fun j hj => by rw [hWc]; exact hN _ (by omega)) (fun j hj => by rw [hWf]; exact hNf _) h1v
  have hGn : n + 1 ≤ G := by rw [hG]; exact grownCap_ge w _ _ _
  have hG63 : G ≤ 9223372036854775807 := by
    have := grownCap_le_maxLen w (n + 1) c 39 (by unfold maxLen; omega)
    rw [← hG] at this
    unfold maxLen at this
    omega
  have hbN : b ≠ w.heap.size := by omega
  have hdl : (cs.drop (i * 8)).length = (n - i) * 8 := by rw [List.length_drop, hcl]; omega
  have hcpB : ∀ (W : World), (∀ x, W.cell? x = (W1.setCells w.heap.size (i * 8) vs).cell? x) → (∀ x, W.frozen? x = (W1.setCells w.heap.size (i * 8) vs).frozen? x) → ∀ ty dc sc, (Builtin.copy_ #[23, 23] ty #[.slice (some ⟨w.heap.size, (i + 1) * 8, none⟩) (n - i) dc, .slice (some ⟨b, i * 8, none⟩) (n - i) sc]).run Tryz.prog W = .ok (goInt (Nat.min (n - i) (n - i))) (W.setCells w.heap.size ((i + 1) * 8) (cs.drop (i * 8))) := fun W hWc hWf ty dc sc =>
    run_copy_sz W _ _ ty 39 8 w.heap.size ((i + 1) * 8) (n - i) dc ⟨b, i * 8, none⟩ (n - i) sc (cs.drop (i * 8)) ht hsz (by decide) (by rw [hdl]; simp only [Nat.min_def]; split <;> omega)
      (fun j v hj => by
        rw [Addr.add_lit, hWc, World.cell?_setCells_out _ _ _ _ _ (fun h _ => absurd h hbN)]
        exact hOb _ v (hcs (i * 8 + j) v (by rwa [List.getElem?_drop] at hj)))
      (fun j hj => by rw [hWc]; exact isSome_setCells _ _ _ _ (fun t ht => hN _ (by omega)) _ (hN _ (by omega)))
      (fun j hj => by rw [hWf, World.frozen?_setCells]; exact hNf _) (fun v hv => h1c v (List.mem_of_mem_drop hv))
  subst hW1
  have hE1 : ∀ x, ((w.alloc (.cells ROW 39)).drew).cell? x = (w.drew.alloc (.cells ROW 39)).cell? x := fun x => rfl
  have hE2 : ∀ x, ((w.alloc (.cells ROW 39)).drew).frozen? x = (w.drew.alloc (.cells ROW 39)).frozen? x := fun x => rfl
  have hF1 : ∀ x, (((w.alloc (.cells ROW 39)).drew.setCells w.heap.size (i * 8) vs).drew).cell? x = ((w.drew.alloc (.cells ROW 39)).setCells w.heap.size (i * 8) vs).cell? x := fun x => rfl
  have hF2 : ∀ x, (((w.alloc (.cells ROW 39)).drew.setCells w.heap.size (i * 8) vs).drew).frozen? x = ((w.drew.alloc (.cells ROW 39)).setCells w.heap.size (i * 8) vs).frozen? x := fun x => rfl
  have hw1 : IntKind.i64.wrap ((i : Int) + 1) = (i : Int) + 1 := by rw [IntKind.wrap_i64]; omega
  have hw2 : IntKind.i64.wrap ((n : Int) + 1) = (n : Int) + 1 := by rw [IntKind.wrap_i64]; omega
  have hb1 : (0 : Int) ≤ (i : Int) + 1 := by omega
  have hin : i ≤ n := by omega
  have hGi : ¬ (G = i) := by omega
  have hGim : ¬ (G = i + 1) := by omega
  have hci : ¬ (c = i) := by omega
  have htn : ((i : Int) + 1).toNat = i + 1 := by omega
  have hb3 : (i : Int) ≤ (n : Int) := by omega
  clear hkk hik hold hROW hG hRl
  go_enter Tryz.func57, Tryz.ntmps57
  go_wp2_with (first
    | (at_builtin; refine Lib.wpList_append_run _ rfl _ _ _ _ rfl _ _ rfl rfl _ _ (hrz _) ?_)
    | (at_builtin; refine wpList_copy_runI _ rfl _ _ 23 23 rfl _ _ rfl rfl (hcpA _ hE1 hE2 _ _) ?_)
    | (at_builtin; refine wpList_copy_runI _ rfl _ _ 23 23 rfl _ _ rfl rfl (hcpB _ (fun _ => rfl) (fun _ => rfl) _ _ _) ?_))
  go_region_law_o (refine step_copy_runI rfl _ _ 23 23 rfl (.slice (some ⟨w.heap.size, (i + 1) * 8, none⟩) (n - i) (G - (i + 1))) (.slice (some ⟨b, i * 8, none⟩) (n - i) (c - i)) (by simp [Act.eval, Act.put]) (by simp [Act.eval, Act.put]) (hcpB _ hF1 hF2 3 (G - (i + 1)) (c - i)) ?_)
  go_wp2
  go_ret
  exact ⟨rfl, rfl⟩
open Go.Proofs in
set_option maxHeartbeats 4000000 in
set_option maxRecDepth 100000 in
/-- At the end. -/
theorem ins_end (s : Option Addr) (n c vb vc : Nat) (w w' : World) (v' : Value) (hr : ∀ ty, (Builtin.append_ #[23, 23] ty #[.slice s n c, .slice (some ⟨vb, 0, none⟩) 1 vc]).run Tryz.prog w = .ok v' w') (hn : n ≤ c) (hc63 : c ≤ 9223372036854775807) (hs : s = none → c = 0) :
    Calls Tryz.prog 57 #[.slice s n c, .int .i64 n, .slice (some ⟨vb, 0, none⟩) 1 vc] w fun e w1 => e = .returned v' ∧ w1 = w' := by
  have mixed : Tryz.prog.follows .mixedOrders = true := by kernel_rfl
  go_enter Tryz.func57, Tryz.ntmps57
  go_wp2_with (at_builtin; refine Lib.wpList_append_run _ rfl _ _ _ _ rfl _ _ rfl rfl _ _ (hr _) ?_)
  all_goals (go_ret; exact ⟨rfl, rfl⟩)
end Go.Proofs.YtecmolmlojehgaaGreat.T
namespace Go.Proofs.YtecmolmlojehgaaGreat.T
open Go Go.Sort Go.RowKit Go.Proofs
section
variable {ids : Nat → FuncId} {P : Program} {f : FuncId} {fn : Func}
/-- What an owned row of strings says of memory. -/
theorem rowS_open {ss : List (List UInt8)} {w : World} {home : Home} {hd : Lb → Value} {v : Value} (hrel : RtR w home hd (initFr [.arr true (.fl 1 (ss.map eStr) []) ss.length]).rt F0)
    (hv : SVR w home hd (initFr [.arr true (.fl 1 (ss.map eStr) []) ss.length]).rt (.ref 0 [] 0 ss.length) v) :
    ∃ a cap, v = .slice a ss.length cap ∧ ss.length ≤ cap ∧ cap ≤ maxLen ∧ (∃ a' m, hd (.r 0) = .slice a' m cap ∧ (0 < cap → a' = a)) ∧ (0 < cap → ∃ b cur e, a = some ⟨b, 0, none⟩ ∧ home b = some (.r 0, []) ∧ w.heap[b]? = some (.cells cur e (0, 0)) ∧ cur.size = cap ∧ cur.toList.take ss.length = ss.map encStr) := by
  have h0 := hrel.root (.r 0) (.arr true false (.fl 1 (ss.map eStr) [])) rfl
  have h0 : CR w home (.own (.r 0) []) (.fl 1 (ss.map eStr) []) (hd (.r 0)) := h0
  obtain ⟨_, hp⟩ := hv
  have hp := hp true false (.fl 1 (ss.map eStr) []) rfl (Or.inl rfl) (.fl 1 (ss.map eStr) []) (hd (.r 0)) rfl rfl 1 (ss.map eStr).length ((ss.map eStr).length + 0) rfl
  obtain ⟨a, m, cap, a', hu, hle, hvv, haa⟩ := hp
  cases h0 with
  | fl he hh =>
    obtain ⟨_, _, a1, cap1, hu1, htot, hcap, hm⟩ := hh
    rw [hu] at hu1
    injection hu1 with e1 e2 e3
    subst e1 e2 e3
    simp only [Nat.zero_add] at hle
    refine ⟨a', cap, by simpa using hvv, hle, hcap, ⟨a, _, hu, fun h => ?_⟩, fun h => ?_⟩
    · have := haa h
      rw [this]; cases a <;> simp [Addr.add]
    · have ha := haa h
      simp only [Tg.lab] at hm
      rcases hm with hm | ⟨b, cur, e, ha1, hb, hg, hs, hc⟩
      · omega
      · refine ⟨b, cur, e, by rw [ha, ha1]; simp [Addr.add], hb, hg, by omega, ?_⟩
        apply List.ext_getElem?
        intro j
        by_cases hj : j < ss.length
        · rw [List.getElem?_take_of_lt hj, Array.getElem?_toList]
          have := hc j 0 (by simp; omega) (by omega)
          simp only [Nat.mul_one, Nat.add_zero] at this
          rw [this]
          simp [hj]
        · rw [List.getElem?_take_eq_none (by omega), List.getElem?_eq_none (by simp; omega)]
theorem runs_of (hf : P.funcs[f]? = some fn) (hname : (fn.name == "runtime.NumGoroutine") = false) (hb : fn.body.isNone = false) {vs : Array Value} {w : World} {R : Value → World → Prop} (h : Calls P f vs w (fun e w' => ∃ v, e = .returned v ∧ R v w')) : Runs P f vs w R := by
  refine Or.inl ⟨?_, h⟩
  unfold callFunc
  simp only [Sem.run_bind, run_program, Result.andThen_ok, hf, hname, hb, Bool.false_eq_true, if_false, Sem.run_pure]
theorem rowS_new {w : World} {home : Home} {t : Tg} {lb : Lb × Path} (ht : t.lab = some lb) {b n cap : Nat} {cur : Array Value} {e : TypeId} {rs : List (List UInt8)} (hb : home b = some lb) (hg : w.heap[b]? = some (.cells cur e (0, 0))) (hs : cur.size = cap) (hn : n = rs.length) (hc : n ≤ cap) (hm : cap ≤ maxLen) (hr : cur.toList.take rs.length = rs.map encStr) :
    CR w home t (.fl 1 (rs.map eStr) []) (.slice (some ⟨b, 0, none⟩) n cap) := by
  subst hn
  refine .fl (fun x hx => ?_) ?_
  · rw [List.append_nil] at hx
    obtain ⟨y, _, rfl⟩ := List.mem_map.1 hx
    exact ⟨rfl, fun v hv => by simp at hv; subst hv; rfl⟩
  · rw [List.length_nil, Nat.add_zero, List.length_map]
    refine Hdr.new ht (by decide) hc hm hb hg (by omega) (fun i j hi hj => ?_)
    have h1 : (cur.toList.take rs.length)[i]? = (rs.map encStr)[i]? := by rw [hr]
    rw [List.getElem?_take_of_lt hi, Array.getElem?_toList] at h1
    have hj0 : j = 0 := by omega
    subst hj0
    rw [Nat.mul_one, Nat.add_zero, h1]
    simp [hi]
theorem rowS_none {w : World} {home : Home} {t : Tg} {a : Option Addr} (hl : t.lab ≠ none) : CR w home t (.fl 1 (([] : List (List UInt8)).map eStr) []) (.slice a 0 0) := by
  refine .fl (fun x hx => by simp at hx) ⟨by decide, Nat.le_refl _, a, 0, rfl, Nat.le_refl _, by simp [maxLen], ?_⟩
  cases h : t.lab with
  | none => exact absurd h hl
  | some l => exact Or.inl rfl
theorem only0 {ss : List (List UInt8)} {w : World} {home : Home} {hd : Lb → Value} (hrel : RtR w home hd (initFr [.arr true (.fl 1 (ss.map eStr) []) ss.length]).rt F0) {b : Nat} {l : Lb} {p : Path} (h : home b = some (l, p)) : b < w.heap.size ∧ (l = .r 0 ∨ l = .x) := by
  obtain ⟨h1, r, h2, _⟩ := hrel.lab b l p h
  refine ⟨h1, ?_⟩
  cases l with
  | r i =>
    left
    by_cases hi : i = 0
    · rw [hi]
    · exfalso
      have : (initFr [.arr true (.fl 1 (ss.map eStr) []) ss.length]).rt i = none := by
        show asl [(0, Root.arr true false (.fl 1 (ss.map eStr) []))] i = none
        have hi' : (i == 0) = false := by simpa using hi
        simp only [asl, List.lookup, hi']
      simp only [ext, this] at h2
      cases h2
  | t k => simp only [ext, F0] at h2; cases h2
  | x => exact Or.inr rfl
theorem sat_sort (hf : P.funcs[f]? = some fn) (hname : (fn.name == "runtime.NumGoroutine") = false) (hb : fn.body.isNone = false)
    (hs : ∀ (blk off cap : Nat) (ss : List (List UInt8)) (w : World), Holds encStr w blk off ss.toArray → blk < w.heap.size → ss.length < 4611686018427387904 → Calls P f #[.slice (some ⟨blk, off, none⟩) ss.length cap] w fun e w' => e = .returned (.tuple #[]) ∧ ∃ n os, w' = grow (putRow encStr (Sort.ahead w n) blk off (ss.mergeSort fun x y => decide (x ≤ y)).toArray) os)
    (h0 : ∀ (p : Option Addr) (cap : Nat) (w : World), Calls P f #[.slice p 0 cap] w fun e w' => e = .returned (.tuple #[]) ∧ w' = w) (ss : List (List UInt8)) (hl : ss.length ≤ 1000000) :
    Sat ids P f [.arr true (.fl 1 (ss.map eStr) []) ss.length] ⟨[], [some (.arr true false (.fl 1 ((sortL ss).map eStr) []))]⟩ := by
  intro w home hd vs hlen hrel hargs himm
  match vs, hlen with
  | [v], _ =>
    have q0 : SVR w home hd (initFr [.arr true (.fl 1 (ss.map eStr) []) ss.length]).rt (.ref 0 [] 0 ss.length) v := hargs 0 _ v rfl rfl
    obtain ⟨a, cap, rfl, hc, hm, ⟨a', m, hu, ha'⟩, hblk⟩ := rowS_open hrel q0
    have hps : (initFr [.arr true (.fl 1 (ss.map eStr) []) ss.length]).ps = [0] := rfl
    rw [hps]
    refine runs_of hf hname hb ?_
    have hh0 : CR w home (.own (.r 0) []) (.fl 1 (ss.map eStr) []) (hd (.r 0)) := hrel.root (.r 0) (.arr true false (.fl 1 (ss.map eStr) [])) rfl
    have hmm : m = ss.length := by
      cases hh0 with
      | fl he hh =>
        obtain ⟨_, _, a1, cap1, hu1, _⟩ := hh
        rw [hu] at hu1
        injection hu1 with _ e2 _
        rw [e2, List.length_map]
    subst hmm
    have key : ∀ (w' : World) (o : Option Nat), (∀ b, o = some b → home b = some (.r 0, [])) → w'.os = w.os → w'.tape = w.tape → w'.output = w.output → w.heap.size ≤ w'.heap.size → (∀ k, k < w.heap.size → some k ≠ o → w'.heap[k]? = w.heap[k]?) →
        CR w' home (.own (.r 0) []) (.fl 1 ((sortL ss).map eStr) []) (hd (.r 0)) → Ret w home hd [0] w' home hd F0 ⟨[], [some (.arr true false (.fl 1 ((sortL ss).map eStr) []))]⟩ [] := by
      intro w' o ho h1 h2 h3 h4 h5 h6
      have hrt : ∀ i, rtM [0] [some (Root.arr true false (.fl 1 ((sortL ss).map eStr) []))] i = if i = 0 then some (Root.arr true false (.fl 1 ((sortL ss).map eStr) [])) else none := by
        intro i
        by_cases hi : i = 0
        · subst hi; rfl
        · have hi' : (i == 0) = false := by simpa using hi
          simp only [rtM, List.zip_cons_cons, List.zip_nil_right, List.lookup, hi', if_neg hi, Option.join_none]
      refine ⟨⟨fun l r hr => ?_, fun b l p hb => ?_, fun l r hr => ?_⟩, ⟨[], rfl, fun j o c v h => by simp [cellsOf] at h, rfl, rfl⟩, fun j r h => (by cases h), h1, h2, h3, h4, fun b hb hn => ⟨h5 b hb (fun e => ?_), hn⟩, fun b q hb hx => ⟨h5 b hb (fun e => ?_), hx⟩, fun i _ r _ _ => rfl⟩
      · cases l with
        | r i =>
          simp only [ext] at hr
          rw [hrt] at hr
          split at hr
          · rename_i hi
            subst hi
            injection hr with hr
            subst hr
            exact h6
          · cases hr
        | t k => cases hr
        | x => simp only [ext, Option.some.injEq] at hr; subst hr; exact Or.inl rfl
      · obtain ⟨k1, k2⟩ := only0 hrel hb
        refine ⟨Nat.lt_of_lt_of_le k1 h4, ?_⟩
        rcases k2 with rfl | rfl
        · exact ⟨_, (hrt 0).trans (if_pos rfl), by simp⟩
        · exact ⟨_, rfl, by simp⟩
      · cases l with
        | r i =>
          simp only [ext] at hr
          rw [hrt] at hr
          split at hr
          · injection hr with hr
            subst hr
            intro j hj; cases hj
          · cases hr
        | t k => cases hr
        | x => simp only [ext, Option.some.injEq] at hr; subst hr; intro j hj; simp [Root.ids] at hj
      · have := ho b e.symm; rw [hn] at this; cases this
      · have := ho b e.symm; rw [hx] at this; injection this with this; injection this with this _; cases this
    by_cases hz : ss.length = 0
    · have hnil : ss = [] := List.eq_nil_of_length_eq_zero hz
      subst hnil
      refine (h0 a cap w).mono ?_
      rintro e w' ⟨rfl, rfl⟩
      have : sortL [] = [] := by simp [sortL]
      refine ⟨_, rfl, home, hd, F0, [], rfl, key _ none (fun b h => by cases h) rfl rfl rfl (Nat.le_refl _) (fun _ _ _ => rfl) ?_⟩
      rw [this]
      exact hh0
    · have hcp : 0 < cap := by omega
      obtain ⟨b, cur, e, rfl, hhb, hg, hcs, hcur⟩ := hblk hcp
      have hsl : (ss.mergeSort fun x y => decide (x ≤ y)).length ≤ cur.size := by rw [show (ss.mergeSort fun x y => decide (x ≤ y)).length = ss.length from sortL_length ss]; omega
      refine (hs b 0 cap ss w (holds_of_block hg hcur) (heap_lt hg) (by omega)).mono ?_
      rintro e0 w' ⟨rfl, n, os, rfl⟩
      have g1 := heap_sorted (n := n) (os := os) (ss.mergeSort fun x y => decide (x ≤ y)).toArray hg
      obtain ⟨k1, k2, k3, k4, k5⟩ := grownBy_sorted (w := w) (g := b) (n := n) (os := os) (ss.mergeSort fun x y => decide (x ≤ y)).toArray
      refine ⟨_, rfl, home, hd, F0, [], rfl, key _ (some b) (fun b' h => by injection h with h; subst h; exact hhb) k1 k2 k3 k4 (fun k hk hne => k5 k hk hne) ?_⟩
      rw [hu, ha' hcp]
      exact rowS_new (lb := (.r 0, [])) rfl hhb g1 (by simp [putCells, hcs]) (sortL_length ss).symm hc hm (take_putCells cur _ hsl)
theorem sat_compact (hf : P.funcs[f]? = some fn) (hname : (fn.name == "runtime.NumGoroutine") = false) (hb : fn.body.isNone = false)
    (hs : ∀ (blk off cap : Nat) (zs : List (List UInt8)) (w : World), Holds encStr w blk off zs.toArray → zs.length ≤ 9223372036854775807 → zs.length ≤ cap → Calls P f #[.slice (some ⟨blk, off, none⟩) zs.length cap] w fun e w' => e = .returned (.slice (some ⟨blk, off, none⟩) (Lib.compact zs).length cap) ∧ ∃ q, w' = putRow encStr (Sort.ahead w q) blk off (Lib.compact zs ++ List.replicate (zs.length - (Lib.compact zs).length) []).toArray)
    (h0 : ∀ (a : Option Addr) (cap : Nat) (w : World), Calls P f #[.slice a 0 cap] w fun e w' => e = .returned (.slice a 0 cap) ∧ w' = w) (ss : List (List UInt8)) (hl : ss.length ≤ 1000000) (hcl : (Lib.compact ss).length ≤ ss.length) :
    Sat ids P f [.arr true (.fl 1 (ss.map eStr) []) ss.length] ⟨[.s (.mk .deep (.fl 1 ((Lib.compact ss).map eStr) []))], [none]⟩ := by
  intro w home hd vs hlen hrel hargs himm
  match vs, hlen with
  | [v], _ =>
    have q0 : SVR w home hd (initFr [.arr true (.fl 1 (ss.map eStr) []) ss.length]).rt (.ref 0 [] 0 ss.length) v := hargs 0 _ v rfl rfl
    obtain ⟨a, cap, rfl, hc, hm, ⟨a', m, hu, ha'⟩, hblk⟩ := rowS_open hrel q0
    have hps : (initFr [.arr true (.fl 1 (ss.map eStr) []) ss.length]).ps = [0] := rfl
    rw [hps]
    refine runs_of hf hname hb ?_
    let g : Lb → Lb := fun l => if l = .r 0 then .t 0 else l
    let home' : Home := fun b => (home b).map (fun q => (g q.1, q.2))
    have hg0 : ∀ b p, home b = some (.r 0, p) → home' b = some (.t 0, p) := fun b p h => by simp [home', h, g]
    have key : ∀ (w' : World) (o : Option Nat) (v' : Value), (∀ b, o = some b → home b = some (.r 0, [])) → w'.os = w.os → w'.tape = w.tape → w'.output = w.output → w.heap.size ≤ w'.heap.size → (∀ k, k < w.heap.size → some k ≠ o → w'.heap[k]? = w.heap[k]?) →
        CR w' home' (.own (.t 0) []) (.fl 1 ((Lib.compact ss).map eStr) []) v' → Ret w home hd [0] w' home' (updL hd (.t 0) v') (fun k => if k = 0 then some (.arr true false (.fl 1 ((Lib.compact ss).map eStr) [])) else none) ⟨[.s (.mk .deep (.fl 1 ((Lib.compact ss).map eStr) []))], [none]⟩ [v'] := by
      intro w' o v' ho h1 h2 h3 h4 h5 h6
      have hrt : ∀ i, rtM [0] [none] i = none := by
        intro i
        by_cases hi : i = 0
        · subst hi; rfl
        · have hi' : (i == 0) = false := by simpa using hi
          simp only [rtM, List.zip_cons_cons, List.zip_nil_right, List.lookup, hi', Option.join_none]
      refine ⟨⟨fun l r hr => ?_, fun b l p hb => ?_, fun l r hr => ?_⟩, ⟨[v'], rfl, fun j o c v hj hv => ?_, v', [], [], rfl, rfl, rfl, rfl⟩, fun j r h => ?_, h1, h2, h3, h4, fun b hb hn => ⟨h5 b hb (fun e => ?_), by simp [home', hn]⟩, fun b q hb hx => ⟨h5 b hb (fun e => ?_), by simp [home', hx, g]⟩, fun i _ r hr => by rw [hrt] at hr; cases hr⟩
      · cases l with
        | r i => simp only [ext] at hr; rw [hrt] at hr; cases hr
        | t k =>
          simp only [ext] at hr
          split at hr
          · rename_i hk
            subst hk
            injection hr with hr
            subst hr
            show CR w' home' (.own (.t 0) []) _ (updL hd (.t 0) v' (.t 0))
            rw [updL_same]
            exact h6
          · cases hr
        | x => simp only [ext, Option.some.injEq] at hr; subst hr; exact Or.inl rfl
      · simp only [home', Option.map_eq_some_iff] at hb
        obtain ⟨⟨l0, q⟩, e1, e2⟩ := hb
        simp only [Prod.mk.injEq] at e2
        obtain ⟨e2, rfl⟩ := e2
        obtain ⟨k1, k2⟩ := only0 hrel e1
        refine ⟨Nat.lt_of_lt_of_le k1 h4, ?_⟩
        rcases k2 with rfl | rfl
        · simp only [g, if_pos rfl] at e2
          subst e2
          exact ⟨.arr true false (.fl 1 ((Lib.compact ss).map eStr) []), rfl, by simp⟩
        · have : g .x = .x := by simp [g]
          rw [this] at e2
          subst e2
          exact ⟨_, rfl, by simp⟩
      · cases l with
        | r i => simp only [ext] at hr; rw [hrt] at hr; cases hr
        | t k =>
          simp only [ext] at hr
          split at hr
          · injection hr with hr
            subst hr
            intro j hj; cases hj
          · cases hr
        | x => simp only [ext, Option.some.injEq] at hr; subst hr; intro j hj; simp [Root.ids] at hj
      · match j with
        | 0 =>
          simp only [cellsOf, List.getElem?_cons_zero, Option.some.injEq, RC.mk.injEq] at hj hv
          obtain ⟨rfl, rfl⟩ := hj
          subst hv
          refine ⟨Or.inr ⟨by simp, rfl, updL_same _ _ _, ?_⟩, fun _ => by simp [C.shape]⟩
          cases h6 with
          | fl he hh =>
            obtain ⟨_, _, a1, cap1, hu1, _⟩ := hh
            rw [hu1]; rfl
        | j + 1 => simp [cellsOf] at hj
      · by_cases hj : j = 0
        · subst hj
          have h : some (Root.arr true false (.fl 1 ((Lib.compact ss).map eStr) [])) = some r := h
          injection h with h
          subst h
          exact ⟨_, _, rfl, by simp, rfl⟩
        · rw [if_neg hj] at h; cases h
      · have := ho b e.symm; rw [hn] at this; cases this
      · have := ho b e.symm; rw [hx] at this; injection this with this; injection this with this _; cases this
    by_cases hz : ss.length = 0
    · have hnil : ss = [] := List.eq_nil_of_length_eq_zero hz
      subst hnil
      refine (h0 a cap w).mono ?_
      rintro e w' ⟨rfl, rfl⟩
      have hnc : Lib.compact ([] : List (List UInt8)) = [] := List.eq_nil_of_length_eq_zero (by simpa using hcl)
      refine ⟨_, rfl, home', _, _, [.slice a 0 cap], rfl, key _ none _ (fun b h => by cases h) rfl rfl rfl (Nat.le_refl _) (fun _ _ _ => rfl) ?_⟩
      rw [hnc]
      by_cases hcap : 0 < cap
      · obtain ⟨b, cur, e, rfl, hhb, hg, hcs, hcur⟩ := hblk hcap
        exact rowS_new (lb := (.t 0, [])) rfl (hg0 b [] hhb) hg hcs rfl (by omega) hm (by simp)
      · have : cap = 0 := by omega
        subst this
        exact rowS_none (by simp [Tg.lab])
    · obtain ⟨b, cur, e, rfl, hhb, hg, hcs, hcur⟩ := hblk (by omega)
      refine (hs b 0 cap ss w (holds_of_block hg hcur) (by omega) hc).mono ?_
      rintro e0 w' ⟨rfl, n, rfl⟩
      have g1 := heap_sorted (n := n) (os := #[]) (Lib.compact ss ++ List.replicate (ss.length - (Lib.compact ss).length) []).toArray hg
      obtain ⟨k1, k2, k3, k4, k5⟩ := grownBy_sorted (w := w) (g := b) (n := n) (os := #[]) (Lib.compact ss ++ List.replicate (ss.length - (Lib.compact ss).length) []).toArray
      rw [grow_empty] at g1 k1 k2 k3 k4 k5
      refine ⟨_, rfl, home', _, _, [.slice (some ⟨b, 0, none⟩) (Lib.compact ss).length cap], rfl, key _ (some b) _ (fun b' h => by injection h with h; subst h; exact hhb) k1 k2 k3 k4 (fun k hk hne => k5 k hk hne) ?_⟩
      refine rowS_new (lb := (.t 0, [])) rfl (hg0 b [] hhb) g1 (by simp [putCells, hcs]) rfl (by omega) hm ?_
      have ht := take_putCells cur (Lib.compact ss ++ List.replicate (ss.length - (Lib.compact ss).length) []) (by simp; omega)
      have ht2 := congrArg (List.take (Lib.compact ss).length) ht
      rw [List.take_take, Nat.min_eq_left (by simp)] at ht2
      rw [ht2, List.map_append, List.take_left' (by simp)]
end
end Go.Proofs.YtecmolmlojehgaaGreat.T
namespace Go.Proofs
open Go.Shelf
def Tryz.lays190_ren : Go.Shelf.Ren := ⟨fun | 190 => 99 | 125 => 130 | 258 => 129 | 128 => 155 | 129 => 156 | 302 => 146 | 303 => 147 | 304 => 148 | 305 => 149 | 306 => 150 | 307 => 151 | 308 => 152 | 309 => 153 | 310 => 154 | 333 => 169 | 329 => 170 | 330 => 171 | 334 => 172 | 335 => 173 | 336 => 174 | 344 => 185 | n => n, fun | 31 => 63 | 9 => 9 | 3 => 3 | 46 => 138 | 0 => 0 | 51 => 158 | 53 => 69 | 4 => 4 | 183 => 151 | 182 => 150 | 131 => 35 | 5 => 5 | 218 => 170 | 222 => 174 | 228 => 184 | 229 => 185 | n => n, fun | n => n⟩
theorem Tryz.lays190 : Go.Proofs.Lays.n190 Tryz.prog Tryz.lays190_ren := {
  mixed := by kernel_rfl
  f125 := Tryz.func130.trans (congrArg some (by kernel_rfl))
  f128 := Tryz.func155.trans (congrArg some (by kernel_rfl))
  f129 := Tryz.func156.trans (congrArg some (by kernel_rfl))
  f190 := Tryz.func99.trans (congrArg some (by kernel_rfl))
  f258 := Tryz.func129.trans (congrArg some (by kernel_rfl))
  f302 := Tryz.func146.trans (congrArg some (by kernel_rfl))
  f303 := Tryz.func147.trans (congrArg some (by kernel_rfl))
  f304 := Tryz.func148.trans (congrArg some (by kernel_rfl))
  f305 := Tryz.func149.trans (congrArg some (by kernel_rfl))
  f306 := Tryz.func150.trans (congrArg some (by kernel_rfl))
  f307 := Tryz.func151.trans (congrArg some (by kernel_rfl))
  f308 := Tryz.func152.trans (congrArg some (by kernel_rfl))
  f309 := Tryz.func153.trans (congrArg some (by kernel_rfl))
  f310 := Tryz.func154.trans (congrArg some (by kernel_rfl))
  f329 := Tryz.func170.trans (congrArg some (by kernel_rfl))
  f330 := Tryz.func171.trans (congrArg some (by kernel_rfl))
  f333 := Tryz.func169.trans (congrArg some (by kernel_rfl))
  f334 := Tryz.func172.trans (congrArg some (by kernel_rfl))
  f335 := Tryz.func173.trans (congrArg some (by kernel_rfl))
  f336 := Tryz.func174.trans (congrArg some (by kernel_rfl))
  f344 := Tryz.func185.trans (congrArg some (by kernel_rfl))
  t0 := Tryz.underlying0
  a0 := Tryz.isAgg0
  z0 := Tryz.sizeOf0
  v0 := Tryz.zeroValue0
  t3 := Tryz.underlying3
  a3 := Tryz.isAgg3
  z3 := Tryz.sizeOf3
  v3 := Tryz.zeroValue3
  t4 := Tryz.underlying4
  a4 := Tryz.isAgg4
  z4 := Tryz.sizeOf4
  v4 := Tryz.zeroValue4
  t5 := Tryz.underlying5
  a5 := Tryz.isAgg5
  z5 := Tryz.sizeOf5
  v5 := Tryz.zeroValue5
  t9 := Tryz.underlying9
  a9 := Tryz.isAgg9
  z9 := Tryz.sizeOf9
  v9 := Tryz.zeroValue9
  t31 := Tryz.underlying63
  a31 := Tryz.isAgg63
  z31 := Tryz.sizeOf63
  v31 := Tryz.zeroValue63
  t46 := Tryz.underlying138
  a46 := Tryz.isAgg138
  z46 := Tryz.sizeOf138
  v46 := Tryz.zeroValue138
  t51 := Tryz.underlying158
  a51 := Tryz.isAgg158
  z51 := Tryz.sizeOf158
  v51 := Tryz.zeroValue158
  t53 := Tryz.underlying69
  a53 := Tryz.isAgg69
  z53 := Tryz.sizeOf69
  v53 := Tryz.zeroValue69
  t131 := Tryz.underlying35
  a131 := Tryz.isAgg35
  z131 := Tryz.sizeOf35
  v131 := Tryz.zeroValue35
  t182 := Tryz.underlying150
  a182 := Tryz.isAgg150
  z182 := Tryz.sizeOf150
  v182 := Tryz.zeroValue150
  t183 := Tryz.underlying151
  a183 := Tryz.isAgg151
  z183 := Tryz.sizeOf151
  v183 := Tryz.zeroValue151
  t218 := Tryz.underlying170
  a218 := Tryz.isAgg170
  z218 := Tryz.sizeOf170
  v218 := Tryz.zeroValue170
  t222 := Tryz.underlying174
  a222 := Tryz.isAgg174
  z222 := Tryz.sizeOf174
  v222 := Tryz.zeroValue174
  t228 := Tryz.underlying184
  a228 := Tryz.isAgg184
  z228 := Tryz.sizeOf184
  v228 := Tryz.zeroValue184
  t229 := Tryz.underlying185
  a229 := Tryz.isAgg185
  z229 := Tryz.sizeOf185
  v229 := Tryz.zeroValue185 }
open Go.Sort Go.RowKit in
theorem Tryz.slices_Sort_string (blk off cap : Nat) (ss : List (List UInt8)) (w : World) (hH : Holds encStr w blk off ss.toArray) (hblk : blk < w.heap.size) (hsz : ss.length < 4611686018427387904) :
    Calls Tryz.prog 99 #[.slice (some ⟨blk, off, none⟩) ss.length cap] w fun e w' =>
      e = .returned (.tuple #[]) ∧ ∃ n os, w' = grow (putRow encStr (Sort.ahead w n) blk off (ss.mergeSort fun x y => decide (x ≤ y)).toArray) os := Any.slices_Sort_string Tryz.lays190 blk off cap ss w hH hblk hsz
def Tryz.lays194_ren : Go.Shelf.Ren := ⟨fun | 194 => 100 | n => n, fun | 31 => 63 | 9 => 9 | 3 => 3 | 4 => 4 | 0 => 0 | n => n, fun | n => n⟩
theorem Tryz.lays194 : Go.Proofs.Lays.n194 Tryz.prog Tryz.lays194_ren := {
  mixed := by kernel_rfl
  f194 := Tryz.func100.trans (congrArg some (by kernel_rfl))
  t0 := Tryz.underlying0
  a0 := Tryz.isAgg0
  z0 := Tryz.sizeOf0
  v0 := Tryz.zeroValue0
  t3 := Tryz.underlying3
  a3 := Tryz.isAgg3
  z3 := Tryz.sizeOf3
  v3 := Tryz.zeroValue3
  t4 := Tryz.underlying4
  a4 := Tryz.isAgg4
  z4 := Tryz.sizeOf4
  v4 := Tryz.zeroValue4
  t9 := Tryz.underlying9
  a9 := Tryz.isAgg9
  z9 := Tryz.sizeOf9
  v9 := Tryz.zeroValue9
  t31 := Tryz.underlying63
  a31 := Tryz.isAgg63
  z31 := Tryz.sizeOf63
  v31 := Tryz.zeroValue63 }
open Go.RowKit Go.Lib Go.Sort in
theorem Tryz.slices_Compact_string (blk off cap : Nat) (zs : List (List UInt8)) (w : World) (hH : Holds encStr w blk off zs.toArray) (hsz : zs.length ≤ 9223372036854775807) (hcap : zs.length ≤ cap) :
    Calls Tryz.prog 100 #[.slice (some ⟨blk, off, none⟩) zs.length cap] w fun e w' => e = .returned (.slice (some ⟨blk, off, none⟩) (Lib.compact zs).length cap) ∧ ∃ q, w' = putRow encStr (Sort.ahead w q) blk off (Lib.compact zs ++ List.replicate (zs.length - (Lib.compact zs).length) []).toArray := Any.slices_Compact_string Tryz.lays194 blk off cap zs w hH hsz hcap
open Go.RowKit Go.Lib Go.Sort in
theorem Tryz.slices_Compact_string_empty (a : Option Addr) (cap : Nat) (w : World) :
    Calls Tryz.prog 100 #[.slice a 0 cap] w fun e w' => e = .returned (.slice a 0 cap) ∧ w' = w := Any.slices_Compact_string_empty Tryz.lays194 a cap w
open Go.RowKit Go.Sort in
theorem Tryz.slices_Sort_string_none (p : Option Addr) (cap : Nat) (w : World) :
    Calls Tryz.prog 99 #[.slice p 0 cap] w fun e w' => e = .returned (.tuple #[]) ∧ w' = w := Any.slices_Sort_string_none Tryz.lays190 p cap w
end Go.Proofs
