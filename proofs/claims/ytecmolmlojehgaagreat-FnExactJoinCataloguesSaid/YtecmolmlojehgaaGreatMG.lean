/- Operations that write memory, append and copy. append and copy. append of elements with rows in them. The rest of the operations: structs compared, bytes to a string, append, and all of them in one. All operations but calls, in one. Calls: what the callee is given. -/
import Derived.Test.YtecmolmlojehgaaGreatMF
import Derived.IntWalk
import Derived.Laws.BytesString
namespace Go.Proofs.YtecmolmlojehgaaGreat.T
open Go
variable (ids : Nat → FuncId)

section
variable {ids} {P : Program} {o : Oper} {a : Act} {w : World} {home : Home} {hd : Lb → Value} {rt rt' : Rts} {av : AV} {ev : Ev} {F : Nat → Option Root}
/-- A flat slice's cells, one behind the other. -/
def Flat (w : World) (v : Value) (sz : Nat) (es : List (List Value)) : Prop :=
  0 < sz ∧ (∀ e ∈ es, e.length = sz ∧ ∀ u ∈ e, u.oneCell' = true) ∧ ∃ ad cap, v = .slice ad es.length cap ∧ es.length ≤ cap ∧ cap ≤ maxLen ∧
    (0 < es.length → ∃ b o', ad = some ⟨b, o', none⟩ ∧ ∀ m u, es.flatten[m]? = some u → w.cell? ⟨b, o' + m, none⟩ = some u)
theorem flat_split {α : Type} {sz : Nat} (h0 : 0 < sz) {l : List (List α)} (hl : ∀ e ∈ l, e.length = sz) {m : Nat} {u : α} (h : l.flatten[m]? = some u) : ∃ e, l[m / sz]? = some e ∧ e[m % sz]? = some u ∧ m / sz < l.length ∧ m / sz * sz + m % sz = m := by
  have hlt := (List.getElem?_eq_some_iff.1 h).1
  rw [flat_len hl] at hlt
  have hi : m / sz < l.length := (Nat.div_lt_iff_lt_mul h0).2 hlt
  have hj : m % sz < (l[m / sz]).length := by rw [hl _ (List.getElem_mem hi)]; exact Nat.mod_lt _ h0
  have hmm : m / sz * sz + m % sz = m := by rw [Nat.mul_comm]; exact Nat.div_add_mod m sz
  have h1 := flat_get hl (List.getElem?_eq_getElem hi) (List.getElem?_eq_getElem hj)
  rw [hmm, h] at h1
  exact ⟨_, List.getElem?_eq_getElem hi, by rw [List.getElem?_eq_getElem hj, h1], hi, hmm⟩
/-- Of a row (its value u), a part v. -/
theorem flat_of_row {t : Tg} {sz : Nat} {es sp : List (List Value)} {u v : Value} {off n : Nat} (h : CR w home t (.fl sz es sp) u) (hp : Part u v sz off n) (hn : off + n ≤ es.length + sp.length) : Flat w v sz (((es ++ sp).drop off).take n) := by
  cases h with
  | fl he hh =>
    have hh0 := hh
    obtain ⟨h0, hlt, a0, cap, hu, htc, hcm, _⟩ := hh
    have hlen : (((es ++ sp).drop off).take n).length = n := by rw [List.length_take, List.length_drop, List.length_append]; omega
    have hmem : ∀ e ∈ ((es ++ sp).drop off).take n, e ∈ es ++ sp := fun e h => List.mem_of_mem_drop (List.mem_of_mem_take h)
    refine ⟨h0, fun e hm => he e (hmem e hm), ?_⟩
    obtain ⟨a1, m1, cap1, a', e1, hle, rfl, ha⟩ := hp
    rw [hu] at e1
    injection e1 with e1 e2 e3
    subst e1 e3
    rw [hlen]
    refine ⟨a', cap - off, rfl, by omega, by omega, fun hpos => ?_⟩
    obtain ⟨b, o', cap2, hu2, _, _, _⟩ := hh0.cell (i := off) (j := 0) (by omega) h0
    rw [hu] at hu2
    injection hu2 with hu2 _ _
    subst hu2
    refine ⟨b, o' + off * sz, by rw [ha (by omega), Option.map_some, addr_add], fun m x hx => ?_⟩
    obtain ⟨e, g1, g2, g3, g4⟩ := flat_split h0 (fun e hm => (he e (hmem e hm)).1) hx
    rw [hlen] at g3
    rw [List.getElem?_take, if_pos g3, List.getElem?_drop] at g1
    have hj : m % sz < sz := Nat.mod_lt _ h0
    obtain ⟨b3, o3, cap3, hu3, _, _, hv3⟩ := hh0.cell (i := off + m / sz) (j := m % sz) (by omega) hj
    rw [hu] at hu3
    injection hu3 with hu3 _ _
    injection hu3 with hu3
    injection hu3 with q1 q2
    subst q1 q2
    have hval : ((es ++ sp).getD (off + m / sz) []).getD (m % sz) undef = x := by simp [List.getD_eq_getElem?_getD, g1, g2]
    rw [hval] at hv3
    rw [← hv3]
    congr 2
    rw [Nat.add_mul]; omega
theorem cont_flat (old : RtR w home hd rt F) {x : SV} {v : Value} (h : SVR w home hd rt x v) {sz : Nat} {es sp : List (List Value)} (hc : cont rt x = some (.fl sz es sp)) : Flat w v sz es := by
  cases x with
  | c c =>
    cases c with
    | val u => cases hc
    | hole => cases hc
    | sl sz' es' sp' => simp [cont] at hc
    | fl sz' es' sp' =>
      simp only [cont, Option.some.injEq, C.fl.injEq] at hc
      obtain ⟨rfl, rfl, rfl⟩ := hc
      have h' : CR w home .imm (.fl sz' es' sp') v := h
      obtain ⟨vs, hh, _⟩ := h'.open rfl
      obtain ⟨_, _, ad, cap, rfl, hle, _, _⟩ := hh
      have := flat_of_row h' (Part.self (n := es'.length) (m := es'.length) sz' (by omega)) (by omega)
      simpa using this
  | nil k =>
    obtain ⟨rfl, hk⟩ := h
    cases k with
    | sl s => simp [cont, K.empty] at hc
    | fl s =>
      simp only [cont, K.empty, Option.some.injEq, C.fl.injEq] at hc
      obtain ⟨rfl, rfl, rfl⟩ := hc
      exact ⟨hk, fun e he => (List.not_mem_nil he).elim, none, 0, rfl, Nat.le_refl _, by unfold maxLen; omega, fun h => (Nat.lt_irrefl _ h).elim⟩
  | ref id p off len =>
    simp only [cont] at hc
    split at hc
    · rename_i d c' hra
      split at hc
      · rename_i sz' m tot hs
        split at hc
        · rename_i hle
          injection hc with hc
          obtain ⟨t, c, u, k1, k2, k3, k4, k5, k6⟩ := ref_open old h hra hs
          cases c' with
          | val u => cases hs
          | hole => cases hs
          | sl a1 b1 c1 => simp [C.sub] at hc
          | fl a1 b1 c1 =>
            simp only [C.shape, Option.some.injEq, Prod.mk.injEq] at hs
            obtain ⟨rfl, rfl, rfl⟩ := hs
            simp only [C.sub, C.fl.injEq] at hc
            obtain ⟨rfl, rfl, rfl⟩ := hc
            exact flat_of_row k5 k6 hle
        · cases hc
      · cases hc
    · cases hc
  | pb id off => cases hc
  | pe id p i off => cases hc
  | pm cs off => cases hc
end
/-- A zero element's cells. -/
def cOk : Value → C → Bool
  | .slice none 0 0, .fl sz [] [] => decide (0 < sz)
  | .slice none 0 0, .sl sz [] [] => decide (0 < sz)
  | v, .val u => beqV v u
  | _, _ => false
def mMks (P : Program) (o : Op) (k : K) (bytes : Nat) (zero : List C) (len cap : Opd) : Bool :=
  match o with
  | .makeSlice t l c => mOpd ids l len && mOpd ids c cap && under P t (isSliceT P k.sz) && decide (0 < k.sz) &&
    match P.underlying t with
    | some (.slice e) => match P.info? e with
      | some i => i.bytes == bytes && match i.zero with
        | some zv => all2 cOk zv.cells.toList zero
        | none => false
      | none => false
    | _ => false
  | _ => false
section
variable {ids} {P : Program} {o : Oper} {a : Act} {w : World} {home : Home} {hd : Lb → Value} {rt rt' : Rts} {av : AV} {ev : Ev} {F : Nat → Option Root}
theorem cOk_CR {v : Value} {c : C} (h : cOk v c = true) (w : World) (home : Home) (t : Tg) : CR w home t c v := by
  unfold cOk at h
  split at h
  · exact CR.kempty (k := .fl _) (of_decide_eq_true h)
  · exact CR.kempty (k := .sl _) (of_decide_eq_true h)
  · obtain ⟨rfl, h1⟩ := beqV_eq h; exact .val h1
  · cases h
/-- The cells that make writes. -/
theorem zeros_get {zv : Array Value} {n m : Nat} (hz : 0 < zv.size) (hm : m < n * zv.size) : ((Array.range (n * zv.size)).map (zv[· % zv.size]!))[m]? = zv[m % zv.size]? := by
  have hlt : m % zv.size < zv.size := Nat.mod_lt _ hz
  simp [Array.getElem?_map, Array.getElem?_range, hm, getElem!_pos (c := zv) (i := m % zv.size) hlt, Array.getElem?_eq_getElem hlt]
theorem run_makeSlice {t e : TypeId} {ti : TypeInfo} {zv : Value} (ht : P.underlying t = some (.slice e)) (hti : P.info? e = some ti) (hz : ti.zero = some zv) (hsz : zv.cells.size = ti.size) (hpos : 0 < ti.size) {k1 k2 : IntKind} {l c : Int} (h0 : 0 ≤ l) (h1 : l ≤ c) (h2 : c * ti.bytes ≤ 140737488355328) (h3 : c ≤ 9223372036854775807) :
    (Instr.makeSlice t (.int k1 l) (.int k2 c)).run P w = .ok (.slice (some ⟨w.heap.size, 0, none⟩) l.toNat c.toNat) (w.alloc (.cells ((Array.range (c.toNat * zv.cells.size)).map (zv.cells[· % zv.cells.size]!)) e)) := by
  have e1 : IntKind.i64.wrap l = l := IntWalk.i64_in l (by omega)
  have e2 : IntKind.i64.wrap c = c := IntWalk.i64_in c (by omega)
  unfold Instr.makeSlice
  have hcc : ¬ ((ti.bytes : Int) * c > 2 ^ 48) := by rw [Int.mul_comm]; omega
  have hc0 : ¬ c < 0 := by omega
  have hl0 : ¬ l < 0 := by omega
  have hlc : ¬ l > c := by omega
  have hzv : (zeroValue e).run P w = .ok zv w := by simp [zeroValue, run_typeInfo w hti, hz]
  simp only [Sem.run_bind, run_underlying ht, Result.andThen_ok, asInt, run_asIntOf, Sem.run_pure, run_typeInfo w hti, e1, e2]
  rw [if_neg (by simp only [Bool.or_eq_true, decide_eq_true_eq, not_or]; omega)]
  simp only [Sem.run_bind, run_askRoom, Result.andThen_ok, run_sizeOf' hti]
  by_cases hn : c.toNat * ti.size = 0
  · have hc' : c.toNat = 0 := by
      rcases Nat.mul_eq_zero.1 hn with h | h <;> omega
    have hr0 : Array.range 0 = #[] := rfl
    simp only [hn, if_true, Sem.run_bind, Sem.run_pure, Result.andThen_ok, pointer_new, hc', Nat.zero_mul, hr0, List.map_toArray, List.map_nil]
  · simp only [hn, if_false, Sem.run_bind, hzv, Sem.run_pure, Result.andThen_ok, pointer_new, hsz]
theorem ok_mks (old : RtR w home hd rt F0) (he : EvR ids w home hd rt ev a.eval) {k : K} {bytes : Nat} {zero : List C} {len cap : Opd} (hm : mMks ids P o.op k bytes zero len cap = true) {l c : Int} (hl : evI ev len = some l) (hc : evI ev cap = some c)
    (h0 : 0 ≤ l) (h1 : l ≤ c) (h2 : c * bytes ≤ 140737488355328) (h3 : c ≤ 9223372036854775807) {id : Nat} {cc : C}
    (hcc : (∃ sz z, k = .fl sz ∧ vals zero = some z ∧ z.length = sz ∧ cc = .fl sz (List.replicate c.toNat z) []) ∨ (∃ sz, k = .sl sz ∧ zero.length = sz ∧ cc = .sl sz (List.replicate c.toNat zero) []))
    (h : newRt rt id (.arr true false cc) = some rt') : OpOk ids P o a w home hd rt (.sv (.ref id [] 0 l.toNat)) rt' := by
  unfold mMks at hm
  split at hm
  · rename_i t l' c' ho
    simp only [Bool.and_eq_true, decide_eq_true_eq] at hm
    obtain ⟨⟨⟨⟨g1, g2⟩, g3⟩, g4⟩, g5⟩ := hm
    obtain ⟨d, hd1, hd2⟩ := under_spec g3
    obtain ⟨e, ti, rfl, hti, hsz⟩ := isSliceT_spec hd2
    rw [hd1] at g5
    simp only [hti, Bool.and_eq_true, beq_iff_eq] at g5
    obtain ⟨rfl, g6⟩ := g5
    split at g6
    · rename_i zv hz
      obtain ⟨z1, z2⟩ := all2_iff g6
      have hksz : zero.length = k.sz := by
        rcases hcc with ⟨sz, z, rfl, e1, e2, _⟩ | ⟨sz, rfl, e1, _⟩
        · rw [vals_spec e1, List.length_map]; exact e2
        · exact e1
      have hzs : zv.cells.size = ti.size := by rw [hsz, ← hksz, ← z1]; simp
      obtain ⟨q1, hq1⟩ := he.I g1 hl
      obtain ⟨q2, hq2⟩ := he.I g2 hc
      have hrun : (execOp a.eval o).run P w = .ok (.value (.slice (some ⟨w.heap.size, 0, none⟩) l.toNat c.toNat)) (w.alloc (.cells ((Array.range (c.toNat * zv.cells.size)).map (zv.cells[· % zv.cells.size]!)) e)) := by
        unfold execOp
        rw [ho]
        simp only [hq1, hq2, Sem.run_bind, run_makeSlice hd1 hti hz hzs (by omega) h0 h1 h2 h3, Result.andThen_ok, Sem.run_pure]
      obtain ⟨n1, n2, _, rfl⟩ := newRt_spec h
      have hcm : c.toNat ≤ maxLen := by unfold maxLen; omega
      have hzp : 0 < zv.cells.size := by omega
      have hcellv : ∀ i j, i < c.toNat → j < ti.size → ((Array.range (c.toNat * zv.cells.size)).map (zv.cells[· % zv.cells.size]!))[i * ti.size + j]? = zv.cells[j]? := by
        intro i j hi hj
        have : i * zv.cells.size + j < c.toNat * zv.cells.size := by
          have : (i + 1) * zv.cells.size ≤ c.toNat * zv.cells.size := Nat.mul_le_mul_right _ hi
          rw [Nat.add_mul] at this; omega
        rw [← hzs, zeros_get hzp this, idx_mod (by omega)]
      -- the new row
      have hcr : ∀ home', home' w.heap.size = some (Lb.r id, []) → CR (w.alloc (.cells ((Array.range (c.toNat * zv.cells.size)).map (zv.cells[· % zv.cells.size]!)) e)) home' (arrTg true (.r id)) cc (.slice (some ⟨w.heap.size, 0, none⟩) c.toNat c.toNat) := by
        intro home' hB
        rcases hcc with ⟨sz, z, rfl, e1, e2, rfl⟩ | ⟨sz, rfl, e1, rfl⟩
        · have hzv := vals_spec e1
          have hsz' : ti.size = sz := hsz
          refine .fl (fun e' he' => ?_) ?_
          · rw [List.append_nil] at he'
            obtain ⟨_, rfl⟩ := List.mem_replicate.1 he'
            refine ⟨e2, fun v hv => ?_⟩
            obtain ⟨j, hj⟩ := List.getElem?_of_mem hv
            have hlt : j < zv.cells.toList.length := by rw [z1, hzv]; simpa using (List.getElem?_eq_some_iff.1 hj).1
            have := z2 j _ (.val v) (List.getElem?_eq_getElem hlt) (by rw [hzv, List.getElem?_map, hj]; rfl)
            have h5 := cOk_CR this w home' .imm
            generalize zv.cells.toList[j] = y at h5
            cases h5 with
            | val h => exact h
          · rw [List.length_replicate, List.length_nil, Nat.add_zero, List.append_nil]
            refine Hdr.new (t := arrTg true (.r id)) rfl (by rw [← hsz']; omega) (Nat.le_refl _) hcm hB (heap_alloc_new w _) (by simp [hzs, hsz']) (fun i j hi hj => ?_)
            rw [← hsz', hcellv i j hi (by omega)]
            have hj2 : j < zv.cells.toList.length := by simp [hzs]; omega
            have hjz : j < z.length := by omega
            have := z2 j _ (.val z[j]) (List.getElem?_eq_getElem hj2) (by rw [hzv, List.getElem?_map, List.getElem?_eq_getElem hjz]; rfl)
            have h5 := cOk_CR this w home' .imm
            have h6 : zv.cells.toList[j] = z[j] := by
              generalize zv.cells.toList[j] = y at h5
              cases h5 with
              | val h => rfl
            simp only [List.getD_eq_getElem?_getD, List.getElem?_replicate, hi, if_true, Option.getD_some, List.getElem?_eq_getElem hjz]
            rw [← h6]
            simp at hj2
            simp [Array.getElem?_eq_getElem hj2]
        · have hsz' : ti.size = sz := hsz
          refine .sl (fun i j => zv.cells.toList.getD j undef) (fun e' he' => ?_) ?_ (fun i j e' c' h4 h5 => ?_)
          · rw [List.append_nil] at he'
            obtain ⟨_, rfl⟩ := List.mem_replicate.1 he'
            exact e1
          · rw [List.length_replicate, List.length_nil, Nat.add_zero]
            refine Hdr.new (t := arrTg true (.r id)) rfl (by rw [← hsz']; omega) (Nat.le_refl _) hcm hB (heap_alloc_new w _) (by simp [hzs, hsz']) (fun i j hi hj => ?_)
            rw [← hsz', hcellv i j hi (by omega)]
            have hj2 : j < zv.cells.size := by omega
            simp [List.getD_eq_getElem?_getD, Array.getElem?_eq_getElem hj2]
          · rw [List.append_nil, List.getElem?_replicate] at h4
            split at h4
            · injection h4 with h4
              subst h4
              have hlt : j < zv.cells.toList.length := by rw [z1]; exact (List.getElem?_eq_some_iff.1 h5).1
              have := cOk_CR (z2 j _ c' (List.getElem?_eq_getElem hlt) h5) (w.alloc (.cells ((Array.range (c.toNat * zv.cells.size)).map (zv.cells[· % zv.cells.size]!)) e)) home' ((arrTg true (.r id)).ext i j)
              simpa [List.getD_eq_getElem?_getD, List.getElem?_eq_getElem hlt] using this
            · cases h4
      have hst := assemble (w' := w.alloc (.cells ((Array.range (c.toNat * zv.cells.size)).map (zv.cells[· % zv.cells.size]!)) e)) old n1 n2 (k0 := 0) (B := some w.heap.size) (fun _ _ => none) (fun b hb => by injection hb with hb; subst hb; exact ⟨by simp, fun h => by omega⟩) (fun b hb _ => heap_alloc_old w _ b hb) rfl rfl rfl (by simp) (hcr _ asmHome_B)
      rw [asmF_F0] at hst
      exact .value hrun hst (new_ref (home := asmHome home 0 id (some w.heap.size) (fun _ _ => none)) (updL_same _ _ _) (by omega))
    · cases g6
  · cases hm
end
def mSt (P : Program) (o : Op) (n : Nat) (x y : Opd) : Bool :=
  match o with
  | .store t x' y' => mOpd ids x' x && mOpd ids y' y && elemIs P n t
  | _ => false
theorem splice_get {α : Type} {l vs : List α} {k m : Nat} (h : k + vs.length ≤ l.length) : (l.take k ++ vs ++ l.drop (k + vs.length))[m]? = if k ≤ m ∧ m < k + vs.length then vs[m - k]? else l[m]? := by
  have h1 : (l.take k).length = k := by rw [List.length_take]; omega
  by_cases hm : m < k
  · rw [if_neg (by omega), List.append_assoc, List.getElem?_append_left (by omega), List.getElem?_take, if_pos hm]
  · by_cases hm2 : m < k + vs.length
    · rw [if_pos ⟨by omega, hm2⟩, List.append_assoc, List.getElem?_append_right (by omega), h1, List.getElem?_append_left (by omega)]
    · rw [if_neg (by omega), List.append_assoc, List.getElem?_append_right (by omega), h1, List.getElem?_append_right (by omega), List.getElem?_drop]
      congr 1; omega
theorem splice_len {α : Type} {l vs : List α} {k : Nat} (h : k + vs.length ≤ l.length) : (l.take k ++ vs ++ l.drop (k + vs.length)).length = l.length := by
  simp only [List.length_append, List.length_take, List.length_drop]; omega
section
variable {ids} {P : Program} {o : Oper} {a : Act} {w : World} {home : Home} {hd : Lb → Value} {rt rt' : Rts} {av : AV} {ev : Ev} {F : Nat → Option Root}
theorem run_store' {t : TypeId} {n : Nat} (h : elemIs P n t = true) {v : Value} (hn : v.cells.size = n) {b o' : Nat} {cur : Array Value} {e : TypeId} (hg : w.heap[b]? = some (.cells cur e (0, 0))) (hle : o' + n ≤ cur.size) (h1 : ∀ u ∈ v.cells.toList, u.oneCell' = true) :
    (Instr.storeAt t (.pointer (some ⟨b, o', none⟩)) v).run P w = .ok () (w.setRow b (cur.toList.take o' ++ v.cells.toList ++ cur.toList.drop (o' + v.cells.toList.length)).toArray) := by
  obtain ⟨i, hi, hsz⟩ := elemIs_spec h
  have := run_storeCells_at P b o' e v.cells.toList 0 cur w hg (by simp; omega) h1
  simp only [Nat.add_zero] at this
  unfold Instr.storeAt storeVar
  simp only [Instr.sureAddr, Sem.run_bind, Sem.run_pure, Result.andThen_ok, run_sizeOf' hi, hsz, hn, ne_eq, not_true_eq_false, if_false, this]
theorem takes_len : ∀ {xs : List SV} {rt rt' : Rts} {l : List (Ow × C)}, takes rt xs = some (l, rt') → l.length = xs.length
  | [], rt, rt', l, h => by simp only [takes, Option.some.injEq, Prod.mk.injEq] at h; obtain ⟨rfl, _⟩ := h; rfl
  | x :: xs, rt, rt', l, h => by
    simp only [takes] at h
    split at h
    · split at h
      · rename_i h2
        simp only [Option.some.injEq, Prod.mk.injEq] at h
        obtain ⟨rfl, _⟩ := h
        simp [takes_len h2]
      · cases h
    · cases h
theorem exts_lab {d : Bool} {l : Lb} {p : Path} (h : p = [] ∨ d = true) : ((arrTg d l).exts p).lab = some (l, p) := by
  rcases h with rfl | rfl
  · cases d <;> rfl
  · simp [arrTg, Tg.exts_own, Tg.lab]
theorem C.setElem_shape {c c2 : C} {i off : Nat} {xs : List C} (h : c.setElem i off xs = some c2) : c2.shape = c.shape ∧ c2.flat = c.flat := by
  cases c with
  | val v => cases h
  | hole => cases h
  | fl sz es sp =>
    simp only [C.setElem] at h
    split at h
    · rw [Option.map_eq_some_iff] at h
      obtain ⟨e', _, rfl⟩ := h
      simp [C.shape, C.flat]
    · cases h
  | sl sz es sp =>
    simp only [C.setElem] at h
    split at h
    · rw [Option.map_eq_some_iff] at h
      obtain ⟨e', _, rfl⟩ := h
      simp [C.shape, C.flat]
    · cases h
theorem C.set_shape {c c1 c2 : C} {p : Path} (hg : c.get p = some c1) (h : c2.shape = c1.shape) (hf : c2.flat = c1.flat) : (c.set p c2).shape = c.shape ∧ (c.flat = true → (c.set p c2).flat = true) := by
  cases p with
  | nil =>
    have e1 : c.get [] = some c := by cases c <;> rfl
    have e2 : c.set [] c2 = c2 := by cases c <;> rfl
    rw [e1] at hg; injection hg with hg; subst hg
    rw [e2]; exact ⟨h, fun hh => by rw [hf]; exact hh⟩
  | cons x p =>
    obtain ⟨i, j⟩ := x
    cases c with
    | val v => cases hg
    | hole => cases hg
    | fl sz es sp => cases hg
    | sl sz es sp =>
      refine ⟨?_, fun hh => by cases hh⟩
      simp only [C.set]
      split
      · split <;> simp [C.shape]
      · rfl
theorem Hdr.congr {t : Tg} {u : Value} {len tot sz : Nat} {vs vs' : Nat → Nat → Value} (h : Hdr w home t u len tot sz vs) (hv : ∀ i j, i < tot → j < sz → vs i j = vs' i j) : Hdr w home t u len tot sz vs' := by
  obtain ⟨g0, g1, a0, cap0, gu, g2, g3, g4⟩ := h
  refine ⟨g0, g1, a0, cap0, gu, g2, g3, ?_⟩
  cases hl : t.lab with
  | none =>
    rw [hl] at g4
    intro i j hi hj
    obtain ⟨b, o, k1, k2, k3⟩ := g4 i j hi hj
    exact ⟨b, o, k1, k2, by rw [← hv i j hi hj]; exact k3⟩
  | some l =>
    rw [hl] at g4
    rcases g4 with g4 | ⟨b, cur, e, k1, k2, k3, k4, k5⟩
    · exact Or.inl g4
    · exact Or.inr ⟨b, cur, e, k1, k2, k3, k4, fun i j hi hj => by rw [← hv i j hi hj]; exact k5 i j hi hj⟩
theorem set_app_get {α : Type} {es sp : List α} {i i' : Nat} {e' : α} (hi : i < es.length) : (es.set i e' ++ sp)[i']? = if i' = i then some e' else (es ++ sp)[i']? := by
  rw [← List.set_append_left _ _ hi, List.getElem?_set]
  by_cases h : i = i'
  · subst h
    rw [if_pos rfl, if_pos rfl, if_pos (by rw [List.length_append]; omega)]
  · rw [if_neg h, if_neg (Ne.symm h)]
/-- A row's node with some cells of one element exchanged. -/
theorem node_set {w' : World} {home' : Home} {T : Tg} {c c2 : C} {u : Value} {i off : Nat} {xs : List C} (h : CR w home T c u) (hset : c.setElem i off xs = some c2) {sz m tot : Nat} (hs : c.shape = some (sz, m, tot)) {lb : Lb × Path} (hT : T.lab = some lb)
    {b cap : Nat} {cur : Array Value} {e : TypeId} (hu : u = .slice (some ⟨b, 0, none⟩) m cap) (hg : w.heap[b]? = some (.cells cur e (0, 0))) (hcs : cur.size = cap * sz) {vs : List Value} (hvl : vs.length = xs.length) (hle : i * sz + off + vs.length ≤ cur.size)
    (hg' : w'.heap[b]? = some (.cells (cur.toList.take (i * sz + off) ++ vs ++ cur.toList.drop (i * sz + off + vs.length)).toArray e (0, 0))) (hb' : home' b = some lb)
    (hnew : ∀ (k : Nat) x v, xs[k]? = some x → vs[k]? = some v → CR w' home' (T.ext i (off + k)) x v)
    (hold : ∀ i' j', (∀ k, k < xs.length → ¬ (i' = i ∧ j' = off + k)) → Mv w home w' home' (T.ext i' j') (T.ext i' j')) : CR w' home' T c2 u := by
  have hm : i < m ∧ off + xs.length ≤ sz := by
    cases h with
    | val h => cases hs
    | hole h => cases hs
    | fl he hh =>
      simp only [C.setElem] at hset
      split at hset
      · rename_i e0 us h1 h2
        rw [Option.map_eq_some_iff] at hset
        obtain ⟨e', h3, _⟩ := hset
        obtain ⟨h4, _⟩ := setSeg_spec h3
        simp only [C.shape, Option.some.injEq, Prod.mk.injEq] at hs
        obtain ⟨rfl, rfl, rfl⟩ := hs
        have hmem := (he e0 (List.mem_append_left _ (List.mem_of_getElem? h1))).1
        have := congrArg List.length (vals_spec h2)
        simp only [List.length_map] at this
        exact ⟨(List.getElem?_eq_some_iff.1 h1).1, by omega⟩
      · cases hset
    | sl vs0 he hh hc =>
      simp only [C.setElem] at hset
      split at hset
      · rename_i e0 h1
        rw [Option.map_eq_some_iff] at hset
        obtain ⟨e', h3, _⟩ := hset
        obtain ⟨h4, _⟩ := setSeg_spec h3
        simp only [C.shape, Option.some.injEq, Prod.mk.injEq] at hs
        obtain ⟨rfl, rfl, rfl⟩ := hs
        have hmem := he e0 (List.mem_append_left _ (List.mem_of_getElem? h1))
        exact ⟨(List.getElem?_eq_some_iff.1 h1).1, by omega⟩
      · cases hset
  obtain ⟨him, hoff⟩ := hm
  have hlist : i * sz + off + vs.length ≤ cur.toList.length := by simpa using hle
  -- where index (i', j') falls
  have hfall : ∀ i' j', j' < sz → ((i * sz + off ≤ i' * sz + j' ∧ i' * sz + j' < i * sz + off + vs.length) ↔ (i' = i ∧ off ≤ j' ∧ j' < off + vs.length)) := by
    intro i' j' hj
    constructor
    · intro ⟨h1, h2⟩
      have hii : i' = i := by
        have e1 : (i' * sz + j') / sz = i' := idx_div hj
        have e2 : i * sz ≤ i' * sz + j' := by omega
        have e3 : i' * sz + j' < (i + 1) * sz := by rw [Nat.add_mul]; omega
        have e4 : i ≤ (i' * sz + j') / sz := (Nat.le_div_iff_mul_le (by omega)).2 e2
        have e5 : (i' * sz + j') / sz < i + 1 := (Nat.div_lt_iff_lt_mul (by omega)).2 e3
        omega
      subst hii
      exact ⟨rfl, by omega, by omega⟩
    · intro ⟨h1, h2, h3⟩
      subst h1
      omega
  have hcell : ∀ i' j', j' < sz → (cur.toList.take (i * sz + off) ++ vs ++ cur.toList.drop (i * sz + off + vs.length)).toArray[i' * sz + j']? = if i' = i ∧ off ≤ j' ∧ j' < off + vs.length then vs[j' - off]? else cur[i' * sz + j']? := by
    intro i' j' hj
    rw [List.getElem?_toArray, splice_get hlist]
    by_cases hc : i' = i ∧ off ≤ j' ∧ j' < off + vs.length
    · rw [if_pos ((hfall i' j' hj).2 hc), if_pos hc]
      obtain ⟨rfl, _, _⟩ := hc
      congr 1; omega
    · rw [if_neg (fun hh => hc ((hfall i' j' hj).1 hh)), if_neg hc]
      simp
  -- the header
  have hdr : ∀ {vs0 : Nat → Nat → Value}, Hdr w home T u m tot sz vs0 → Hdr w' home' T u m tot sz (fun i' j' => if i' = i ∧ off ≤ j' ∧ j' < off + vs.length then vs.getD (j' - off) undef else vs0 i' j') := by
    intro vs0 hh
    obtain ⟨g0, g1, a0, cap0, gu, g2, g3, g4⟩ := hh
    refine ⟨g0, g1, a0, cap0, gu, g2, g3, ?_⟩
    rw [hT] at g4 ⊢
    rw [hu] at gu
    injection gu with q1 q2 q3
    subst q1 q3
    simp only at g4
    rcases g4 with g4 | ⟨b1, cur1, e1, k1, k2, k3, k4, k5⟩
    · exact Or.inl g4
    · injection k1 with k1
      injection k1 with k1 _
      subst k1
      rw [hg] at k3
      injection k3 with k3
      injection k3 with k3 k6
      subst k3 k6
      refine Or.inr ⟨b, _, e, rfl, hb', hg', ?_, fun i' j' hi hj => ?_⟩
      · rw [List.size_toArray, splice_len hlist]; simpa using hcs
      · rw [hcell i' j' hj]
        by_cases hc : i' = i ∧ off ≤ j' ∧ j' < off + vs.length
        · simp only [if_pos hc]
          have : j' - off < vs.length := by omega
          simp [List.getD_eq_getElem?_getD, List.getElem?_eq_getElem this]
        · simp only [if_neg hc]
          exact k5 i' j' hi hj
  cases h with
  | val h => cases hs
  | hole h => cases hs
  | @fl _ sz' es sp _ he hh =>
    simp only [C.setElem] at hset
    split at hset
    · rename_i e0 us h1 h2
      rw [Option.map_eq_some_iff] at hset
      obtain ⟨e', h3, rfl⟩ := hset
      obtain ⟨h4, h5⟩ := setSeg_spec h3
      simp only [C.shape, Option.some.injEq, Prod.mk.injEq] at hs
      obtain ⟨rfl, rfl, rfl⟩ := hs
      have hxs := vals_spec h2
      have hus : us.length = xs.length := by rw [hxs]; simp
      have huv : ∀ (k : Nat) x, us[k]? = some x → vs[k]? = some x ∧ x.oneCell' = true := by
        intro k x hx
        have hlt : k < vs.length := by rw [hvl, ← hus]; exact (List.getElem?_eq_some_iff.1 hx).1
        have := hnew k (.val x) vs[k] (by rw [hxs, List.getElem?_map, hx]; rfl) (List.getElem?_eq_getElem hlt)
        rw [List.getElem?_eq_getElem hlt]
        generalize vs[k] = y at this
        cases this with
        | val h => exact ⟨rfl, h⟩
      have he0 := he e0 (List.mem_append_left _ (List.mem_of_getElem? h1))
      have hlen' : e'.length = sz' := by rw [h5, splice_len h4]; exact he0.1
      have hget : ∀ (j : Nat), e'[j]? = if off ≤ j ∧ j < off + us.length then us[j - off]? else e0[j]? := fun j => by rw [h5, splice_get h4]
      refine .fl (fun e1 he1 => ?_) ?_
      · rw [← List.set_append_left _ _ him] at he1
        rcases List.mem_or_eq_of_mem_set he1 with h6 | h6
        · exact he e1 h6
        · subst h6
          refine ⟨hlen', fun v hv => ?_⟩
          obtain ⟨j, hj⟩ := List.getElem?_of_mem hv
          rw [hget j] at hj
          split at hj
          · exact (huv _ v hj).2
          · exact he0.2 v (List.mem_of_getElem? hj)
      · rw [List.length_set]
        refine (hdr hh).congr (fun i1 j hi1 hj => ?_)
        rw [List.getD_eq_getElem?_getD (l := es.set i e' ++ sp), set_app_get him]
        by_cases hii : i1 = i
        · subst hii
          rw [if_pos rfl, Option.getD_some, List.getD_eq_getElem?_getD (l := e'), hget j]
          by_cases hjj : off ≤ j ∧ j < off + us.length
          · have hlt : j - off < us.length := by omega
            have hv := (huv (j - off) _ (List.getElem?_eq_getElem hlt)).1
            rw [if_pos ⟨rfl, by omega⟩, if_pos hjj, List.getD_eq_getElem?_getD, hv, List.getElem?_eq_getElem hlt]
          · rw [if_neg (by omega), if_neg hjj]
            have h1' : (es ++ sp)[i1]? = some e0 := by rw [List.getElem?_append_left him]; exact h1
            simp [List.getD_eq_getElem?_getD, h1']
        · rw [if_neg (fun h => hii h.1), if_neg hii]
          simp [List.getD_eq_getElem?_getD]
    · cases hset
  | @sl _ sz' es sp _ vs0 he hh hc =>
    simp only [C.setElem] at hset
    split at hset
    · rename_i e0 h1
      rw [Option.map_eq_some_iff] at hset
      obtain ⟨e', h3, rfl⟩ := hset
      obtain ⟨h4, h5⟩ := setSeg_spec h3
      simp only [C.shape, Option.some.injEq, Prod.mk.injEq] at hs
      obtain ⟨rfl, rfl, rfl⟩ := hs
      have he0 := he e0 (List.mem_append_left _ (List.mem_of_getElem? h1))
      have hlen' : e'.length = sz' := by rw [h5, splice_len h4]; exact he0
      have hget : ∀ (j : Nat), e'[j]? = if off ≤ j ∧ j < off + xs.length then xs[j - off]? else e0[j]? := fun j => by rw [h5, splice_get h4]
      refine .sl _ (fun e1 he1 => ?_) (by rw [List.length_set]; exact hdr hh) (fun i' j' e1 c1 g1 g2 => ?_)
      · rw [← List.set_append_left _ _ him] at he1
        rcases List.mem_or_eq_of_mem_set he1 with h6 | h6
        · exact he e1 h6
        · subst h6; exact hlen'
      · rw [set_app_get him] at g1
        by_cases hii : i' = i
        · subst hii
          rw [if_pos rfl] at g1
          injection g1 with g1
          subst g1
          rw [hget j'] at g2
          by_cases hjj : off ≤ j' ∧ j' < off + xs.length
          · rw [if_pos hjj] at g2
            have hlt : j' - off < vs.length := by omega
            have := hnew (j' - off) c1 _ g2 (List.getElem?_eq_getElem hlt)
            rw [if_pos ⟨rfl, by omega⟩, List.getD_eq_getElem?_getD, List.getElem?_eq_getElem hlt, Option.getD_some]
            rw [show off + (j' - off) = j' by omega] at this
            exact this
          · rw [if_neg hjj] at g2
            rw [if_neg (by omega)]
            have h1' : (es ++ sp)[i']? = some e0 := by rw [List.getElem?_append_left him]; exact h1
            exact (hc i' j' e0 c1 h1' g2).move (hold i' j' (fun k hk hkk => by omega)) (Ok.refl _)
        · rw [if_neg hii] at g1
          rw [if_neg (fun h => hii h.1)]
          exact (hc i' j' e1 c1 g1 g2).move (hold i' j' (fun k hk hkk => hii hkk.1)) (Ok.refl _)
    · cases hset
theorem setRow_step_heap {b : Nat} {cur cs : Array Value} {e : TypeId} (hg : w.heap[b]? = some (.cells cur e (0, 0))) : (w.setRow b cs).heap[b]? = some (.cells cs e (0, 0)) ∧ ∀ k, k ≠ b → (w.setRow b cs).heap[k]? = w.heap[k]? :=
  ⟨setRow_heap w b cur cs e (0, 0) hg, fun k hk => setRow_other w b k cs hk⟩
theorem ok_st (old : RtR w home hd rt F0) (he : EvR ids w home hd rt ev a.eval) {n : Nat} {x y : Opd} (hm : mSt ids P o.op n x y = true) {p : SV} (hx : evS ev x = some p) {xs : List SV} (hy : evC ev y = some xs) (hn : xs.length = n) (h : store rt xs p = some rt') :
    OpOk ids P o a w home hd rt .undef rt' := by
  unfold mSt at hm
  split at hm
  · rename_i t x' y' ho
    simp only [Bool.and_eq_true] at hm
    obtain ⟨⟨h1, h2⟩, h3⟩ := hm
    obtain ⟨hF, hpres⟩ := he.C h2 hy
    obtain ⟨hp, hpp⟩ := he.S h1 hx
    have hcn : (a.eval y').cells.size = n := by rw [← hn, hF.1]; simp
    have hvl : (a.eval y').cells.toList.length = xs.length := hF.1.symm
    have h1c : ∀ u ∈ (a.eval y').cells.toList, u.oneCell' = true := svR_oneCell hF
    have hrun : ∀ {b o' : Nat} {cur : Array Value} {e : TypeId}, a.eval x' = .pointer (some ⟨b, o', none⟩) → w.heap[b]? = some (.cells cur e (0, 0)) → o' + n ≤ cur.size →
        (execOp a.eval o).run P w = .ok .skip (w.setRow b (cur.toList.take o' ++ (a.eval y').cells.toList ++ cur.toList.drop (o' + (a.eval y').cells.toList.length)).toArray) := by
      intro b o' cur e hv hg hle
      unfold execOp
      rw [ho]
      simp only [hv, Sem.run_bind, run_store' h3 hcn hg hle h1c, Result.andThen_ok, Sem.run_pure]
    cases p with
    | c c => cases h
    | nil k => cases h
    | ref id pa off len => cases h
    | pm cs off => cases h
    | pb id off =>
      simp only [store] at h
      split at h
      · rename_i ys hr
        split at h
        · rename_i zs hz
          split at h
          · rename_i hids
            injection h with h
            subst h
            obtain ⟨b, cur, e, k1, k2, k3, k4⟩ := RR.box (old.root (.r id) _ hr)
            obtain ⟨b', k5, k6⟩ := hp.2 ys hr
            rw [k1] at k5
            injection k5 with k5; injection k5 with k5; injection k5 with k5
            subst k5
            obtain ⟨q1, q2⟩ := setSeg_spec hz
            have hle : off + n ≤ cur.size := by
              have := k4.1
              have e2 : cur.toList.length = cur.size := Array.length_toList
              omega
            have hzF := k4.setSeg hF hz
            have hzw : ∀ z ∈ zs, ∀ i ∈ z.ids, (rt i).isSome = true := by
              intro z hz' i hi
              rw [q2] at hz'
              simp only [List.mem_append] at hz'
              rcases hz' with (h5 | h5) | h5
              · exact old.wf (.r id) _ hr i (by simp only [Root.ids, List.mem_flatMap]; exact ⟨z, List.mem_of_mem_take h5, hi⟩)
              · exact hpres z h5 i hi
              · exact old.wf (.r id) _ hr i (by simp only [Root.ids, List.mem_flatMap]; exact ⟨z, List.mem_of_mem_drop h5, hi⟩)
            obtain ⟨g1, g2⟩ := setRow_step_heap (cs := (cur.toList.take off ++ (a.eval y').cells.toList ++ cur.toList.drop (off + (a.eval y').cells.toList.length)).toArray) k3
            exact .skip (hrun k6 k3 hle) (exc_box old hr k1 k2 g1 (by simpa using hzF) hzw (fun k _ hk => g2 k hk) rfl rfl rfl (by simp))
          · cases h
        · cases h
      · cases h
    | pe id pa i off =>
      simp only [store] at h
      split at h
      · rename_i l rt1 ht
        split at h
        · rename_i d t0 c hr1
          split at h
          · rename_i hcond
            obtain ⟨hdeep, hpath⟩ := hcond
            split at h
            · rename_i c' hg
              split at h
              · rename_i c2 hset
                injection h with h
                subst h
                obtain ⟨home1, hd1, F1, s1, _, fn, fr, _, l1, held⟩ := takes_step xs (k := 0) old hF hpres (fun _ _ => rfl) ht
                have hp1 := s1.st _ _ (fun i' hi' => hpp i' hi') hp
                have hroot := s1.rel.root (.r id) _ hr1
                obtain ⟨u, hu, hcr⟩ := CR.at pa hroot hg
                have hpt : pa = [] ∨ t0 = false := hpath.imp (fun h => h) (fun h => h.1)
                have hlab : ((arrTg d (.r id)).exts pa).lab = some (.r id, pa) := exts_lab (hpath.imp (fun h => h) (fun h => h.2))
                cases hs : c'.shape with
                | none => cases c' <;> first | cases hset | cases hs
                | some sh =>
                  obtain ⟨sz, m, tot⟩ := sh
                  obtain ⟨vs0, hh, hel⟩ := hcr.open hs
                  -- the element
                  have him : i < m ∧ off + xs.length ≤ sz := by
                    have hlx : (l.map (·.2)).length = xs.length := by rw [List.length_map, l1]
                    have helem : ∃ e0, c'.elem i = some e0 ∧ off + xs.length ≤ e0.length := by
                      cases c' with
                      | val v => cases hset
                      | hole => cases hset
                      | fl sz' es sp =>
                        simp only [C.setElem] at hset
                        split at hset
                        · rename_i e0 us q1 q2
                          rw [Option.map_eq_some_iff] at hset
                          obtain ⟨e', q3, _⟩ := hset
                          obtain ⟨q4, _⟩ := setSeg_spec q3
                          have := congrArg List.length (vals_spec q2)
                          rw [List.length_map (as := us), hlx] at this
                          exact ⟨e0.map .val, by simp [C.elem, q1], by rw [List.length_map]; omega⟩
                        · cases hset
                      | sl sz' es sp =>
                        simp only [C.setElem] at hset
                        split at hset
                        · rename_i e0 q1
                          rw [Option.map_eq_some_iff] at hset
                          obtain ⟨e', q3, _⟩ := hset
                          obtain ⟨q4, _⟩ := setSeg_spec q3
                          exact ⟨e0, by simp [C.elem, q1], by omega⟩
                        · cases hset
                    obtain ⟨e0, q1, q2⟩ := helem
                    have := hel i e0 (C.elem_elemA q1)
                    exact ⟨C.elem_lt q1 hs, by omega⟩
                  obtain ⟨b, o', kk, cap, k6, k7⟩ := hp1.2 d t0 c hr1 hpt c' u hg hu sz m tot hs him.1
                  -- its block
                  have hh2 := hh
                  obtain ⟨z0, z1, a0, cap0, z2, z3, z4, z5⟩ := hh2
                  rw [hlab] at z5
                  rw [k6] at z2
                  injection z2 with y1 y2 y3
                  subst y1 y2 y3
                  rcases z5 with z5 | ⟨b1, cur, e, j1, j2, j3, j4, j5⟩
                  · omega
                  · injection j1 with j1
                    injection j1 with j1 j6
                    subst j1 j6
                    rw [Nat.zero_add] at k7
                    have hbound : i * sz + off + xs.length ≤ cur.size := by
                      rw [j4]
                      have : (i + 1) * sz ≤ cap * sz := Nat.mul_le_mul_right _ (by omega)
                      rw [Nat.add_mul] at this
                      omega
                    have hrun' := hrun k7 j3 (by omega)
                    obtain ⟨g1, g2⟩ := setRow_step_heap (w := w) (cs := (cur.toList.take (i * sz + off) ++ (a.eval y').cells.toList ++ cur.toList.drop (i * sz + off + (a.eval y').cells.toList.length)).toArray) j3
                    let g : Nat → Path → Option Path := fun mm q => if d then some (pa ++ (i, off + mm) :: q) else none
                    have himm : ∀ k, k < w.heap.size → home1 k = none → (w.setRow b (cur.toList.take (i * sz + off) ++ (a.eval y').cells.toList ++ cur.toList.drop (i * sz + off + (a.eval y').cells.toList.length)).toArray).heap[k]? = w.heap[k]? ∧ excHome home1 0 id g k = none :=
                      fun k hk hn' => ⟨g2 k (fun e => by subst e; rw [j2] at hn'; cases hn'), excHome_eq hn' (fun m q e => by cases e)⟩
                    have hnode : CR (w.setRow b (cur.toList.take (i * sz + off) ++ (a.eval y').cells.toList ++ cur.toList.drop (i * sz + off + (a.eval y').cells.toList.length)).toArray) (excHome home1 0 id g) ((arrTg d (.r id)).exts pa) c2 u := by
                      refine node_set hcr hset hs hlab k6 j3 j4 (by rw [hvl, List.length_map, l1]) (by rw [hvl]; exact hbound) g1 (excHome_eq j2 (fun m q e => by cases e)) (fun k x v hxk hvk => ?_) (fun i' j' hne q bb hbb hl => ?_)
                      · rw [List.getElem?_map, Option.map_eq_some_iff] at hxk
                        obtain ⟨q, hq, rfl⟩ := hxk
                        have hheld := (held k q v hq hvk).1
                        rw [Nat.zero_add] at hheld
                        refine Held.goes s1.rel hheld himm (fun q' bb hbb hl => ⟨g2 bb (fun e => by subst e; rw [j2] at hl; cases hl), ?_⟩) ?_
                        · rw [excHome_t hl (Nat.zero_le _)]
                          cases d with
                          | true => simp [g, exts_true_own, Tg.ext, Tg.exts_own, Tg.lab]
                          | false => simp [g, exts_false_imm, Tg.exts_imm, Tg.lab]
                        · cases d with
                          | true =>
                            refine Or.inr ⟨⟨_, _, by rw [exts_true_own]; rfl⟩, ?_⟩
                            have := hdeep.resolve_left (by simp)
                            rw [List.all_eq_true] at this
                            exact this q (List.mem_of_getElem? hq)
                          | false => exact Or.inl (exts_false_imm _ _ _ _)
                      · have hbne : bb ≠ b := by
                          intro e
                          subst e
                          rw [j2] at hl
                          cases d with
                          | true =>
                            rw [exts_true_own, Tg.ext, Tg.exts_own, Tg.lab] at hl
                            injection hl with hl
                            injection hl with _ hl
                            have := congrArg List.length hl
                            simp at this
                          | false =>
                            rw [exts_false_imm, Tg.exts_imm] at hl; cases hl
                        refine ⟨g2 bb hbne, ?_⟩
                        cases d with
                        | true =>
                          rw [exts_true_own, Tg.ext, Tg.exts_own, Tg.lab] at hl ⊢
                          exact excHome_eq hl (fun m q e => by cases e)
                        | false =>
                          rw [exts_false_imm, Tg.exts_imm] at hl ⊢
                          exact excHome_eq hl (fun m q e => by cases e)
                    obtain ⟨sh1, sh2⟩ := C.setElem_shape hset
                    obtain ⟨sh3, sh4⟩ := C.set_shape hg sh1 sh2
                    have hwhole : CR (w.setRow b (cur.toList.take (i * sz + off) ++ (a.eval y').cells.toList ++ cur.toList.drop (i * sz + off + (a.eval y').cells.toList.length)).toArray) (excHome home1 0 id g) (arrTg d (.r id)) (c.set pa c2) (hd1 (.r id)) := by
                      refine CR.set pa hroot hg hu (fun q bb hbb hl hq => ?_) hnode
                      have hbne : bb ≠ b := by
                        intro e
                        subst e
                        rw [j2] at hl
                        rcases arrTg_exts d (.r id) q with h5 | h5
                        · rw [h5] at hl; cases hl
                        · rw [h5] at hl
                          injection hl with hl
                          injection hl with _ hl
                          subst hl
                          exact hq (List.prefix_refl _)
                      refine ⟨g2 bb hbne, ?_⟩
                      rcases arrTg_exts d (.r id) q with h5 | h5
                      · rw [h5] at hl ⊢; exact excHome_eq hl (fun m q e => by cases e)
                      · rw [h5] at hl ⊢; exact excHome_eq hl (fun m q e => by cases e)
                    have s2 := exchange s1.rel (k0 := 0) (t' := t0 || !c.flat) hr1 g sh3 (fun hf => by
                      simp only [Bool.or_eq_false_iff, Bool.not_eq_false'] at hf
                      exact sh4 hf.2) (fun bb hbb hbq => g2 bb (fun e => by subst e; exact hbq _ j2)) rfl rfl rfl (by simp) hwhole
                    have hF0 : asmF F1 0 = F0 := by funext j; simp [asmF, F0]
                    rw [hF0] at s2
                    exact .skip hrun' (s1.trans s2)
              · cases h
            · cases h
          · cases h
        · cases h
      · cases h
  · cases hm
end
end Go.Proofs.YtecmolmlojehgaaGreat.T
namespace Go.Proofs.YtecmolmlojehgaaGreat.T
open Go
variable (ids : Nat → FuncId)

section
variable {ids} {P : Program} {o : Oper} {a : Act} {w : World} {home : Home} {hd : Lb → Value} {rt rt' : Rts} {av : AV} {ev : Ev} {F : Nat → Option Root}
theorem run_append {t t2 ty e : TypeId} {ti : TypeInfo} {z : Value} (ht : P.underlying t = some (.slice e)) (ht2 : P.underlying t2 = some .string ∨ ∃ e2, P.underlying t2 = some (.slice e2)) (hti : P.info? e = some ti) (hz : ti.zero = some z) (hzs : z.cells.size = ti.size)
    {ad : Option Addr} {n cap : Nat} (hnc : n ≤ cap) {b : Nat} {cur : Array Value} {e' : TypeId} (hb : 0 < cap → ad = some ⟨b, 0, none⟩ ∧ w.heap[b]? = some (.cells cur e' (0, 0)) ∧ cur.size = cap * ti.size)
    {olds : List Value} (hol : olds.length = n * ti.size) (hold : ∀ (j : Nat) u, olds[j]? = some u → cur[j]? = some u)
    {yv : Value} {m : Nat} {news : List Value} (hnl : news.length = m * ti.size) (hlen : (Builtin.lenOf yv).run P w = .ok m w) (hsrc : ∀ w1 : World, w1.heap = w.heap → (Builtin.firstCells ti.size m yv).run P w1 = .ok news.toArray w1) (h1 : ∀ u ∈ news, u.oneCell' = true)
    (hbytes : (n + m) * ti.bytes ≤ 140737488355328) (h63 : n + m ≤ 9223372036854775807) :
    ∃ v' w', (Builtin.append_ #[t, t2] ty #[.slice ad n cap, yv]).run P w = .ok v' w' ∧
      ((n + m = 0 ∧ cap = 0 ∧ v' = .slice ad n cap ∧ w' = w) ∨
       (n + m ≤ cap ∧ 0 < cap ∧ v' = .slice ad (n + m) cap ∧ w' = w.setRow b (cur.toList.take (n * ti.size) ++ news ++ cur.toList.drop (n * ti.size + news.length)).toArray) ∨
       (∃ cap', cap < n + m ∧ n + m ≤ cap' ∧ cap' ≤ maxLen ∧ v' = .slice (some ⟨w.heap.size, 0, none⟩) (n + m) cap' ∧
          w' = w.drew.alloc (.cells (olds.toArray ++ news.toArray ++ Builtin.zeroCells z.cells (cap' - (n + m))) e))) := by
  rcases ht2 with ht2 | ⟨e2, ht2⟩
  all_goals
    by_cases hroom : n + m ≤ cap
    · by_cases hc0 : cap = 0
      · have hm0 : m = 0 := by omega
        subst hm0
        have hn0 : news = [] := List.eq_nil_of_length_eq_zero (by simpa using hnl)
        subst hn0
        refine ⟨.slice ad n cap, w, ?_, Or.inl ⟨by omega, hc0, rfl, rfl⟩⟩
        unfold Builtin.append_
        have hs0 := hsrc w rfl
        cases ad with
        | none => simp [run_underlying ht, run_underlying ht2, run_sizeOf' hti, hlen, hnc, hs0]
        | some x => simp [run_underlying ht, run_underlying ht2, run_sizeOf' hti, hlen, hnc, hs0, storeCells]
      · obtain ⟨rfl, hg, hcs⟩ := hb (by omega)
        have hfit : n * ti.size + news.length ≤ cur.size := by rw [hnl, hcs, ← Nat.add_mul]; exact Nat.mul_le_mul_right _ hroom
        have hst := run_storeCells_at P b (n * ti.size) e' news 0 cur w hg (by simpa using hfit) h1
        simp only [Nat.add_zero] at hst
        refine ⟨_, _, ?_, Or.inr (Or.inl ⟨hroom, by omega, rfl, rfl⟩)⟩
        unfold Builtin.append_
        have hs0 := hsrc w rfl
        simp [run_underlying ht, run_underlying ht2, run_sizeOf' hti, hlen, hroom, hs0, addr_add, hst]
    · have hge := grownCap_ge w (n + m) cap e
      have hcm := grownCap_le_maxLen w (n + m) cap e (by unfold maxLen; omega)
      refine ⟨_, _, ?_, Or.inr (Or.inr ⟨grownCap w (n + m) cap e, by omega, hge, hcm, rfl, rfl⟩)⟩
      have h63' : ¬ (9223372036854775807 < ((n : Int) + (m : Int))) := by omega
      have hfit := growslice_fits (need := n + m) (old := cap) (bytes := ti.bytes) (by omega) hbytes
      have h48' : ¬ (281474976710656 < Builtin.nextslicecap (n + m) cap * ti.bytes) := by omega
      have hs0 := hsrc w.drew rfl
      have hfo : (Builtin.firstCells ti.size n (.slice ad n cap)).run P w.drew = .ok olds.toArray w.drew := by
        cases ad with
        | none =>
          have : cap = 0 := by
            rcases Nat.eq_zero_or_pos cap with h | h
            · exact h
            · have := (hb h).1; cases this
          have : olds = [] := List.eq_nil_of_length_eq_zero (by rw [hol]; have : n = 0 := by omega
                                                                rw [this, Nat.zero_mul])
          subst this
          exact run_firstCells_none w.drew ti.size n n cap
        | some x =>
          refine run_firstCells_some (P := P) w.drew ti.size n x n cap olds hol (fun j u hj => ?_)
          have hc : 0 < cap := by
            rcases Nat.eq_zero_or_pos cap with h | h
            · have : n = 0 := by omega
              rw [this, Nat.zero_mul] at hol
              have := (List.getElem?_eq_some_iff.1 hj).1
              omega
            · exact h
          obtain ⟨hx, hg, _⟩ := hb hc
          injection hx with hx
          subst hx
          rw [addr_add, Nat.zero_add]
          have hg' : w.drew.heap[b]? = some (.cells cur e' (0, 0)) := hg
          rw [cell_row hg']
          exact hold j u hj
      unfold Builtin.append_
      simp [run_underlying ht, run_underlying ht2, run_typeInfo w hti, sizeOf, typeInfo, zeroValue, hti, hz, hlen, hroom, h63', h48', Question.forced, hs0, hfo, newRow, grownCap]
      congr 2
      apply Array.ext'
      simp [List.append_assoc]
theorem run_lenOf_slice {ad : Option Addr} {n cap : Nat} : (Builtin.lenOf (.slice ad n cap)).run P w = .ok n w := rfl
/-- A flat slice as what is appended. -/
theorem flat_source {v : Value} {sz : Nat} {ys : List (List Value)} (h : Flat w v sz ys) : (Builtin.lenOf v).run P w = .ok ys.length w ∧ ys.flatten.length = ys.length * sz ∧ (∀ u ∈ ys.flatten, u.oneCell' = true) ∧
    ∀ w1 : World, w1.heap = w.heap → (Builtin.firstCells sz ys.length v).run P w1 = .ok ys.flatten.toArray w1 := by
  obtain ⟨h0, he, ad, cap, rfl, h1, h2, h3⟩ := h
  have hl : ys.flatten.length = ys.length * sz := flat_len (fun e h => (he e h).1)
  refine ⟨rfl, hl, fun u hu => ?_, fun w1 hw => ?_⟩
  · rw [List.mem_flatten] at hu
    obtain ⟨e, g1, g2⟩ := hu
    exact (he e g1).2 u g2
  · cases ad with
    | none =>
      have : ys = [] := by
        cases ys with
        | nil => rfl
        | cons y ys => obtain ⟨b, o', g, _⟩ := h3 (by simp); cases g
      subst this
      exact run_firstCells_none w1 sz _ _ _
    | some x =>
      refine run_firstCells_some (P := P) w1 sz ys.length x ys.length cap ys.flatten hl (fun j u hj => ?_)
      have hpos : 0 < ys.length := by
        cases ys with
        | nil => simp at hj
        | cons y ys => simp
      obtain ⟨b, o', g1, g2⟩ := h3 hpos
      injection g1 with g1
      subst g1
      rw [addr_add]
      have := g2 j u hj
      simpa [World.cell?, hw] using this
end
def strOrSlice : TypeDesc → Bool
  | .string => true
  | .slice _ => true
  | _ => false
def mApp (P : Program) (o : Op) (k : K) (bytes : Nat) (x y : Opd) : Bool :=
  match o with
  | .call c =>
    match c.callee with
    | .builtin .append =>
      match c.args.toList, c.argTypes.toList with
      | [x', y'], [t, t2] => mOpd ids x' x && mOpd ids y' y && under P t2 strOrSlice && decide (0 < k.sz) &&
        match P.underlying t with
        | some (.slice e) => match P.info? e with
          | some i => i.bytes == bytes && i.size == k.sz && match i.zero with
            | some z => z.cells.size == i.size
            | none => false
          | none => false
        | _ => false
      | _, _ => false
    | _ => false
  | _ => false
section
variable {ids} {P : Program} {o : Oper} {a : Act} {w : World} {home : Home} {hd : Lb → Value} {rt rt' : Rts} {av : AV} {ev : Ev} {F : Nat → Option Root}
theorem mApp_spec {k : K} {bytes : Nat} {x y : Opd} (h : mApp ids P o.op k bytes x y = true) : ∃ x' y' t t2 e ti z, o.op = .call { callee := .builtin .append, args := #[x', y'], argTypes := #[t, t2] } ∧ mOpd ids x' x = true ∧ mOpd ids y' y = true ∧
    (P.underlying t2 = some .string ∨ ∃ e2, P.underlying t2 = some (.slice e2)) ∧ 0 < k.sz ∧ P.underlying t = some (.slice e) ∧ P.info? e = some ti ∧ ti.bytes = bytes ∧ ti.size = k.sz ∧ ti.zero = some z ∧ z.cells.size = ti.size := by
  unfold mApp at h
  split at h
  · rename_i c ho
    split at h
    · rename_i hc
      split at h
      · rename_i x' y' t t2 hx1 hx2
        simp only [Bool.and_eq_true, decide_eq_true_eq] at h
        obtain ⟨⟨⟨⟨h1, h2⟩, h3⟩, h4⟩, h5⟩ := h
        obtain ⟨d2, hd2, hd3⟩ := under_spec h3
        split at h5
        · rename_i e hd1
          split at h5
          · rename_i ti hti
            simp only [Bool.and_eq_true, beq_iff_eq] at h5
            obtain ⟨⟨h6, h7⟩, h8⟩ := h5
            split at h8
            · rename_i z hz
              refine ⟨x', y', t, t2, e, ti, z, ?_, h1, h2, ?_, h4, hd1, hti, h6, h7, hz, by simpa using h8⟩
              · rw [ho]
                cases c
                simp only at hc hx1 hx2
                rw [hc, toList_two hx1, toList_two hx2]
              · cases d2 <;> simp [strOrSlice] at hd3
                · exact Or.inl hd2
                · exact Or.inr ⟨_, hd2⟩
            · cases h8
          · cases h5
        · cases h5
      · cases h
    · cases h
  · cases h
theorem exec_append {x' y' : Operand} {t t2 : TypeId} (ho : o.op = .call { callee := .builtin .append, args := #[x', y'], argTypes := #[t, t2] }) {v : Value} {w' : World} (h : (Builtin.append_ #[t, t2] o.type #[a.eval x', a.eval y']).run P w = .ok v w') :
    (execOp a.eval o).run P w = .ok (.value v) w' := by
  unfold execOp
  rw [ho]
  simp only [resolve, invoke, builtin, Sem.run_bind, Sem.run_pure, Result.andThen_ok, List.map_toArray, List.map_cons, List.map_nil, h]
theorem takeSl_spec {x : SV} {ox : Ow} {c : C} {rt1 : Rts} (h : takeSl rt x = some (ox, c, rt1)) : take rt x = some (ox, c, rt1) ∧ ((∃ sz es sp, c = .fl sz es sp) ∨ ∃ sz es sp, c = .sl sz es sp) := by
  unfold takeSl at h
  split at h
  · rename_i o sz es sp rt2 h1
    injection h with h; injection h with h2 h3; injection h3 with h3 h4; subst h2 h3 h4
    exact ⟨h1, Or.inl ⟨_, _, _, rfl⟩⟩
  · rename_i o sz es sp rt2 h1
    injection h with h; injection h with h2 h3; injection h3 with h3 h4; subst h2 h3 h4
    exact ⟨h1, Or.inr ⟨_, _, _, rfl⟩⟩
  · cases h
/-- A row's own block. -/
theorem Hdr.block {t : Tg} {u : Value} {len tot sz : Nat} {vs : Nat → Nat → Value} (h : Hdr w home t u len tot sz vs) {lb : Lb × Path} (ht : t.lab = some lb) : ∃ ad cap b cur e, u = .slice ad len cap ∧ len ≤ tot ∧ tot ≤ cap ∧ cap ≤ maxLen ∧
    (0 < cap → ad = some ⟨b, 0, none⟩ ∧ home b = some lb ∧ w.heap[b]? = some (.cells cur e (0, 0)) ∧ cur.size = cap * sz ∧ ∀ i j, i < tot → j < sz → cur[i * sz + j]? = some (vs i j)) := by
  obtain ⟨g0, g1, a0, cap0, gu, g2, g3, g4⟩ := h
  rw [ht] at g4
  rcases g4 with g4 | ⟨b, cur, e, k1, k2, k3, k4, k5⟩
  · exact ⟨a0, cap0, 0, #[], 0, gu, g1, g2, g3, fun h => by omega⟩
  · exact ⟨a0, cap0, b, cur, e, gu, g1, g2, g3, fun _ => ⟨k1, k2, k3, k4, k5⟩⟩
theorem ok_app_flat (old : RtR w home hd rt F0) (he : EvR ids w home hd rt ev a.eval) {sz bytes : Nat} {x y : Opd} (hm : mApp ids P o.op (.fl sz) bytes x y = true) {p q : SV} (hx : evS ev x = some p) (hy : evS ev y = some q) {ys : List (List Value)}
    (hsrc : ∀ v, SVR w home hd rt q v → (Builtin.lenOf v).run P w = .ok ys.length w ∧ ys.flatten.length = ys.length * sz ∧ (∀ u ∈ ys.flatten, u.oneCell' = true) ∧ (∀ e ∈ ys, e.length = sz) ∧ ∀ w1 : World, w1.heap = w.heap → (Builtin.firstCells sz ys.length v).run P w1 = .ok ys.flatten.toArray w1)
    {ox : Ow} {es sp : List (List Value)} {rt2 : Rts} (htk : takeSl rt p = some (ox, .fl sz es sp, rt2)) (hox : ox ≠ .imm) (hb : (es.length + ys.length) * bytes ≤ 140737488355328) (h63 : es.length + ys.length ≤ 9223372036854775807) {id : Nat}
    (h : newRt rt2 id (.arr true false (.fl sz (es ++ ys) [])) = some rt') : OpOk ids P o a w home hd rt (.sv (.ref id [] 0 (es.length + ys.length))) rt' := by
  obtain ⟨x', y', t, t2, e, ti, z, ho, h1, h2, h3, h4, hu, hti, hby, hsz, hz, hzs⟩ := mApp_spec hm
  have hsz' : ti.size = sz := hsz
  subst hsz'
  have h4 : 0 < ti.size := h4
  obtain ⟨hp, hpp⟩ := he.S h1 hx
  obtain ⟨s1, s2, s3, s3', s4⟩ := hsrc _ (he.S h2 hy).1
  obtain ⟨hn1, hn2, _, rfl⟩ := newRt_spec h
  obtain ⟨home1, hd1, F1, st1, f1, g1, held, _⟩ := take_step old hp (k := 0) rfl (takeSl_spec htk).1
  rcases held with ⟨e1, _⟩ | ⟨_, hF1, hv, _⟩
  · exact absurd e1 hox
  have hroot : CR w home1 (arrTg (decide (ox = .deep)) (.t 0)) (.fl ti.size es sp) (hd1 (.t 0)) := st1.rel.root (.t 0) _ hF1
  rw [hv] at hroot
  have hlab : (arrTg (decide (ox = .deep)) (.t 0)).lab = some (.t 0, []) := by cases ox <;> first | exact absurd rfl hox | rfl
  cases hroot with
  | fl hel hh =>
    obtain ⟨ad, cap, b, cur, e', hvu, hle1, hle2, hcm, hblk⟩ := hh.block hlab
    have hes : ∀ e0 ∈ es, e0.length = ti.size := fun e0 h0 => (hel e0 (List.mem_append_left _ h0)).1
    have hold : ∀ (j : Nat) u, es.flatten[j]? = some u → cur[j]? = some u := by
      intro j u hj
      obtain ⟨e0, k1, k2, k3, k4⟩ := flat_split h4 hes hj
      have hpos : 0 < es.length := Nat.lt_of_le_of_lt (Nat.zero_le _) k3
      have hc : 0 < cap := by omega
      obtain ⟨_, _, _, _, k5⟩ := hblk hc
      have := k5 (j / ti.size) (j % ti.size) (by omega) (Nat.mod_lt _ h4)
      rw [k4] at this
      rw [this]
      have h6 : (es ++ sp)[j / ti.size]? = some e0 := by rw [List.getElem?_append_left k3]; exact k1
      simp [List.getD_eq_getElem?_getD, h6, k2]
    obtain ⟨v', w', hrun, hcases⟩ := run_append (P := P) (w := w) (ty := o.type) hu h3 hti hz hzs (ad := ad) (n := es.length) (cap := cap) (by omega) (b := b) (cur := cur) (e' := e') (fun h0 => ⟨(hblk h0).1, (hblk h0).2.2.1, (hblk h0).2.2.2.1⟩) (olds := es.flatten) (flat_len hes) hold
      s2 s1 s4 s3 (by rw [hby]; exact hb) h63
    have hex : (execOp a.eval o).run P w = .ok (.value v') w' := exec_append ho (by rw [hvu]; exact hrun)
    have hF0 : asmF F1 0 = F0 := by funext j; simp [asmF, F0]
    have hel2 : ∀ e0 ∈ es ++ ys ++ [], e0.length = ti.size ∧ ∀ v ∈ e0, v.oneCell' = true := by
      intro e0 h0
      rw [List.append_nil, List.mem_append] at h0
      rcases h0 with h0 | h0
      · exact hel e0 (List.mem_append_left _ h0)
      · exact ⟨s3' e0 h0, fun v hv => s3 v (List.mem_flatten.2 ⟨e0, h0, hv⟩)⟩
    have hall : ∀ e0 ∈ es ++ ys, e0.length = ti.size := fun e0 h0 => (hel2 e0 (by simpa using h0)).1
    have hflat : (es ++ ys).flatten = es.flatten ++ ys.flatten := List.flatten_append
    have hnew : ∀ {B cap' : Nat} {cur' : Array Value} {e1 : TypeId} {w2 : World} {home2 : Home}, es.length + ys.length ≤ cap' → cap' ≤ maxLen → home2 B = some (.r id, []) → w2.heap[B]? = some (.cells cur' e1 (0, 0)) → cur'.size = cap' * ti.size →
        (∀ (j : Nat) u, (es.flatten ++ ys.flatten)[j]? = some u → cur'[j]? = some u) → CR w2 home2 (arrTg true (.r id)) (.fl ti.size (es ++ ys) []) (.slice (some ⟨B, 0, none⟩) (es.length + ys.length) cap') := by
      intro B cap' cur' e1 w2 home2 q1 q2 q3 q4 q5 q6
      refine .fl hel2 ?_
      rw [List.append_nil, List.length_nil, Nat.add_zero, List.length_append]
      refine Hdr.new (t := arrTg true (.r id)) rfl h4 q1 q2 q3 q4 q5 (fun i j hi hj => ?_)
      have hi' : i < (es ++ ys).length := by rw [List.length_append]; exact hi
      have hj' : j < ((es ++ ys)[i]).length := by rw [hall _ (List.getElem_mem hi')]; exact hj
      have := flat_get hall (List.getElem?_eq_getElem hi') (List.getElem?_eq_getElem hj')
      rw [hflat] at this
      rw [q6 _ _ this]
      simp [List.getD_eq_getElem?_getD, List.getElem?_eq_getElem hi', List.getElem?_eq_getElem hj']
    rcases hcases with ⟨c1, c2, rfl, hw⟩ | ⟨c1, c2, rfl, rfl⟩ | ⟨cap', c1, c2, c3, rfl, rfl⟩
    · have hw := hw.symm
      subst hw
      have he0 : es = [] := List.eq_nil_of_length_eq_zero (by omega)
      have hy0 : ys = [] := List.eq_nil_of_length_eq_zero (by omega)
      subst he0 hy0 c2
      have hcr : CR w (asmHome home1 0 id none (fun _ _ => none)) (arrTg true (.r id)) (.fl ti.size ([] ++ []) []) (.slice ad 0 0) := by
        have := (CR.kempty (w := w) (home := asmHome home1 0 id none (fun _ _ => none)) (t := arrTg true (.r id)) (k := .fl ti.size) h4).readdr (a' := ad) (by simp [K.empty, C.shape]) (fun h => absurd h (by omega))
        exact this
      have s2 := assemble (w' := w) st1.rel hn1 hn2 (k0 := 0) (B := none) (fun _ _ => none) (fun b h => by cases h) (fun _ _ _ => rfl) rfl rfl rfl (Nat.le_refl _) hcr
      rw [hF0] at s2
      exact .value hex (st1.trans s2) (new_ref (home := asmHome home1 0 id none (fun _ _ => none)) (updL_same _ _ _) (Nat.le_refl _))
    · obtain ⟨had, hhb, hg, hcs, _⟩ := hblk c2
      subst had
      have hle : es.length * ti.size + ys.flatten.length ≤ cur.toList.length := by
        rw [s2]
        have e2 : cur.toList.length = cur.size := Array.length_toList
        rw [e2, hcs, ← Nat.add_mul]; exact Nat.mul_le_mul_right _ c1
      obtain ⟨r1, r2⟩ := setRow_step_heap (w := w) (cs := (cur.toList.take (es.length * ti.size) ++ ys.flatten ++ cur.toList.drop (es.length * ti.size + ys.flatten.length)).toArray) hg
      have hcr := hnew (B := b) (home2 := asmHome home1 0 id (some b) (fun _ _ => none)) c1 hcm asmHome_B r1 (by rw [List.size_toArray, splice_len hle]; simpa using hcs) (fun j u hj => by
        rw [List.getElem?_toArray, splice_get hle]
        by_cases hjj : j < es.flatten.length
        · rw [List.getElem?_append_left hjj] at hj
          rw [if_neg (by rw [flat_len hes] at hjj; omega)]
          have := hold j u hj
          simpa using this
        · rw [List.getElem?_append_right (by omega)] at hj
          have hlt := (List.getElem?_eq_some_iff.1 hj).1
          rw [flat_len hes] at hjj hj hlt
          rw [if_pos ⟨by omega, by omega⟩]
          exact hj)
      have s2 := assemble (w' := w.setRow b (cur.toList.take (es.length * ti.size) ++ ys.flatten ++ cur.toList.drop (es.length * ti.size + ys.flatten.length)).toArray) st1.rel hn1 hn2 (k0 := 0) (B := some b) (fun _ _ => none)
        (fun b' hb' => by injection hb' with hb'; subst hb'; exact ⟨heap_lt r1, fun _ => ⟨0, [], Nat.le_refl _, hhb⟩⟩) (fun b' _ hne => r2 b' (fun e => hne (by rw [e]))) rfl rfl rfl (by simp) hcr
      rw [hF0] at s2
      exact .value hex (st1.trans s2) (new_ref (home := asmHome home1 0 id (some b) (fun _ _ => none)) (updL_same _ _ _) c1)
    · have hg := heap_alloc_new w.drew (.cells (es.flatten.toArray ++ ys.flatten.toArray ++ Builtin.zeroCells z.cells (cap' - (es.length + ys.length))) e)
      have hcr := hnew (B := w.heap.size) (home2 := asmHome home1 0 id (some w.heap.size) (fun _ _ => none)) c2 c3 asmHome_B hg (by
        simp only [Array.size_append, List.size_toArray, size_zeroCells, hzs, flat_len hes, s2, ← Nat.add_mul]; congr 1; omega) (fun j u hj => by
          rw [Array.getElem?_append_left (by have := (List.getElem?_eq_some_iff.1 hj).1; simpa using this)]
          simpa using hj)
      have s2 := assemble (w' := w.drew.alloc (.cells (es.flatten.toArray ++ ys.flatten.toArray ++ Builtin.zeroCells z.cells (cap' - (es.length + ys.length))) e)) st1.rel hn1 hn2 (k0 := 0) (B := some w.heap.size) (fun _ _ => none)
        (fun b' hb' => by injection hb' with hb'; subst hb'; exact ⟨heap_lt hg, fun h => by omega⟩) (fun b' hb' _ => heap_alloc_old w.drew _ b' hb') rfl rfl rfl (Nat.le_of_lt (heap_lt hg)) hcr
      rw [hF0] at s2
      exact .value hex (st1.trans s2) (new_ref (home := asmHome home1 0 id (some w.heap.size) (fun _ _ => none)) (updL_same _ _ _) c2)
end
end Go.Proofs.YtecmolmlojehgaaGreat.T
namespace Go.Proofs.YtecmolmlojehgaaGreat.T
open Go
variable (ids : Nat → FuncId)

section
variable {ids} {P : Program} {o : Oper} {a : Act} {w : World} {home : Home} {hd : Lb → Value} {rt rt' : Rts} {av : AV} {ev : Ev} {F : Nat → Option Root}
/-- The cells of a row of elements, one behind the other. -/
theorem sl_cells {t : Tg} {sz : Nat} {es sp : List (List C)} {u : Value} (h : CR w home t (.sl sz es sp) u) : ∃ news : List Value, news.length = es.length * sz ∧ (∀ v ∈ news, v.oneCell' = true) ∧ (∀ e ∈ es, e.length = sz) ∧ 0 < sz ∧
    (∀ (i j : Nat) e c, es[i]? = some e → e[j]? = some c → ∃ v, news[i * sz + j]? = some v ∧ CR w home (t.ext i j) c v) ∧
    ∃ ad cap, u = .slice ad es.length cap ∧ es.length + sp.length ≤ cap ∧ cap ≤ maxLen ∧
      (∀ lb, t.lab = some lb → 0 < cap → ∃ b cur e, ad = some ⟨b, 0, none⟩ ∧ home b = some lb ∧ w.heap[b]? = some (.cells cur e (0, 0)) ∧ cur.size = cap * sz ∧ ∀ (k : Nat) v, news[k]? = some v → cur[k]? = some v) ∧
      (0 < es.length → ∃ b o, ad = some ⟨b, o, none⟩ ∧ ∀ (k : Nat) v, news[k]? = some v → w.cell? ⟨b, o + k, none⟩ = some v) := by
  cases h with
  | sl vs he hh hc =>
    have hh0 := hh
    obtain ⟨h0, hlt, ad, cap, hu, htc, hcm, hcase⟩ := hh
    have hes : ∀ e ∈ es, e.length = sz := fun e h => he e (List.mem_append_left _ h)
    have hget : ∀ (k : Nat) v, ((List.range (es.length * sz)).map (fun k => vs (k / sz) (k % sz)))[k]? = some v → k / sz < es.length ∧ k % sz < sz ∧ vs (k / sz) (k % sz) = v ∧ k / sz * sz + k % sz = k := by
      intro k v hk
      rw [List.getElem?_map, Option.map_eq_some_iff] at hk
      obtain ⟨k', h1, h2⟩ := hk
      have h3 := (List.getElem?_eq_some_iff.1 h1).1
      rw [List.length_range] at h3
      rw [List.getElem?_range h3] at h1
      injection h1 with h1
      subst h1
      exact ⟨(Nat.div_lt_iff_lt_mul h0).2 h3, Nat.mod_lt _ h0, h2, by rw [Nat.mul_comm]; exact Nat.div_add_mod k sz⟩
    refine ⟨(List.range (es.length * sz)).map (fun k => vs (k / sz) (k % sz)), by simp, fun v hv => ?_, hes, h0, fun i j e c h1 h2 => ?_, ad, cap, hu, htc, hcm, fun lb hlb hpos => ?_, fun hpos => ?_⟩
    · obtain ⟨k, hk⟩ := List.getElem?_of_mem hv
      obtain ⟨g1, g2, g3, _⟩ := hget k v hk
      have h1 : (es ++ sp)[k / sz]? = some es[k / sz] := by rw [List.getElem?_append_left g1]; exact List.getElem?_eq_getElem g1
      have h2 : k % sz < (es[k / sz]).length := by rw [hes _ (List.getElem_mem g1)]; exact g2
      rw [← g3]
      exact (hc _ _ _ _ h1 (List.getElem?_eq_getElem h2)).one
    · have hi := (List.getElem?_eq_some_iff.1 h1).1
      have hj : j < sz := by rw [← hes e (List.mem_of_getElem? h1)]; exact (List.getElem?_eq_some_iff.1 h2).1
      have hlt : i * sz + j < es.length * sz := by
        have : (i + 1) * sz ≤ es.length * sz := Nat.mul_le_mul_right _ hi
        rw [Nat.add_mul] at this; omega
      refine ⟨vs i j, ?_, hc i j e c (by rw [List.getElem?_append_left hi]; exact h1) h2⟩
      rw [List.getElem?_map, List.getElem?_range hlt, Option.map_some, idx_div hj, idx_mod hj]
    · rw [hlb] at hcase
      rcases hcase with hcase | ⟨b, cur, e, k1, k2, k3, k4, k5⟩
      · omega
      · refine ⟨b, cur, e, k1, k2, k3, k4, fun k v hk => ?_⟩
        obtain ⟨g1, g2, g3, g4⟩ := hget k v hk
        have := k5 (k / sz) (k % sz) (by omega) g2
        rw [g4, g3] at this
        exact this
    · obtain ⟨b, o', cap2, hu2, _, _, _⟩ := hh0.cell (i := 0) (j := 0) (by omega) h0
      rw [hu] at hu2
      injection hu2 with hu2 _ _
      subst hu2
      refine ⟨b, o', rfl, fun k v hk => ?_⟩
      obtain ⟨g1, g2, g3, g4⟩ := hget k v hk
      obtain ⟨b3, o3, cap3, hu3, _, _, hv3⟩ := hh0.cell (i := k / sz) (j := k % sz) (by omega) g2
      rw [hu] at hu3
      injection hu3 with hu3 _ _
      injection hu3 with hu3
      injection hu3 with q1 q2
      subst q1 q2
      rw [g4, g3] at hv3
      exact hv3
/-- What was taken, as a tree. -/
theorem Held.tree (old : RtR w home hd rt F) {k : Nat} {ow : Ow} {c : C} {v : Value} (h : Held w home hd F k ow c v) : ∃ T, CR w home T c v ∧ ((ow = .imm ∧ T = .imm) ∨ (ow ≠ .imm ∧ T = arrTg (decide (ow = .deep)) (.t k))) := by
  rcases h with ⟨e, h⟩ | ⟨e, hF, hv, _⟩
  · exact ⟨.imm, h, Or.inl ⟨e, rfl⟩⟩
  · subst hv
    exact ⟨_, old.root (.t k) _ hF, Or.inr ⟨e, rfl⟩⟩
/-- An element of what was taken goes into a new row. -/
theorem elem_goes {w' : World} {home' : Home} {ow : Ow} {T : Tg} {k i j i' id : Nat} {c : C} {v : Value} {D : Bool} (hT : (ow = .imm ∧ T = .imm) ∨ (ow ≠ .imm ∧ T = arrTg (decide (ow = .deep)) (.t k))) (h : CR w home (T.ext i j) c v) (hD : D = true → ow = .deep)
    (himm : ∀ b, b < w.heap.size → home b = none → w'.heap[b]? = w.heap[b]? ∧ home' b = none)
    (hown : ∀ q b, b < w.heap.size → home b = some (.t k, (i, j) :: q) → w'.heap[b]? = w.heap[b]? ∧ home' b = if D then some (.r id, (i', j) :: q) else none) : CR w' home' ((arrTg D (.r id)).ext i' j) c v := by
  by_cases hdp : ow = .deep
  · subst hdp
    rcases hT with ⟨e, _⟩ | ⟨_, rfl⟩
    · cases e
    · have hext : (arrTg (decide (Ow.deep = Ow.deep)) (.t k)).ext i j = .own (.t k) [(i, j)] := rfl
      rw [hext] at h
      refine h.move (fun q b hb hl => ?_) (Ok.own _ _ _)
      rw [Tg.exts_own] at hl
      obtain ⟨h1, h2⟩ := hown q b hb hl
      refine ⟨h1, h2.trans ?_⟩
      cases D with
      | true => simp [arrTg, Tg.ext, Tg.exts_own, Tg.lab]
      | false => simp [arrTg, Tg.ext, Tg.exts_imm, Tg.lab]
  · have hDf : D = false := by
      cases D with
      | true => exact absurd (hD rfl) hdp
      | false => rfl
    subst hDf
    have hTi : T.ext i j = .imm := by
      rcases hT with ⟨_, rfl⟩ | ⟨_, rfl⟩
      · rfl
      · rw [decide_eq_false hdp]; rfl
    rw [hTi] at h
    show CR w' home' .imm c v
    refine h.move (fun q b hb hl => ?_) (Ok.imm _)
    rw [Tg.exts_imm] at hl ⊢
    exact himm b hb hl
theorem ok_app_sl (old : RtR w home hd rt F0) (he : EvR ids w home hd rt ev a.eval) {sz bytes : Nat} {x y : Opd} (hm : mApp ids P o.op (.sl sz) bytes x y = true) {p q : SV} (hx : evS ev x = some p) (hy : evS ev y = some q)
    {ox oy : Ow} {es sp ys spy : List (List C)} {rt1 rt2 : Rts} (htk1 : takeSl rt q = some (oy, .sl sz ys spy, rt1)) (htk2 : takeSl rt1 p = some (ox, .sl sz es sp, rt2)) (hox : ox ≠ .imm) (hb : (es.length + ys.length) * bytes ≤ 140737488355328) (h63 : es.length + ys.length ≤ 9223372036854775807) {id : Nat}
    (h : newRt rt2 id (.arr (decide (ox = .deep) && (decide (oy = .deep) || ys.isEmpty)) false (.sl sz (es ++ ys) [])) = some rt') : OpOk ids P o a w home hd rt (.sv (.ref id [] 0 (es.length + ys.length))) rt' := by
  obtain ⟨x', y', t, t2, e, ti, z, ho, h1, h2, h3, h4, hu, hti, hby, hsz, hz, hzs⟩ := mApp_spec hm
  have hsz' : ti.size = sz := hsz
  subst hsz'
  have h4 : 0 < ti.size := h4
  obtain ⟨hp, hpp⟩ := he.S h1 hx
  obtain ⟨hq, hqp⟩ := he.S h2 hy
  obtain ⟨hn1, hn2, _, rfl⟩ := newRt_spec h
  have htk : takes rt [q, p] = some ([(oy, .sl ti.size ys spy), (ox, .sl ti.size es sp)], rt2) := by
    simp only [takes, (takeSl_spec htk1).1, (takeSl_spec htk2).1]
  obtain ⟨home1, hd1, F1, st1, _, fn, _, _, _, held⟩ := takes_step [q, p] (k := 0) old (vs := [a.eval y', a.eval x']) ⟨rfl, fun i x v hx hv => by
      match i with
      | 0 => simp at hx hv; subst hx hv; exact hq
      | 1 => simp at hx hv; subst hx hv; exact hp
      | i + 2 => simp at hx⟩ (fun x hx => by
      simp only [List.mem_cons, List.not_mem_nil, or_false] at hx
      rcases hx with rfl | rfl
      · exact hqp
      · exact hpp) (fun _ _ => rfl) htk
  obtain ⟨Ty, hty, hTy⟩ := ((held 0 _ _ rfl rfl).1).tree st1.rel
  obtain ⟨Tx, htx, hTx⟩ := ((held 1 _ _ rfl rfl).1).tree st1.rel
  simp only [Nat.zero_add] at hTy hTx
  have hlab : Tx.lab = some (.t 1, []) := by
    rcases hTx with ⟨e1, _⟩ | ⟨_, rfl⟩
    · exact absurd e1 hox
    · cases ox <;> first | exact absurd rfl hox | rfl
  obtain ⟨news, ns1, ns2, ns3, _, ns4, ady, capy, nsu, nsc, nsm, _, nsr⟩ := sl_cells hty
  obtain ⟨olds, os1, os2, os3, _, os4, ad, cap, osu, osc, osm, osb, _⟩ := sl_cells htx
  have hblk : 0 < cap → ∃ b cur e, ad = some ⟨b, 0, none⟩ ∧ home1 b = some (.t 1, []) ∧ w.heap[b]? = some (.cells cur e (0, 0)) ∧ cur.size = cap * ti.size ∧ ∀ (k : Nat) v, olds[k]? = some v → cur[k]? = some v := osb _ hlab
  have hall : ∀ e0 ∈ es ++ ys ++ [], e0.length = ti.size := by
    intro e0 h0
    rw [List.append_nil, List.mem_append] at h0
    rcases h0 with h0 | h0
    · exact os3 e0 h0
    · exact ns3 e0 h0
  let D : Bool := decide (ox = .deep) && (decide (oy = .deep) || ys.isEmpty)
  have hDx : D = true → ox = .deep := fun h => by
    simp only [D, Bool.and_eq_true, decide_eq_true_eq] at h; exact h.1
  have hDy : D = true → oy = .deep ∨ ys = [] := fun h => by
    simp only [D, Bool.and_eq_true, Bool.or_eq_true, decide_eq_true_eq, List.isEmpty_iff] at h; exact h.2
  let g : Nat → Path → Option Path := fun m q => match m, q with
    | 0, (i, j) :: q => if D then some ((es.length + i, j) :: q) else none
    | 1, (i, j) :: q => if D then some ((i, j) :: q) else none
    | _, _ => none
  have hsrc : ∀ w1 : World, w1.heap = w.heap → (Builtin.firstCells ti.size ys.length (a.eval y')).run P w1 = .ok news.toArray w1 := by
    intro w1 hw1
    rw [nsu]
    cases ady with
    | none =>
      have : ys = [] := by
        cases ys with
        | nil => rfl
        | cons y ys => obtain ⟨b, o', g, _⟩ := nsr (by simp); cases g
      subst this
      have : news = [] := List.eq_nil_of_length_eq_zero (by simpa using ns1)
      subst this
      exact run_firstCells_none w1 ti.size _ _ _
    | some x =>
      refine run_firstCells_some (P := P) w1 ti.size ys.length x ys.length capy news ns1 (fun j u hj => ?_)
      have hpos : 0 < ys.length := by
        cases ys with
        | nil => simp at ns1; subst ns1; simp at hj
        | cons y ys => simp
      obtain ⟨b, o', g1, g2⟩ := nsr hpos
      injection g1 with g1
      subst g1
      rw [addr_add]
      have := g2 j u hj
      simpa [World.cell?, hw1] using this
  have hlen : (Builtin.lenOf (a.eval y')).run P w = .ok ys.length w := by rw [nsu]; rfl
  have hbb : ∃ b cur e', 0 < cap → ad = some ⟨b, 0, none⟩ ∧ home1 b = some (.t 1, []) ∧ w.heap[b]? = some (.cells cur e' (0, 0)) ∧ cur.size = cap * ti.size ∧ ∀ (k : Nat) v, olds[k]? = some v → cur[k]? = some v := by
    by_cases hc : 0 < cap
    · obtain ⟨b, cur, e', k⟩ := hblk hc
      exact ⟨b, cur, e', fun _ => k⟩
    · exact ⟨0, #[], 0, fun h => absurd h hc⟩
  obtain ⟨b, cur, e', hbk⟩ := hbb
  have hold : ∀ (j : Nat) u, olds[j]? = some u → cur[j]? = some u := by
    intro j u hj
    have : 0 < cap := by
      rcases Nat.eq_zero_or_pos cap with h | h
      · have : es.length = 0 := by omega
        rw [this, Nat.zero_mul] at os1
        have := (List.getElem?_eq_some_iff.1 hj).1
        omega
      · exact h
    exact (hbk this).2.2.2.2 j u hj
  obtain ⟨v', w', hrun, hcases⟩ := run_append (P := P) (w := w) (ty := o.type) hu h3 hti hz hzs (ad := ad) (n := es.length) (cap := cap) (by omega) (b := b) (cur := cur) (e' := e') (fun h0 => ⟨(hbk h0).1, (hbk h0).2.2.1, (hbk h0).2.2.2.1⟩) (olds := olds) os1 hold
    (yv := a.eval y') (m := ys.length) ns1 hlen hsrc ns2 (by rw [hby]; exact hb) h63
  have hex : (execOp a.eval o).run P w = .ok (.value v') w' := exec_append ho (by rw [osu]; exact hrun)
  have hF0 : asmF F1 0 = F0 := by funext j; simp [asmF, F0]
  -- the new row
  have hnew : ∀ {B cap' : Nat} {cur' : Array Value} {e1 : TypeId} {w2 : World}, es.length + ys.length ≤ cap' → cap' ≤ maxLen → w2.heap[B]? = some (.cells cur' e1 (0, 0)) → cur'.size = cap' * ti.size →
      (∀ (j : Nat) u, (olds ++ news)[j]? = some u → cur'[j]? = some u) → (∀ b', b' < w.heap.size → b' ≠ B → w2.heap[b']? = w.heap[b']?) → (B < w.heap.size → home1 B = some (.t 1, [])) →
      CR w2 (asmHome home1 0 id (some B) g) (arrTg D (.r id)) (.sl ti.size (es ++ ys) []) (.slice (some ⟨B, 0, none⟩) (es.length + ys.length) cap') := by
    intro B cap' cur' e1 w2 q1 q2 q4 q5 q6 q7 q8
    have himm : ∀ b', b' < w.heap.size → home1 b' = none → w2.heap[b']? = w.heap[b']? ∧ asmHome home1 0 id (some B) g b' = none := by
      intro b' hb' hn
      have hne : b' ≠ B := fun e => by subst e; rw [q8 hb'] at hn; cases hn
      exact ⟨q7 b' hb' hne, asmHome_none (by simp [hne]) hn⟩
    have hcell : ∀ (k : Nat) u, (olds ++ news)[k]? = some u → cur'[k]? = some ((olds ++ news).getD k undef) := by
      intro k u hk
      rw [q6 k u hk]
      simp [List.getD_eq_getElem?_getD, hk]
    refine .sl (fun i j => (olds ++ news).getD (i * ti.size + j) undef) hall ?_ (fun i j e0 c0 g1 g2 => ?_)
    · rw [List.length_nil, Nat.add_zero, List.length_append]
      refine Hdr.new (t := arrTg D (.r id)) (by cases D <;> rfl) h4 q1 q2 asmHome_B q4 q5 (fun i j hi hj => ?_)
      have hlt : i * ti.size + j < (olds ++ news).length := by
        rw [List.length_append, os1, ns1, ← Nat.add_mul]
        have : (i + 1) * ti.size ≤ (es.length + ys.length) * ti.size := Nat.mul_le_mul_right _ hi
        rw [Nat.add_mul] at this; omega
      exact hcell _ _ (List.getElem?_eq_getElem hlt)
    · rw [List.append_nil] at g1
      show CR w2 (asmHome home1 0 id (some B) g) ((arrTg D (.r id)).ext i j) c0 ((olds ++ news).getD (i * ti.size + j) undef)
      have hj : j < ti.size := by
        rw [← hall e0 (by rw [List.append_nil]; exact List.mem_of_getElem? g1)]; exact (List.getElem?_eq_some_iff.1 g2).1
      by_cases hi : i < es.length
      · rw [List.getElem?_append_left hi] at g1
        obtain ⟨v, k1, k2⟩ := os4 i j e0 c0 g1 g2
        have hv : (olds ++ news).getD (i * ti.size + j) undef = v := by
          have := (List.getElem?_eq_some_iff.1 k1).1
          simp [List.getD_eq_getElem?_getD, List.getElem?_append_left this, k1]
        rw [hv]
        refine elem_goes hTx k2 hDx himm (fun q' b' hb' hl => ?_)
        have hne : b' ≠ B := fun e => by subst e; rw [q8 hb'] at hl; cases hl
        refine ⟨q7 b' hb' hne, ?_⟩
        rw [asmHome_t (by simp [hne]) hl (Nat.zero_le _)]
        simp only [g]
        cases D <;> rfl
      · rw [List.getElem?_append_right (by omega)] at g1
        obtain ⟨v, k1, k2⟩ := ns4 (i - es.length) j e0 c0 g1 g2
        have hidx : i * ti.size + j - olds.length = (i - es.length) * ti.size + j := by
          rw [os1, Nat.sub_mul]
          have : es.length * ti.size ≤ i * ti.size := Nat.mul_le_mul_right _ (by omega)
          omega
        have hv : (olds ++ news).getD (i * ti.size + j) undef = v := by
          have hle : olds.length ≤ i * ti.size + j := by
            rw [os1]
            have : es.length * ti.size ≤ i * ti.size := Nat.mul_le_mul_right _ (by omega)
            omega
          simp [List.getD_eq_getElem?_getD, List.getElem?_append_right hle, hidx, k1]
        rw [hv]
        have hys : ys ≠ [] := fun e => by subst e; simp at g1
        refine elem_goes hTy k2 (fun hd0 => (hDy hd0).resolve_right hys) himm (fun q' b' hb' hl => ?_)
        have hne : b' ≠ B := fun e => by subst e; rw [q8 hb'] at hl; cases hl
        refine ⟨q7 b' hb' hne, ?_⟩
        rw [asmHome_t (by simp [hne]) hl (Nat.zero_le _)]
        simp only [g]
        rw [show es.length + (i - es.length) = i by omega]
        cases D <;> rfl
  rcases hcases with ⟨c1, c2, rfl, hw⟩ | ⟨c1, c2, rfl, rfl⟩ | ⟨cap', c1, c2, c3, rfl, rfl⟩
  · have hw := hw.symm
    subst hw
    have he0 : es = [] := List.eq_nil_of_length_eq_zero (by omega)
    have hy0 : ys = [] := List.eq_nil_of_length_eq_zero (by omega)
    subst he0 hy0 c2
    have hcr : CR w (asmHome home1 0 id none g) (arrTg D (.r id)) (.sl ti.size ([] ++ []) []) (.slice ad 0 0) := by
      have := (CR.kempty (w := w) (home := asmHome home1 0 id none g) (t := arrTg D (.r id)) (k := .sl ti.size) h4).readdr (a' := ad) (by simp [K.empty, C.shape]) (fun h => absurd h (by omega))
      exact this
    have s2 := assemble (w' := w) st1.rel hn1 hn2 (k0 := 0) (B := none) g (fun b h => by cases h) (fun _ _ _ => rfl) rfl rfl rfl (Nat.le_refl _) hcr
    rw [hF0] at s2
    exact .value hex (st1.trans s2) (new_ref (home := asmHome home1 0 id none g) (updL_same _ _ _) (Nat.le_refl _))
  · obtain ⟨had, hhb, hg, hcs, _⟩ := hbk c2
    subst had
    have hle : es.length * ti.size + news.length ≤ cur.toList.length := by
      rw [ns1]
      have e2 : cur.toList.length = cur.size := Array.length_toList
      rw [e2, hcs, ← Nat.add_mul]; exact Nat.mul_le_mul_right _ c1
    obtain ⟨r1, r2⟩ := setRow_step_heap (w := w) (cs := (cur.toList.take (es.length * ti.size) ++ news ++ cur.toList.drop (es.length * ti.size + news.length)).toArray) hg
    have hcr := hnew (B := b) c1 osm r1 (by rw [List.size_toArray, splice_len hle]; simpa using hcs) (fun j u hj => by
      rw [List.getElem?_toArray, splice_get hle]
      by_cases hjj : j < olds.length
      · rw [List.getElem?_append_left hjj] at hj
        rw [if_neg (by rw [os1] at hjj; omega)]
        have := hold j u hj
        simpa using this
      · rw [List.getElem?_append_right (by omega)] at hj
        have hlt := (List.getElem?_eq_some_iff.1 hj).1
        rw [os1] at hjj hj hlt
        rw [if_pos ⟨by omega, by omega⟩]
        exact hj) (fun b' _ hne => r2 b' hne) (fun _ => hhb)
    have s2 := assemble (w' := w.setRow b (cur.toList.take (es.length * ti.size) ++ news ++ cur.toList.drop (es.length * ti.size + news.length)).toArray) st1.rel hn1 hn2 (k0 := 0) (B := some b) g
      (fun b' hb' => by injection hb' with hb'; subst hb'; exact ⟨heap_lt r1, fun _ => ⟨1, [], Nat.zero_le _, hhb⟩⟩) (fun b' _ hne => r2 b' (fun e => hne (by rw [e]))) rfl rfl rfl (by simp) hcr
    rw [hF0] at s2
    exact .value hex (st1.trans s2) (new_ref (home := asmHome home1 0 id (some b) g) (updL_same _ _ _) c1)
  · have hg := heap_alloc_new w.drew (.cells (olds.toArray ++ news.toArray ++ Builtin.zeroCells z.cells (cap' - (es.length + ys.length))) e)
    have hcr := hnew (B := w.heap.size) c2 c3 hg (by
      simp only [Array.size_append, List.size_toArray, size_zeroCells, hzs, os1, ns1, ← Nat.add_mul]; congr 1; omega) (fun j u hj => by
        rw [Array.getElem?_append_left (by have := (List.getElem?_eq_some_iff.1 hj).1; simpa using this)]
        simpa using hj) (fun b' hb' _ => heap_alloc_old w.drew _ b' hb') (fun h => by omega)
    have s2 := assemble (w' := w.drew.alloc (.cells (olds.toArray ++ news.toArray ++ Builtin.zeroCells z.cells (cap' - (es.length + ys.length))) e)) st1.rel hn1 hn2 (k0 := 0) (B := some w.heap.size) g
      (fun b' hb' => by injection hb' with hb'; subst hb'; exact ⟨heap_lt hg, fun h => by omega⟩) (fun b' hb' _ => heap_alloc_old w.drew _ b' hb') rfl rfl rfl (Nat.le_of_lt (heap_lt hg)) hcr
    rw [hF0] at s2
    exact .value hex (st1.trans s2) (new_ref (home := asmHome home1 0 id (some w.heap.size) g) (updL_same _ _ _) c2)
end
end Go.Proofs.YtecmolmlojehgaaGreat.T
namespace Go.Proofs.YtecmolmlojehgaaGreat.T
open Go
variable (ids : Nat → FuncId)

def kindIs (P : Program) (t : TypeId) (k : Nat) : Bool :=
  match P.underlying t with
  | some (.int _) => k == 0
  | some .bool => k == 1
  | some .string => k == 2
  | _ => false
def eqFs (P : Program) : Nat → List Field → List Nat → Bool
  | _, [], [] => true
  | i, f :: fs, k :: ks => decide (f.name ≠ "_") && f.offset == i && kindIs P f.type k && aggIs P f.type false && eqFs P (i + 1) fs ks
  | _, _, _ => false
def mEqs (P : Program) (o : Op) (neg : Bool) (ks : List Nat) (x y : Opd) : Bool :=
  match o with
  | .binOp op' t x' y' _ => decide (op' = if neg then .neq else .eql) && mOpd ids x' x && mOpd ids y' y && !P.stoodInHeld t && !P.eqGuardType P.depth t &&
    match P.underlying t with
    | some (.struct fs) => eqFs P 0 fs.toList ks
    | _ => false
  | _ => false
def isBytesT (P : Program) : TypeDesc → Bool
  | .slice e => match P.underlying e with
    | some (.int .u8) => true
    | _ => false
  | _ => false
def mB2s (P : Program) (o : Op) (x : Opd) : Bool :=
  match o with
  | .convert src dst x' => mOpd ids x' x && under P dst isStrT && under P src (isBytesT P)
  | _ => false
section
variable {ids} {P : Program} {o : Oper} {a : Act} {w : World} {home : Home} {hd : Lb → Value} {rt rt' : Rts} {av : AV} {ev : Ev} {F : Nat → Option Root}
theorem run_eqCell {d k : Nat} {t : TypeId} {x y : Value} {b : Bool} (h : kindIs P t k = true) (he : eqCell k x y = some b) : (Op.equalIn (d + 1) t x y).run P w = .ok b w := by
  unfold kindIs at h
  split at h
  · rename_i k0 ht
    have : k = 0 := by simpa using h
    subst this
    unfold eqCell at he
    split at he <;> simp_all
    obtain ⟨rfl, rfl⟩ := he
    exact run_equalIn_int _ d t _ _ _ _ ht
  · rename_i ht
    have : k = 1 := by simpa using h
    subst this
    unfold eqCell at he
    split at he <;> simp_all
    subst he
    exact run_equalIn_bool' _ d t _ _ ht
  · rename_i ht
    have : k = 2 := by simpa using h
    subst this
    unfold eqCell at he
    split at he <;> simp_all
    subst he
    exact run_equalIn_string _ d t _ _ ht
  · cases h
theorem svR_val {v u : Value} (h : SVR w home hd rt (.c (.val v)) u) : u = v := by
  have h' : CR w home .imm (.val v) u := h
  cases h' with
  | val _ => rfl
theorem eqCells_cons {k : Nat} {ks : List Nat} {xs ys : List SV} {b : Bool} (h : eqCells (k :: ks) xs ys = some b) : ∃ x xs' y ys' r1 r2, xs = .c (.val x) :: xs' ∧ ys = .c (.val y) :: ys' ∧ eqCell k x y = some r1 ∧ eqCells ks xs' ys' = some r2 ∧ b = (r1 && r2) := by
  cases xs with
  | nil => cases ys <;> cases h
  | cons x xs =>
    cases x with
    | c c =>
      cases c with
      | val x =>
        cases ys with
        | nil => cases h
        | cons y ys =>
          cases y with
          | c c =>
            cases c with
            | val y =>
              simp only [eqCells] at h
              split at h
              · rename_i r1 r2 g1 g2
                injection h with h
                exact ⟨x, xs, y, ys, r1, r2, rfl, rfl, g1, g2, h.symm⟩
              · cases h
            | _ => cases h
          | _ => cases h
      | _ => cases h
    | _ => cases h
theorem run_eqFields {d : Nat} {us vs : List Value} : ∀ {fs : List Field} {ks : List Nat} {xs ys : List SV} {i : Nat} {b : Bool}, eqFs P i fs ks = true → eqCells ks xs ys = some b →
    F2 (SVR w home hd rt) xs (us.drop i) → F2 (SVR w home hd rt) ys (vs.drop i) → (Op.eqFields (d + 1) us.toArray vs.toArray fs).run P w = .ok b w
  | [], [], xs, ys, i, b, _, h, _, _ => by
    unfold eqCells at h
    split at h <;> simp_all [Op.eqFields]
  | [], _ :: _, _, _, _, _, h, _, _, _ => by cases h
  | _ :: _, [], _, _, _, _, h, _, _, _ => by cases h
  | f :: fs, k :: ks, xs, ys, i, b, h, hc, hx, hy => by
    simp only [eqFs, Bool.and_eq_true, decide_eq_true_eq, beq_iff_eq] at h
    obtain ⟨⟨⟨⟨h1, rfl⟩, h3⟩, h4⟩, h5⟩ := h
    obtain ⟨x, xs', y, ys', r1, r2, rfl, rfl, g1, g2, rfl⟩ := eqCells_cons hc
    have hlx := hx.1
    have hly := hy.1
    simp only [List.length_cons, List.length_drop] at hlx hly
    have hix : f.offset < us.length := by omega
    have hiy : f.offset < vs.length := by omega
    have ex := svR_val (hx.2 0 _ _ rfl (by rw [List.getElem?_drop]; exact List.getElem?_eq_getElem hix))
    have ey := svR_val (hy.2 0 _ _ rfl (by rw [List.getElem?_drop]; exact List.getElem?_eq_getElem hiy))
    have ex : us[f.offset] = x := ex
    have ey : vs[f.offset] = y := ey
    have px : (part f.type us.toArray f.offset).run P w = .ok x w := by
      unfold part
      simp [aggIs_run h4, List.getElem?_eq_getElem hix, ex]
    have py : (part f.type vs.toArray f.offset).run P w = .ok y w := by
      unfold part
      simp [aggIs_run h4, List.getElem?_eq_getElem hiy, ey]
    have ih := run_eqFields (d := d) (us := us) (vs := vs) (xs := xs') (ys := ys') (i := f.offset + 1) h5 g2
      ⟨by rw [List.length_drop]; omega, fun j a b ha hb => hx.2 (j + 1) a b (by simpa using ha) (by rw [List.getElem?_drop] at hb ⊢; rw [← hb]; congr 1; omega)⟩
      ⟨by rw [List.length_drop]; omega, fun j a b ha hb => hy.2 (j + 1) a b (by simpa using ha) (by rw [List.getElem?_drop] at hb ⊢; rw [← hb]; congr 1; omega)⟩
    simp only [Op.eqFields]
    rw [if_pos h1]
    simp only [Sem.run_bind, px, py, Result.andThen_ok, run_eqCell h3 g1]
    cases r1 with
    | true => simpa using ih
    | false => simp
theorem ok_eqs (old : RtR w home hd rt F0) (he : EvR ids w home hd rt ev a.eval) {neg : Bool} {ks : List Nat} {x y : Opd} (hm : mEqs ids P o.op neg ks x y = true) {xs ys : List SV} (hx : ev x = some (.agg xs)) (hy : ev y = some (.agg ys)) {b : Bool} (h : eqCells ks xs ys = some b) :
    OpOk ids P o a w home hd rt (.sv (.v (.bool (if neg then !b else b)))) rt := by
  unfold mEqs at hm
  split at hm
  · rename_i op' t x' y' t' ho
    simp only [Bool.and_eq_true, decide_eq_true_eq, Bool.not_eq_true'] at hm
    obtain ⟨⟨⟨⟨⟨rfl, h1⟩, h2⟩, h3⟩, h4⟩, h5⟩ := hm
    split at h5
    · rename_i fs hd1
      obtain ⟨us, hu1, hu2⟩ := (he x' x _ h1 hx).1
      obtain ⟨vs, hv1, hv2⟩ := (he y' y _ h2 hy).1
      have hf : P.fieldsOf t = fs := by simp [Program.fieldsOf, hd1]
      have hr : (Op.equalIn 10000 t (.agg us.toArray) (.agg vs.toArray)).run P w = .ok b w := by
        rw [show (10000 : Nat) = 9999 + 1 from rfl, run_equalIn_struct w 9999 t _ _ (by rw [hf]; exact hd1) h3, hf]
        exact run_eqFields (d := 9998) h5 h (by simpa using hu2) (by simpa using hv2)
      refine .value (v := .bool (if neg then !b else b)) (w' := w) ?_ (Step.refl old) (avr_v rfl)
      unfold execOp
      rw [ho]
      simp only [hu1, hv1, Sem.run_bind, run_eqGuard_agg w _ t x' y' _ _ h4, Result.andThen_ok]
      cases neg with
      | true => simp only [if_true, run_neq_struct, hr, Result.andThen_ok, Sem.run_pure]
      | false => simp only [Bool.false_eq_true, if_false, run_eql_struct, hr, Result.andThen_ok, Sem.run_pure]
    · cases h5
  · cases hm
theorem foldl_push : ∀ (ns : List Int) (s : ByteArray), ns.foldl (fun r n => r.push (UInt8.ofNat n.toNat)) s = ⟨s.data ++ (ns.map (fun n => UInt8.ofNat n.toNat)).toArray⟩
  | [], s => by simp
  | n :: ns, s => by
    rw [List.foldl_cons, foldl_push ns]
    congr 1
    simp [ByteArray.push]
theorem bytes_of {es : List (List Value)} {bs : List UInt8} : mapO (fun e => match e with | [.int .u8 n] => some (UInt8.ofNat n.toNat) | _ => none) es = some bs → ∃ ns : List Int, es.flatten = ns.map (.int .u8) ∧ bs = ns.map (fun n => UInt8.ofNat n.toNat) ∧ es.length = ns.length := by
  induction es generalizing bs with
  | nil => intro h; simp only [mapO, Option.some.injEq] at h; subst h; exact ⟨[], rfl, rfl, rfl⟩
  | cons e es ih =>
    intro h
    simp only [mapO] at h
    split at h
    · rename_i y hy
      split at h
      · rename_i ys hys
        injection h with h
        subst h
        obtain ⟨ns, h1, h2, h3⟩ := ih hys
        split at hy
        · rename_i n
          injection hy with hy
          exact ⟨n :: ns, by simp [h1], by simp [h2, hy], by simp [h3]⟩
        · cases hy
      · cases h
    · cases h
theorem ok_b2s (old : RtR w home hd rt F0) (he : EvR ids w home hd rt ev a.eval) {x : Opd} (hm : mB2s ids P o.op x = true) {p : SV} (hx : evS ev x = some p) {es sp : List (List Value)} (hc : cont rt p = some (.fl 1 es sp)) {bs : List UInt8}
    (h : mapO (fun e => match e with | [.int .u8 n] => some (UInt8.ofNat n.toNat) | _ => none) es = some bs) : OpOk ids P o a w home hd rt (.sv (.v (.string ⟨bs.toArray⟩))) rt := by
  unfold mB2s at hm
  split at hm
  · rename_i src dst x' ho
    simp only [Bool.and_eq_true] at hm
    obtain ⟨⟨h1, h2⟩, h3⟩ := hm
    obtain ⟨d, hd1, hd2⟩ := under_spec h2
    obtain rfl := isStrT_eq hd2
    obtain ⟨d2, hs1, hs2⟩ := under_spec h3
    obtain ⟨e, rfl, hue⟩ : ∃ e, d2 = .slice e ∧ P.underlying e = some (.int .u8) := by
      unfold isBytesT at hs2
      split at hs2
      · split at hs2
        · exact ⟨_, rfl, by assumption⟩
        · cases hs2
      · cases hs2
    obtain ⟨ns, n1, rfl, n3⟩ := bytes_of h
    obtain ⟨_, _, ad, cap, hv, _, _, hcell⟩ := cont_flat old (he.S h1 hx).1 hc
    have hr : (Conv.bytesToString (a.eval x')).run P w = .ok (.string ⟨(ns.map (fun n => UInt8.ofNat n.toNat)).toArray⟩) w := by
      rw [hv]
      cases ad with
      | none =>
        have : es = [] := by
          cases es with
          | nil => rfl
          | cons y ys => obtain ⟨b, o', g, _⟩ := hcell (by simp); cases g
        subst this
        have : ns = [] := List.eq_nil_of_length_eq_zero (by simpa using n3.symm)
        subst this
        rfl
      | some q =>
        have hl : (loadCells q es.length).run P w = .ok (ns.map (Value.int .u8)).toArray w := by
          have := run_loadCells_list (P := P) (w := w) q (ns.map (Value.int .u8)) (fun j v hj => by
            have hpos : 0 < es.length := by
              rw [n3]
              cases ns with
              | nil => simp at hj
              | cons n ns => simp
            obtain ⟨b, o', g1, g2⟩ := hcell hpos
            injection g1 with g1
            subst g1
            rw [addr_add]
            exact g2 j v (by rw [n1]; exact hj))
          rw [List.length_map, ← n3] at this
          exact this
        rw [run_bytesToString w q es.length cap ns hl, foldl_push]
        simp
    refine .value (v := .string ⟨(ns.map (fun n => UInt8.ofNat n.toNat)).toArray⟩) (w' := w) ?_ (Step.refl old) (avr_v rfl)
    unfold execOp
    rw [ho]
    have hc2 : (convert src dst (a.eval x')).run P w = (Conv.bytesToString (a.eval x')).run P w := by
      rw [hv]; exact run_convert_bytes_string w src dst e _ _ _ hs1 hue hd1
    simp only [Sem.run_bind, hc2, hr, Result.andThen_ok, Sem.run_pure]
  · cases hm
theorem ok_app (old : RtR w home hd rt F0) (he : EvR ids w home hd rt ev a.eval) {k : K} {bytes : Nat} {x y : Opd} (hm : mApp ids P o.op k bytes x y = true) {p q : SV} (hx : evS ev x = some p) (hy : evS ev y = some q) {id : Nat} {r : SV} (h : append rt id k bytes p q = some (r, rt')) :
    OpOk ids P o a w home hd rt (.sv r) rt' := by
  unfold append at h
  split at h
  · rename_i dy cy rt1 hs
    split at h
    · rename_i ox cx rt2 htk
      cases k with
      | fl sz =>
        simp only [source] at hs
        split at hs
        · rename_i sz' es sp hc
          split at hs
          · rename_i hsz
            subst hsz
            simp only [Option.some.injEq, Prod.mk.injEq] at hs
            obtain ⟨rfl, rfl, rfl⟩ := hs
            cases cx with
            | fl sz2 es2 sp2 =>
              simp only at h
              split at h
              · rename_i hcond
                obtain ⟨hox, rfl, hb, h63⟩ := hcond
                rw [Option.map_eq_some_iff] at h
                obtain ⟨rt3, h1, h2⟩ := h
                injection h2 with h2 h3
                subst h2 h3
                refine ok_app_flat old he hm hx hy (ys := es) (fun v hv => ?_) htk hox hb h63 h1
                have hfl := cont_flat old hv hc
                obtain ⟨g1, g2, g3, g4⟩ := flat_source (P := P) hfl
                exact ⟨g1, g2, g3, fun e he => (hfl.2.1 e he).1, g4⟩
              · cases h
            | val v => cases h
            | hole => cases h
            | sl sz2 es2 sp2 => cases h
          · cases hs
        · cases hs
      | sl sz =>
        simp only [source] at hs
        split at hs
        · rename_i oy sz' es sp rt0 hc
          split at hs
          · rename_i hsz
            subst hsz
            simp only [Option.some.injEq, Prod.mk.injEq] at hs
            obtain ⟨rfl, rfl, rfl⟩ := hs
            cases cx with
            | sl sz2 es2 sp2 =>
              simp only at h
              split at h
              · rename_i hcond
                obtain ⟨hox, rfl, hb, h63⟩ := hcond
                rw [Option.map_eq_some_iff] at h
                obtain ⟨rt3, h1, h2⟩ := h
                injection h2 with h2 h3
                subst h2 h3
                exact ok_app_sl old he hm hx hy hc htk hox hb h63 h1
              · cases h
            | val v => cases h
            | hole => cases h
            | fl sz2 es2 sp2 => cases h
          · cases hs
        · cases hs
    · cases h
  · cases h
end
end Go.Proofs.YtecmolmlojehgaaGreat.T
namespace Go.Proofs.YtecmolmlojehgaaGreat.T
open Go
variable (ids : Nat → FuncId)

def mPO (P : Program) (o : Op) : PO → Bool
  | .mv x => mMv ids o x
  | .mkn k => mMkn o k
  | .pick c x y => mPick ids o c x y
  | .box x => mBox ids o x
  | .alloc z => mAlloc P o z
  | .build z ps => mBuild ids P o z ps
  | .bs k ps => mBs ids P o k ps
  | .ld agg n x => mLd ids P o agg n x
  | .st n x y => mSt ids P o n x y
  | .nchk x => mNchk ids o x
  | .bin op x y => mBin ids o op x y
  | .eqb neg x y => mEqb ids P o neg x y
  | .eqs neg ks x y => mEqs ids P o neg ks x y
  | .un op x => mUn ids o op x
  | .conv k x => mConv ids P o k x
  | .b2s x => mB2s ids P o x
  | .fa off x => mFa ids P o off x
  | .ia sz x i => mIa ids P o sz x i
  | .iap len sz x i => mIap ids P o len sz x i
  | .ixs x i => mIxs ids P o x i
  | .ixa agg len sz x i => mIxa ids P o agg len sz x i
  | .fld agg off n x => mFld ids P o agg off n x
  | .slc sz x lo hi => mSlc ids P o sz x lo hi
  | .slcs x lo hi => mSlcs ids P o x lo hi
  | .ext t i => mExt o t i
  | .mvt t => mMvt o t
  | .len str x => mLen ids P o str x
  | .app k bytes x y => mApp ids P o k bytes x y
  | .mm mx xs => mMm ids o mx xs
  | .mkf f caps => mMkf ids o f caps
  | .mks k bytes zero len cap => mMks ids P o k bytes zero len cap
  | .call _ _ => false
  | .callv _ _ => false
section
variable {ids} {P : Program} {o : Oper} {a : Act} {w : World} {home : Home} {hd : Lb → Value} {rt rt' : Rts} {av : AV} {ev : Ev} {F : Nat → Option Root} {tp : Nat → Option (List A1)} {call : Nat → List Arg → Option Res} {dst : Nat}
theorem act_ok (old : RtR w home hd rt F0) (he : EvR ids w home hd rt ev a.eval) (ht : TpR ids w home hd rt tp a.eval) {p : PO} (hm : mPO ids P o.op p = true) (h : act call ev tp rt dst p = some (av, rt')) : OpOk ids P o a w home hd rt av rt' := by
  cases p with
  | mv x =>
    simp only [act, Option.map_eq_some_iff, Prod.mk.injEq] at h
    obtain ⟨c, h1, rfl, rfl⟩ := h
    exact ok_mv old he hm h1
  | mkn k =>
    simp only [act, Option.map_eq_some_iff, Prod.mk.injEq] at h
    obtain ⟨c, h1, rfl, rfl⟩ := h
    exact ok_mkn old hm h1
  | pick c x y =>
    simp only [act] at h
    split at h
    · rename_i t hc
      rw [Option.map_eq_some_iff] at h
      obtain ⟨r, h1, h2⟩ := h
      injection h2 with h2 h3
      subst h2 h3
      exact ok_pick old he hm hc h1
    · cases h
  | box x =>
    simp only [act] at h
    split at h
    · rename_i xs hx
      rw [Option.map_eq_some_iff] at h
      obtain ⟨r, h1, h2⟩ := h
      injection h2 with h2 h3
      subst h2 h3
      exact ok_box old he hm hx h1
    · cases h
  | alloc z =>
    simp only [act, Option.map_eq_some_iff, Prod.mk.injEq] at h
    obtain ⟨c, h1, rfl, rfl⟩ := h
    exact ok_alloc old hm h1
  | build z ps =>
    simp only [act] at h
    split at h
    · rename_i l hl
      rw [Option.map_eq_some_iff] at h
      obtain ⟨r, h1, h2⟩ := h
      injection h2 with h2 h3
      subst h2 h3
      exact ok_build old he hm hl h1
    · cases h
  | bs k ps =>
    simp only [act] at h
    split at h
    · rename_i l hl
      split at h
      · rename_i es rt1 htk
        split at h
        · rename_i d c hb
          rw [Option.map_eq_some_iff] at h
          obtain ⟨r, h1, h2⟩ := h
          injection h2 with h2 h3
          subst h2 h3
          exact ok_bs old he hm hl htk hb h1
        · cases h
      · cases h
    · cases h
  | ld agg n x =>
    simp only [act] at h
    split at h
    · rename_i q hq
      split at h
      · rename_i xs hxs
        rw [Option.map_eq_some_iff] at h
        obtain ⟨r, h1, h2⟩ := h
        injection h2 with h2 h3
        subst h2 h3
        exact ok_ld old he hm hq hxs h1
      · cases h
    · cases h
  | st n x y =>
    simp only [act] at h
    split at h
    · rename_i q xs hq hxs
      split at h
      · rename_i hn
        rw [Option.map_eq_some_iff] at h
        obtain ⟨r, h1, h2⟩ := h
        injection h2 with h2 h3
        subst h2 h3
        exact ok_st old he hm hq hxs hn h1
      · cases h
    · cases h
  | nchk x =>
    simp only [act] at h
    split at h
    · rename_i q hq
      split at h
      · rename_i hp
        injection h with h
        injection h with h2 h3
        subst h2 h3
        exact ok_nchk old he hm hq hp
      · cases h
    · cases h
  | bin op x y =>
    simp only [act] at h
    split at h
    · rename_i u v hu hv
      rw [Option.map_eq_some_iff] at h
      obtain ⟨r, h1, h2⟩ := h
      injection h2 with h2 h3
      subst h2 h3
      exact ok_bin old he hm hu hv h1
    · cases h
  | eqb neg x y =>
    simp only [act] at h
    split at h
    · rename_i u v hu hv
      injection h with h
      injection h with h2 h3
      subst h2 h3
      exact ok_eqb old he hm hu hv
    · cases h
  | eqs neg ks x y =>
    simp only [act] at h
    split at h
    · rename_i u v hu hv
      rw [Option.map_eq_some_iff] at h
      obtain ⟨r, h1, h2⟩ := h
      injection h2 with h2 h3
      subst h2 h3
      exact ok_eqs old he hm hu hv h1
    · cases h
  | un op x =>
    simp only [act] at h
    split at h
    · rename_i u hu
      rw [Option.map_eq_some_iff] at h
      obtain ⟨r, h1, h2⟩ := h
      injection h2 with h2 h3
      subst h2 h3
      exact ok_un old he hm hu h1
    · cases h
  | conv k x =>
    simp only [act, Option.map_eq_some_iff, Prod.mk.injEq] at h
    obtain ⟨c, h1, rfl, rfl⟩ := h
    exact ok_conv old he hm h1
  | b2s x =>
    simp only [act] at h
    split at h
    · rename_i y hy
      split at h
      · rename_i es sp hc
        rw [Option.map_eq_some_iff] at h
        obtain ⟨r, h1, h2⟩ := h
        injection h2 with h2 h3
        subst h2 h3
        exact ok_b2s old he hm hy hc h1
      · cases h
    · cases h
  | fa off x =>
    simp only [act] at h
    split at h
    · rename_i q hq
      rw [Option.map_eq_some_iff] at h
      obtain ⟨r, h1, h2⟩ := h
      injection h2 with h2 h3
      subst h2 h3
      exact ok_fa old he hm hq h1
    · cases h
  | ia sz x i =>
    simp only [act] at h
    split at h
    · rename_i q n hq hn
      rw [Option.map_eq_some_iff] at h
      obtain ⟨r, h1, h2⟩ := h
      injection h2 with h2 h3
      subst h2 h3
      exact ok_ia old he hm hq hn h1
    · cases h
  | iap len sz x i =>
    simp only [act] at h
    split at h
    · rename_i q n hq hn
      split at h
      · rename_i hc
        rw [Option.map_eq_some_iff] at h
        obtain ⟨r, h1, h2⟩ := h
        injection h2 with h2 h3
        subst h2 h3
        exact ok_iap old he hm hq hn hc.1 hc.2 h1
      · cases h
    · cases h
  | ixs x i =>
    simp only [act] at h
    split at h
    · rename_i s n hq hn
      split at h
      · rename_i hc
        rw [Option.map_eq_some_iff] at h
        obtain ⟨r, h1, h2⟩ := h
        injection h2 with h2 h3
        subst h2 h3
        exact ok_ixs old he hm hq hn hc h1
      · cases h
    · cases h
  | ixa agg len sz x i =>
    simp only [act] at h
    split at h
    · rename_i xs n hq hn
      split at h
      · rename_i hc
        split at h
        · rename_i ys hs
          rw [Option.map_eq_some_iff] at h
          obtain ⟨r, h1, h2⟩ := h
          injection h2 with h2 h3
          subst h2 h3
          exact ok_ixa old he hm hq hn hc.1 hc.2 hs h1
        · cases h
      · cases h
    · cases h
  | fld agg off n x =>
    simp only [act] at h
    split at h
    · rename_i xs hq
      split at h
      · rename_i ys hs
        rw [Option.map_eq_some_iff] at h
        obtain ⟨r, h1, h2⟩ := h
        injection h2 with h2 h3
        subst h2 h3
        exact ok_fld old he hm hq hs h1
      · cases h
    · cases h
  | slc sz x lo hi =>
    simp only [act] at h
    split at h
    · rename_i q l u hq hl hu
      rw [Option.map_eq_some_iff] at h
      obtain ⟨r, h1, h2⟩ := h
      injection h2 with h2 h3
      subst h2 h3
      exact ok_slc old he hm hq hl hu h1
    · cases h
  | slcs x lo hi =>
    simp only [act] at h
    split at h
    · rename_i q l u hq hl hu
      split at h
      · rename_i hc
        injection h with h
        injection h with h2 h3
        subst h2 h3
        exact ok_slcs old he hm hq hl hu hc.1 hc.2.1 hc.2.2
      · cases h
    · cases h
  | mvt t =>
    simp only [act] at h
    rw [Option.map_eq_some_iff] at h
    obtain ⟨r, h1, h2⟩ := h
    injection h2 with h2 h3
    subst h2 h3
    exact ok_mvt old ht hm h1
  | ext t i =>
    simp only [act] at h
    split at h
    · rename_i as hq
      rw [Option.map_eq_some_iff] at h
      obtain ⟨r, h1, h2⟩ := h
      injection h2 with h2 h3
      subst h2 h3
      exact ok_ext old ht hm hq h1
    · cases h
  | len str x =>
    simp only [act] at h
    split at h
    · rename_i q hq
      rw [Option.map_eq_some_iff] at h
      obtain ⟨r, h1, h2⟩ := h
      injection h2 with h2 h3
      subst h2 h3
      exact ok_len old he hm hq h1
    · cases h
  | app k bytes x y =>
    simp only [act] at h
    split at h
    · rename_i u v hu hv
      rw [Option.map_eq_some_iff] at h
      obtain ⟨r, h1, h2⟩ := h
      injection h2 with h2 h3
      subst h2 h3
      exact ok_app old he hm hu hv h1
    · cases h
  | mm mx xs =>
    simp only [act] at h
    split at h
    · rename_i v r hq
      rw [Option.map_eq_some_iff] at h
      obtain ⟨r, h1, h2⟩ := h
      injection h2 with h2 h3
      subst h2 h3
      exact ok_mm old he hm hq h1
    · cases h
  | mkf f caps =>
    simp only [act, Option.map_eq_some_iff, Prod.mk.injEq] at h
    obtain ⟨c, h1, rfl, rfl⟩ := h
    exact ok_mkf old he hm h1
  | mks k bytes zero len cap =>
    simp only [act] at h
    split at h
    · rename_i l c hl hc
      split at h
      · rename_i hcond
        obtain ⟨g1, g2, g3, g4⟩ := hcond
        cases k with
        | fl sz =>
          simp only at h
          split at h
          · rename_i z hz
            split at h
            · rename_i hzl
              rw [Option.map_eq_some_iff] at h
              obtain ⟨r, h1, h2⟩ := h
              injection h2 with h2 h3
              subst h2 h3
              exact ok_mks old he hm hl hc g1 g2 g3 g4 (Or.inl ⟨sz, z, rfl, hz, hzl, rfl⟩) h1
            · cases h
          · cases h
        | sl sz =>
          simp only at h
          split at h
          · rename_i hzl
            rw [Option.map_eq_some_iff] at h
            obtain ⟨r, h1, h2⟩ := h
            injection h2 with h2 h3
            subst h2 h3
            exact ok_mks old he hm hl hc g1 g2 g3 g4 (Or.inr ⟨sz, rfl, hzl, rfl⟩) h1
          · cases h
      · cases h
    · cases h
  | call f qs => cases hm
  | callv f qs => cases hm
end
end Go.Proofs.YtecmolmlojehgaaGreat.T
namespace Go.Proofs.YtecmolmlojehgaaGreat.T
open Go
variable (ids : Nat → FuncId)

abbrev Loc := Option (Nat × Path)
/-- Which argument a block is handed over with. -/
def hit : Nat → List Loc → Nat → Path → Option (Nat × Path)
  | _, [], _, _ => none
  | i, some (id', p) :: ls, id, q => if id' = id ∧ p <+: q then some (i, q.drop p.length) else hit (i + 1) ls id q
  | i, none :: ls, id, q => hit (i + 1) ls id q
/-- No root is handed over twice. -/
def Dist (ls : List Loc) : Prop := ∀ (i j id : Nat) (p p' : Path), ls[i]? = some (some (id, p)) → ls[j]? = some (some (id, p')) → i = j ∧ p = p'
theorem hit_some : ∀ {ls : List Loc} {k id i : Nat} {q q' : Path}, hit k ls id q = some (i, q') → ∃ p, k ≤ i ∧ ls[i - k]? = some (some (id, p)) ∧ q = p ++ q'
  | [], _, _, _, _, _, h => by cases h
  | none :: ls, k, id, i, q, q', h => by
    obtain ⟨p, h1, h2, h3⟩ := hit_some (ls := ls) h
    refine ⟨p, by omega, ?_, h3⟩
    rw [show i - k = (i - (k + 1)) + 1 by omega, List.getElem?_cons_succ]; exact h2
  | some (id', p) :: ls, k, id, i, q, q', h => by
    simp only [hit] at h
    split at h
    · rename_i hc
      obtain ⟨rfl, r, rfl⟩ := hc
      simp only [Option.some.injEq, Prod.mk.injEq, List.drop_left'] at h
      obtain ⟨rfl, h⟩ := h
      refine ⟨p, Nat.le_refl _, by simp, ?_⟩
      rw [← h]
    · obtain ⟨p, h1, h2, h3⟩ := hit_some (ls := ls) h
      refine ⟨p, by omega, ?_, h3⟩
      rw [show i - k = (i - (k + 1)) + 1 by omega, List.getElem?_cons_succ]; exact h2
theorem hit_exists : ∀ {ls : List Loc} {k id i : Nat} {p q : Path}, ls[i]? = some (some (id, p)) → ∃ r, hit k ls id (p ++ q) = some r
  | [], _, _, _, _, _, h => by cases h
  | none :: ls, k, id, i, p, q, h => by
    cases i with
    | zero => simp at h
    | succ i => simp only [List.getElem?_cons_succ] at h; exact hit_exists (ls := ls) h
  | some (id', p') :: ls, k, id, i, p, q, h => by
    simp only [hit]
    split
    · exact ⟨_, rfl⟩
    · rename_i hc
      cases i with
      | zero =>
        simp only [List.getElem?_cons_zero, Option.some.injEq, Prod.mk.injEq] at h
        obtain ⟨rfl, rfl⟩ := h
        exact absurd ⟨rfl, List.prefix_append _ _⟩ hc
      | succ i => simp only [List.getElem?_cons_succ] at h; exact hit_exists (ls := ls) h
theorem hit_iff {ls : List Loc} (hd : Dist ls) {id i : Nat} {p q : Path} (h : ls[i]? = some (some (id, p))) : hit 0 ls id (p ++ q) = some (i, q) := by
  obtain ⟨⟨j, q'⟩, hr⟩ := hit_exists (k := 0) (q := q) h
  obtain ⟨p', _, h2, h3⟩ := hit_some hr
  simp only [Nat.sub_zero] at h2
  obtain ⟨e1, e2⟩ := hd i j id p p' h h2
  subst e1 e2
  rw [hr]
  rw [List.append_cancel_left h3]
/-- The owners, as the callee sees them. -/
def callHome (home : Home) (ls : List Loc) (others : Bool) : Home := fun b =>
  match home b with
  | some (.r id, q) =>
    match hit 0 ls id q with
    | some (i, q') => some (.r (i * 64), q')
    | none => if others then some (.x, q) else none
  | some (.x, q) => some (.x, q)
  | _ => none
section
variable {w : World} {home : Home} {hd : Lb → Value} {rt : Rts} {F : Nat → Option Root} {ls : List Loc} {others : Bool}
theorem callHome_none {b : Nat} (h : home b = none) : callHome home ls others b = none := by simp [callHome, h]
theorem callHome_x {b : Nat} {q : Path} (h : home b = some (.x, q)) : callHome home ls others b = some (.x, q) := by simp [callHome, h]
theorem callHome_hit (hdist : Dist ls) {b i id : Nat} {p q : Path} (hl : ls[i]? = some (some (id, p))) (h : home b = some (.r id, p ++ q)) : callHome home ls others b = some (.r (i * 64), q) := by
  simp [callHome, h, hit_iff hdist hl]
theorem callHome_inv {b j : Nat} {q : Path} (h : callHome home ls others b = some (.r j, q)) : ∃ i id p, j = i * 64 ∧ ls[i]? = some (some (id, p)) ∧ home b = some (.r id, p ++ q) := by
  unfold callHome at h
  split at h
  · rename_i id q0 hb
    split at h
    · rename_i i q' hh
      obtain ⟨p, _, h2, h3⟩ := hit_some hh
      injection h with h; injection h with h4 h5; injection h4 with h4
      subst h4 h5
      exact ⟨i, id, p, rfl, by simpa using h2, by rw [hb, h3]⟩
    · split at h
      · injection h with h; injection h with h4 h5; cases h4
      · cases h
  · injection h with h; injection h with h4 h5; cases h4
  · cases h
theorem callHome_t {b k : Nat} {q : Path} : callHome home ls others b ≠ some (.t k, q) := by
  intro h
  unfold callHome at h
  split at h
  · split at h
    · injection h with h; injection h with h4 h5; cases h4
    · split at h
      · injection h with h; injection h with h4 h5; cases h4
      · cases h
  · injection h with h; injection h with h4 h5; cases h4
  · cases h
/-- Blocks whose owner is not handed over. -/
theorem callHome_rest {b id : Nat} {q : Path} (h : home b = some (.r id, q)) (hn : ∀ (i : Nat) p, ls[i]? = some (some (id, p)) → ¬ p <+: q) : callHome home ls others b = if others then some (.x, q) else none := by
  unfold callHome
  rw [h]
  simp only
  cases hh : hit 0 ls id q with
  | none => rfl
  | some r =>
    obtain ⟨i, q'⟩ := r
    obtain ⟨p, _, h2, h3⟩ := hit_some hh
    exact absurd ⟨q', h3.symm⟩ (hn i p (by simpa using h2))
/-- Is a slot's content read without any owner? Then another's view shows it too. -/
theorem SVR.imm (old : RtR w home hd rt F) {x : SV} {v : Value} (h : SVR w home hd rt x v) (hx : x.ids = []) {w' : World} {home' : Home} {hd' : Lb → Value} {rt' : Rts} (hm : ∀ b, b < w.heap.size → home b = none → w'.heap[b]? = w.heap[b]? ∧ home' b = none) : SVR w' home' hd' rt' x v :=
  h.same old hm (fun i hi => by rw [hx] at hi; cases hi)
/-- What is handed over for reading: no block of its is held by the callee. -/
def Unheld (w : World) (home home' : Home) (id : Nat) : Prop := ∀ b q, b < w.heap.size → home b = some (.r id, q) → home' b = none
theorem CR.toImm {home' : Home} {d : Bool} {id : Nat} {p : Path} {c : C} {u : Value} (h : CR w home ((arrTg d (.r id)).exts p) c u) (hn : ∀ b, b < w.heap.size → home b = none → home' b = none) (hu : Unheld w home home' id) : CR w home' .imm c u := by
  refine h.move (fun q b hb hl => ⟨rfl, ?_⟩) (Ok.imm _)
  rw [Tg.exts_imm]
  show home' b = none
  have hcase : home b = none ∨ ∃ q, home b = some (.r id, q) := by
    cases d with
    | true =>
      have e : ((arrTg true (.r id)).exts p).exts q = .own (.r id) (p ++ q) := by simp [arrTg, Tg.exts_own]
      rw [e] at hl
      exact Or.inr ⟨_, hl⟩
    | false =>
      cases p with
      | nil =>
        cases q with
        | nil => exact Or.inr ⟨[], hl⟩
        | cons y q =>
          have e : ((arrTg false (.r id)).exts []).exts (y :: q) = .imm := Tg.exts_top _ _ _
          rw [e] at hl
          exact Or.inl hl
      | cons y p => rw [show (arrTg false (Lb.r id)).exts (y :: p) = .imm from Tg.exts_top _ _ _, Tg.exts_imm] at hl; exact Or.inl hl
  rcases hcase with h | ⟨q, h⟩
  · exact hn b hb h
  · exact hu b q hb h
theorem snapC_ok (old : RtR w home hd rt F) {home' : Home} (hn : ∀ b, b < w.heap.size → home b = none → home' b = none) {x : SV} {v : Value} (h : SVR w home hd rt x v) {c : C} (hs : snapC rt x = some c) (hu : ∀ i ∈ x.ids, Unheld w home home' i) : CR w home' .imm c v := by
  cases x with
  | c c0 =>
    simp only [snapC, Option.some.injEq] at hs
    subst hs
    have h' : CR w home .imm c0 v := h
    exact h'.move (fun q b hb hl => by rw [Tg.exts_imm] at hl ⊢; exact ⟨rfl, hn b hb hl⟩) (Ok.imm _)
  | nil k =>
    simp only [snapC, Option.some.injEq] at hs
    subst hs
    obtain ⟨rfl, hk⟩ := h
    exact CR.kempty hk
  | ref id p off len =>
    simp only [snapC, cont] at hs
    split at hs
    · rename_i d c' hra
      split at hs
      · rename_i sz m tot hsh
        split at hs
        · rename_i hle
          injection hs with hs
          subst hs
          obtain ⟨t, c0, u, k1, k2, k3, k4, k5, k6⟩ := ref_open old h hra hsh
          exact (k5.toImm hn (hu id (by simp [SV.ids]))).part hsh k6 hle
        · cases hs
      · cases hs
    · cases hs
  | pb id off => cases hs
  | pe id p i off => cases hs
  | pm cs off => cases hs
theorem snap_ok (old : RtR w home hd rt F) {home' : Home} {hd' : Lb → Value} {rt' : Rts} (hn : ∀ b, b < w.heap.size → home b = none → home' b = none) {x : SV} {v : Value} (h : SVR w home hd rt x v) {y : SV} (hs : snap rt x = some y)
    (hu : ∀ i ∈ x.ids, Unheld w home home' i ∧ ∀ r, rt i = some r → ∀ j ∈ r.ids, Unheld w home home' j) : SVR w home' hd' rt' y v ∧ y.ids = [] := by
  cases x with
  | c c0 =>
    simp only [snap, Option.some.injEq] at hs
    subst hs
    exact ⟨snapC_ok old hn h (c := c0) rfl (fun i hi => (hu i hi).1), rfl⟩
  | nil k =>
    simp only [snap, Option.some.injEq] at hs
    subst hs
    exact ⟨snapC_ok old hn h (c := k.empty) rfl (fun i hi => (hu i hi).1), rfl⟩
  | ref id p off len =>
    simp only [snap, Option.map_eq_some_iff] at hs
    obtain ⟨c, h1, rfl⟩ := hs
    exact ⟨snapC_ok old hn h (c := c) h1 (fun i hi => (hu i hi).1), rfl⟩
  | pm cs off =>
    simp only [snap, Option.some.injEq] at hs
    subst hs
    refine ⟨?_, rfl⟩
    exact SVR.imm (rt' := rt') (hd' := hd') old h rfl (fun b hb h => ⟨rfl, hn b hb h⟩)
  | pb id off =>
    simp only [snap] at hs
    split at hs
    · rename_i xs hr
      rw [Option.map_eq_some_iff] at hs
      obtain ⟨cs, h1, rfl⟩ := hs
      obtain ⟨b, cur, e, k1, k2, k3, k4⟩ := RR.box (old.root (.r id) _ hr)
      obtain ⟨b', k5, k6⟩ := h.2 xs hr
      rw [k1] at k5
      injection k5 with k5; injection k5 with k5; injection k5 with k5
      subst k5
      obtain ⟨m1, m2⟩ := mapO_spec h1
      have hid := hu id (by simp [SV.ids])
      refine ⟨⟨b, 0, by rw [k6, Nat.zero_add], fun j c hj => ?_⟩, rfl⟩
      have hjl : j < xs.length := by rw [m1]; exact (List.getElem?_eq_some_iff.1 hj).1
      have hjc : j < cur.toList.length := by rw [← k4.1]; exact hjl
      refine ⟨hid.1 b [] (heap_lt k3) k2, cur.toList[j], ?_, ?_⟩
      · rw [Nat.zero_add, cell_row k3]
        rw [← Array.getElem?_toList]; exact List.getElem?_eq_getElem hjc
      · refine snapC_ok old hn (k4.2 j _ _ (List.getElem?_eq_getElem hjl) (List.getElem?_eq_getElem hjc)) (m2 j _ c (List.getElem?_eq_getElem hjl) hj) (fun i hi => ?_)
        exact hid.2 _ hr i (by simp only [Root.ids, List.mem_flatMap]; exact ⟨_, List.getElem_mem hjl, hi⟩)
    · cases hs
  | pe id p i off =>
    simp only [snap] at hs
    split at hs
    · rename_i d c' hra
      rw [Option.map_eq_some_iff] at hs
      obtain ⟨cs, h1, rfl⟩ := hs
      obtain ⟨t, c0, g1, g2, g3⟩ := rowAt_spec hra
      obtain ⟨u, g4, g5⟩ := CR.at p (old.root (.r id) _ g1) g3
      have hid := hu id (by simp [SV.ids])
      have g6 := g5.toImm hn hid.1
      obtain ⟨sz, m, tot, hsh⟩ : ∃ sz m tot, c'.shape = some (sz, m, tot) := by
        cases c' with
        | val v => cases h1
        | hole => cases h1
        | fl a b c => exact ⟨_, _, _, rfl⟩
        | sl a b c => exact ⟨_, _, _, rfl⟩
      have hlt := C.elem_lt h1 hsh
      obtain ⟨vs, hh, hel⟩ := g6.open hsh
      obtain ⟨hlt2, hlen, hcr⟩ := hel i cs (C.elem_elemA h1)
      obtain ⟨b, o', k, cap, e1, e2⟩ := h.2 d t c0 g1 g2 c' u g3 g4 sz m tot hsh hlt
      refine ⟨⟨b, o' + i * sz, by rw [e2]; congr 3; omega, fun j c hj => ?_⟩, rfl⟩
      have hjs : j < sz := by rw [← hlen]; exact (List.getElem?_eq_some_iff.1 hj).1
      obtain ⟨b2, o2, cap2, e3, e4, _, e5⟩ := hh.cell hlt2 hjs
      rw [e1] at e3
      injection e3 with e3 _ _
      injection e3 with e3
      injection e3 with e6 e7
      subst e6 e7
      exact ⟨e4, vs i j, by rw [← e5]; congr 2; omega, hcr j c hj⟩
    · cases hs
end
end Go.Proofs.YtecmolmlojehgaaGreat.T
