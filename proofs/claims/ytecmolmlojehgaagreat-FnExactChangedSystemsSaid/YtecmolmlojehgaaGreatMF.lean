/- append of elements with rows in them. The rest of the operations: structs compared, bytes to a string, append, and all of them in one. All operations but calls, in one. Calls: what the callee is given. Calls: the frame that the callee begins with. Calls: entering. Calls: what comes back is put into the caller's frame. Calls: leaving. -/
import Derived.Test.YtecmolmlojehgaaGreatME
namespace Go.Proofs.YtecmolmlojehgaaGreat.T
open Go
variable (ids : Nat → FuncId)

section
variable {ids} {P : Program} {o : Oper} {a : Act} {w : World} {home : Home} {hd : Lb → Value} {rt rt' : Rts} {av : AV} {ev : Ev} {F : Nat → Option Root}
/-- The cells of a row of elements, one behind the other. -/
theorem sl_cells {t : Tg} {sz : Nat} {es sp : List (List C)} {u : Value} (h : CR w home t (.sl sz es sp) u) : ∃ news : List Value, news.length = es.length * sz ∧ (∀ v ∈ news, v.oneCell' = true) ∧ (∀ e ∈ es, e.length = sz) ∧ 0 < sz ∧
    (∀ (i j : Nat) e c, es[i]? = some e → e[j]? = some c → ∃ v, news[i * sz + j]? = some v ∧ CR w home (t.ext i j) c v) ∧
    ∃ ad cap, u = .slice ad es.length cap ∧ es.length + sp.length ≤ cap ∧ cap ≤ maxLen ∧
      (∀ lb, t.lab = some lb → 0 < cap → ∃ b cur e, ad = some ⟨b, 0, none⟩ ∧ home b = some lb ∧ w.heap[b]? = some (.cells cur e (0, 0)) ∧ cur.size = cap * sz ∧ ∀ (k : Nat) v, news[k]? = some v → cur[k]? = some v) ∧
      (0 < es.length → ∃ b o, ad = some ⟨b, o, none⟩ ∧ ∀ (k : Nat) v, news[k]? = some v → w.cell? ⟨b, o + k, none⟩ = some v) := by
  cases h with
  | sl vs he hh hc =>
    have hh0 := hh
    obtain ⟨h0, hlt, ad, cap, hu, htc, hcm, hcase⟩ := hh
    have hes : ∀ e ∈ es, e.length = sz := fun e h => he e (List.mem_append_left _ h)
    have hget : ∀ (k : Nat) v, ((List.range (es.length * sz)).map (fun k => vs (k / sz) (k % sz)))[k]? = some v → k / sz < es.length ∧ k % sz < sz ∧ vs (k / sz) (k % sz) = v ∧ k / sz * sz + k % sz = k := by
      intro k v hk
      rw [List.getElem?_map, Option.map_eq_some_iff] at hk
      obtain ⟨k', h1, h2⟩ := hk
      have h3 := (List.getElem?_eq_some_iff.1 h1).1
      rw [List.length_range] at h3
      rw [List.getElem?_range h3] at h1
      injection h1 with h1
      subst h1
      exact ⟨(Nat.div_lt_iff_lt_mul h0).2 h3, Nat.mod_lt _ h0, h2, by rw [Nat.mul_comm]; exact Nat.div_add_mod k sz⟩
    refine ⟨(List.range (es.length * sz)).map (fun k => vs (k / sz) (k % sz)), by simp, fun v hv => ?_, hes, h0, fun i j e c h1 h2 => ?_, ad, cap, hu, htc, hcm, fun lb hlb hpos => ?_, fun hpos => ?_⟩
    · obtain ⟨k, hk⟩ := List.getElem?_of_mem hv
      obtain ⟨g1, g2, g3, _⟩ := hget k v hk
      have h1 : (es ++ sp)[k / sz]? = some es[k / sz] := by rw [List.getElem?_append_left g1]; exact List.getElem?_eq_getElem g1
      have h2 : k % sz < (es[k / sz]).length := by rw [hes _ (List.getElem_mem g1)]; exact g2
      rw [← g3]
      exact (hc _ _ _ _ h1 (List.getElem?_eq_getElem h2)).one
    · have hi := (List.getElem?_eq_some_iff.1 h1).1
      have hj : j < sz := by rw [← hes e (List.mem_of_getElem? h1)]; exact (List.getElem?_eq_some_iff.1 h2).1
      have hlt : i * sz + j < es.length * sz := by
        have : (i + 1) * sz ≤ es.length * sz := Nat.mul_le_mul_right _ hi
        rw [Nat.add_mul] at this; omega
      refine ⟨vs i j, ?_, hc i j e c (by rw [List.getElem?_append_left hi]; exact h1) h2⟩
      rw [List.getElem?_map, List.getElem?_range hlt, Option.map_some, idx_div hj, idx_mod hj]
    · rw [hlb] at hcase
      rcases hcase with hcase | ⟨b, cur, e, k1, k2, k3, k4, k5⟩
      · omega
      · refine ⟨b, cur, e, k1, k2, k3, k4, fun k v hk => ?_⟩
        obtain ⟨g1, g2, g3, g4⟩ := hget k v hk
        have := k5 (k / sz) (k % sz) (by omega) g2
        rw [g4, g3] at this
        exact this
    · obtain ⟨b, o', cap2, hu2, _, _, _⟩ := hh0.cell (i := 0) (j := 0) (by omega) h0
      rw [hu] at hu2
      injection hu2 with hu2 _ _
      subst hu2
      refine ⟨b, o', rfl, fun k v hk => ?_⟩
      obtain ⟨g1, g2, g3, g4⟩ := hget k v hk
      obtain ⟨b3, o3, cap3, hu3, _, _, hv3⟩ := hh0.cell (i := k / sz) (j := k % sz) (by omega) g2
      rw [hu] at hu3
      injection hu3 with hu3 _ _
      injection hu3 with hu3
      injection hu3 with q1 q2
      subst q1 q2
      rw [g4, g3] at hv3
      exact hv3
/-- What was taken, as a tree. -/
theorem Held.tree (old : RtR w home hd rt F) {k : Nat} {ow : Ow} {c : C} {v : Value} (h : Held w home hd F k ow c v) : ∃ T, CR w home T c v ∧ ((ow = .imm ∧ T = .imm) ∨ (ow ≠ .imm ∧ T = arrTg (decide (ow = .deep)) (.t k))) := by
  rcases h with ⟨e, h⟩ | ⟨e, hF, hv, _⟩
  · exact ⟨.imm, h, Or.inl ⟨e, rfl⟩⟩
  · subst hv
    exact ⟨_, old.root (.t k) _ hF, Or.inr ⟨e, rfl⟩⟩
/-- An element of what was taken goes into a new row. -/
theorem elem_goes {w' : World} {home' : Home} {ow : Ow} {T : Tg} {k i j i' id : Nat} {c : C} {v : Value} {D : Bool} (hT : (ow = .imm ∧ T = .imm) ∨ (ow ≠ .imm ∧ T = arrTg (decide (ow = .deep)) (.t k))) (h : CR w home (T.ext i j) c v) (hD : D = true → ow = .deep)
    (himm : ∀ b, b < w.heap.size → home b = none → w'.heap[b]? = w.heap[b]? ∧ home' b = none)
    (hown : ∀ q b, b < w.heap.size → home b = some (.t k, (i, j) :: q) → w'.heap[b]? = w.heap[b]? ∧ home' b = if D then some (.r id, (i', j) :: q) else none) : CR w' home' ((arrTg D (.r id)).ext i' j) c v := by
  by_cases hdp : ow = .deep
  · subst hdp
    rcases hT with ⟨e, _⟩ | ⟨_, rfl⟩
    · cases e
    · have hext : (arrTg (decide (Ow.deep = Ow.deep)) (.t k)).ext i j = .own (.t k) [(i, j)] := rfl
      rw [hext] at h
      refine h.move (fun q b hb hl => ?_) (Ok.own _ _ _)
      rw [Tg.exts_own] at hl
      obtain ⟨h1, h2⟩ := hown q b hb hl
      refine ⟨h1, h2.trans ?_⟩
      cases D with
      | true => simp [arrTg, Tg.ext, Tg.exts_own, Tg.lab]
      | false => simp [arrTg, Tg.ext, Tg.exts_imm, Tg.lab]
  · have hDf : D = false := by
      cases D with
      | true => exact absurd (hD rfl) hdp
      | false => rfl
    subst hDf
    have hTi : T.ext i j = .imm := by
      rcases hT with ⟨_, rfl⟩ | ⟨_, rfl⟩
      · rfl
      · rw [decide_eq_false hdp]; rfl
    rw [hTi] at h
    show CR w' home' .imm c v
    refine h.move (fun q b hb hl => ?_) (Ok.imm _)
    rw [Tg.exts_imm] at hl ⊢
    exact himm b hb hl
theorem ok_app_sl (old : RtR w home hd rt F0) (he : EvR ids w home hd rt ev a.eval) {sz bytes : Nat} {x y : Opd} (hm : mApp ids P o.op (.sl sz) bytes x y = true) {p q : SV} (hx : evS ev x = some p) (hy : evS ev y = some q)
    {ox oy : Ow} {es sp ys spy : List (List C)} {rt1 rt2 : Rts} (htk1 : takeSl rt q = some (oy, .sl sz ys spy, rt1)) (htk2 : takeSl rt1 p = some (ox, .sl sz es sp, rt2)) (hox : ox ≠ .imm) (hb : (es.length + ys.length) * bytes ≤ 140737488355328) (h63 : es.length + ys.length ≤ 9223372036854775807) {id : Nat}
    (h : newRt rt2 id (.arr (decide (ox = .deep) && (decide (oy = .deep) || ys.isEmpty)) false (.sl sz (es ++ ys) [])) = some rt') : OpOk ids P o a w home hd rt (.sv (.ref id [] 0 (es.length + ys.length))) rt' := by
  obtain ⟨x', y', t, t2, e, ti, z, ho, h1, h2, h3, h4, hu, hti, hby, hsz, hz, hzs⟩ := mApp_spec hm
  have hsz' : ti.size = sz := hsz
  subst hsz'
  have h4 : 0 < ti.size := h4
  obtain ⟨hp, hpp⟩ := he.S h1 hx
  obtain ⟨hq, hqp⟩ := he.S h2 hy
  obtain ⟨hn1, hn2, _, rfl⟩ := newRt_spec h
  have htk : takes rt [q, p] = some ([(oy, .sl ti.size ys spy), (ox, .sl ti.size es sp)], rt2) := by
    simp only [takes, (takeSl_spec htk1).1, (takeSl_spec htk2).1]
  obtain ⟨home1, hd1, F1, st1, _, fn, _, _, _, held⟩ := takes_step [q, p] (k := 0) old (vs := [a.eval y', a.eval x']) ⟨rfl, fun i x v hx hv => by
      match i with
      | 0 => simp at hx hv; subst hx hv; exact hq
      | 1 => simp at hx hv; subst hx hv; exact hp
      | i + 2 => simp at hx⟩ (fun x hx => by
      simp only [List.mem_cons, List.not_mem_nil, or_false] at hx
      rcases hx with rfl | rfl
      · exact hqp
      · exact hpp) (fun _ _ => rfl) htk
  obtain ⟨Ty, hty, hTy⟩ := ((held 0 _ _ rfl rfl).1).tree st1.rel
  obtain ⟨Tx, htx, hTx⟩ := ((held 1 _ _ rfl rfl).1).tree st1.rel
  simp only [Nat.zero_add] at hTy hTx
  have hlab : Tx.lab = some (.t 1, []) := by
    rcases hTx with ⟨e1, _⟩ | ⟨_, rfl⟩
    · exact absurd e1 hox
    · cases ox <;> first | exact absurd rfl hox | rfl
  obtain ⟨news, ns1, ns2, ns3, _, ns4, ady, capy, nsu, nsc, nsm, _, nsr⟩ := sl_cells hty
  obtain ⟨olds, os1, os2, os3, _, os4, ad, cap, osu, osc, osm, osb, _⟩ := sl_cells htx
  have hblk : 0 < cap → ∃ b cur e, ad = some ⟨b, 0, none⟩ ∧ home1 b = some (.t 1, []) ∧ w.heap[b]? = some (.cells cur e (0, 0)) ∧ cur.size = cap * ti.size ∧ ∀ (k : Nat) v, olds[k]? = some v → cur[k]? = some v := osb _ hlab
  have hall : ∀ e0 ∈ es ++ ys ++ [], e0.length = ti.size := by
    intro e0 h0
    rw [List.append_nil, List.mem_append] at h0
    rcases h0 with h0 | h0
    · exact os3 e0 h0
    · exact ns3 e0 h0
  let D : Bool := decide (ox = .deep) && (decide (oy = .deep) || ys.isEmpty)
  have hDx : D = true → ox = .deep := fun h => by
    simp only [D, Bool.and_eq_true, decide_eq_true_eq] at h; exact h.1
  have hDy : D = true → oy = .deep ∨ ys = [] := fun h => by
    simp only [D, Bool.and_eq_true, Bool.or_eq_true, decide_eq_true_eq, List.isEmpty_iff] at h; exact h.2
  let g : Nat → Path → Option Path := fun m q => match m, q with
    | 0, (i, j) :: q => if D then some ((es.length + i, j) :: q) else none
    | 1, (i, j) :: q => if D then some ((i, j) :: q) else none
    | _, _ => none
  have hsrc : ∀ w1 : World, w1.heap = w.heap → (Builtin.firstCells ti.size ys.length (a.eval y')).run P w1 = .ok news.toArray w1 := by
    intro w1 hw1
    rw [nsu]
    cases ady with
    | none =>
      have : ys = [] := by
        cases ys with
        | nil => rfl
        | cons y ys => obtain ⟨b, o', g, _⟩ := nsr (by simp); cases g
      subst this
      have : news = [] := List.eq_nil_of_length_eq_zero (by simpa using ns1)
      subst this
      exact run_firstCells_none w1 ti.size _ _ _
    | some x =>
      refine run_firstCells_some (P := P) w1 ti.size ys.length x ys.length capy news ns1 (fun j u hj => ?_)
      have hpos : 0 < ys.length := by
        cases ys with
        | nil => simp at ns1; subst ns1; simp at hj
        | cons y ys => simp
      obtain ⟨b, o', g1, g2⟩ := nsr hpos
      injection g1 with g1
      subst g1
      rw [addr_add]
      have := g2 j u hj
      simpa [World.cell?, hw1] using this
  have hlen : (Builtin.lenOf (a.eval y')).run P w = .ok ys.length w := by rw [nsu]; rfl
  have hbb : ∃ b cur e', 0 < cap → ad = some ⟨b, 0, none⟩ ∧ home1 b = some (.t 1, []) ∧ w.heap[b]? = some (.cells cur e' (0, 0)) ∧ cur.size = cap * ti.size ∧ ∀ (k : Nat) v, olds[k]? = some v → cur[k]? = some v := by
    by_cases hc : 0 < cap
    · obtain ⟨b, cur, e', k⟩ := hblk hc
      exact ⟨b, cur, e', fun _ => k⟩
    · exact ⟨0, #[], 0, fun h => absurd h hc⟩
  obtain ⟨b, cur, e', hbk⟩ := hbb
  have hold : ∀ (j : Nat) u, olds[j]? = some u → cur[j]? = some u := by
    intro j u hj
    have : 0 < cap := by
      rcases Nat.eq_zero_or_pos cap with h | h
      · have : es.length = 0 := by omega
        rw [this, Nat.zero_mul] at os1
        have := (List.getElem?_eq_some_iff.1 hj).1
        omega
      · exact h
    exact (hbk this).2.2.2.2 j u hj
  obtain ⟨v', w', hrun, hcases⟩ := run_append (P := P) (w := w) (ty := o.type) hu h3 hti hz hzs (ad := ad) (n := es.length) (cap := cap) (by omega) (b := b) (cur := cur) (e' := e') (fun h0 => ⟨(hbk h0).1, (hbk h0).2.2.1, (hbk h0).2.2.2.1⟩) (olds := olds) os1 hold
    (yv := a.eval y') (m := ys.length) ns1 hlen hsrc ns2 (by rw [hby]; exact hb) h63
  have hex : (execOp a.eval o).run P w = .ok (.value v') w' := exec_append ho (by rw [osu]; exact hrun)
  have hF0 : asmF F1 0 = F0 := by funext j; simp [asmF, F0]
  -- the new row
  have hnew : ∀ {B cap' : Nat} {cur' : Array Value} {e1 : TypeId} {w2 : World}, es.length + ys.length ≤ cap' → cap' ≤ maxLen → w2.heap[B]? = some (.cells cur' e1 (0, 0)) → cur'.size = cap' * ti.size →
      (∀ (j : Nat) u, (olds ++ news)[j]? = some u → cur'[j]? = some u) → (∀ b', b' < w.heap.size → b' ≠ B → w2.heap[b']? = w.heap[b']?) → (B < w.heap.size → home1 B = some (.t 1, [])) →
      CR w2 (asmHome home1 0 id (some B) g) (arrTg D (.r id)) (.sl ti.size (es ++ ys) []) (.slice (some ⟨B, 0, none⟩) (es.length + ys.length) cap') := by
    intro B cap' cur' e1 w2 q1 q2 q4 q5 q6 q7 q8
    have himm : ∀ b', b' < w.heap.size → home1 b' = none → w2.heap[b']? = w.heap[b']? ∧ asmHome home1 0 id (some B) g b' = none := by
      intro b' hb' hn
      have hne : b' ≠ B := fun e => by subst e; rw [q8 hb'] at hn; cases hn
      exact ⟨q7 b' hb' hne, asmHome_none (by simp [hne]) hn⟩
    have hcell : ∀ (k : Nat) u, (olds ++ news)[k]? = some u → cur'[k]? = some ((olds ++ news).getD k undef) := by
      intro k u hk
      rw [q6 k u hk]
      simp [List.getD_eq_getElem?_getD, hk]
    refine .sl (fun i j => (olds ++ news).getD (i * ti.size + j) undef) hall ?_ (fun i j e0 c0 g1 g2 => ?_)
    · rw [List.length_nil, Nat.add_zero, List.length_append]
      refine Hdr.new (t := arrTg D (.r id)) (by cases D <;> rfl) h4 q1 q2 asmHome_B q4 q5 (fun i j hi hj => ?_)
      have hlt : i * ti.size + j < (olds ++ news).length := by
        rw [List.length_append, os1, ns1, ← Nat.add_mul]
        have : (i + 1) * ti.size ≤ (es.length + ys.length) * ti.size := Nat.mul_le_mul_right _ hi
        rw [Nat.add_mul] at this; omega
      exact hcell _ _ (List.getElem?_eq_getElem hlt)
    · rw [List.append_nil] at g1
      show CR w2 (asmHome home1 0 id (some B) g) ((arrTg D (.r id)).ext i j) c0 ((olds ++ news).getD (i * ti.size + j) undef)
      have hj : j < ti.size := by
        rw [← hall e0 (by rw [List.append_nil]; exact List.mem_of_getElem? g1)]; exact (List.getElem?_eq_some_iff.1 g2).1
      by_cases hi : i < es.length
      · rw [List.getElem?_append_left hi] at g1
        obtain ⟨v, k1, k2⟩ := os4 i j e0 c0 g1 g2
        have hv : (olds ++ news).getD (i * ti.size + j) undef = v := by
          have := (List.getElem?_eq_some_iff.1 k1).1
          simp [List.getD_eq_getElem?_getD, List.getElem?_append_left this, k1]
        rw [hv]
        refine elem_goes hTx k2 hDx himm (fun q' b' hb' hl => ?_)
        have hne : b' ≠ B := fun e => by subst e; rw [q8 hb'] at hl; cases hl
        refine ⟨q7 b' hb' hne, ?_⟩
        rw [asmHome_t (by simp [hne]) hl (Nat.zero_le _)]
        simp only [g]
        cases D <;> rfl
      · rw [List.getElem?_append_right (by omega)] at g1
        obtain ⟨v, k1, k2⟩ := ns4 (i - es.length) j e0 c0 g1 g2
        have hidx : i * ti.size + j - olds.length = (i - es.length) * ti.size + j := by
          rw [os1, Nat.sub_mul]
          have : es.length * ti.size ≤ i * ti.size := Nat.mul_le_mul_right _ (by omega)
          omega
        have hv : (olds ++ news).getD (i * ti.size + j) undef = v := by
          have hle : olds.length ≤ i * ti.size + j := by
            rw [os1]
            have : es.length * ti.size ≤ i * ti.size := Nat.mul_le_mul_right _ (by omega)
            omega
          simp [List.getD_eq_getElem?_getD, List.getElem?_append_right hle, hidx, k1]
        rw [hv]
        have hys : ys ≠ [] := fun e => by subst e; simp at g1
        refine elem_goes hTy k2 (fun hd0 => (hDy hd0).resolve_right hys) himm (fun q' b' hb' hl => ?_)
        have hne : b' ≠ B := fun e => by subst e; rw [q8 hb'] at hl; cases hl
        refine ⟨q7 b' hb' hne, ?_⟩
        rw [asmHome_t (by simp [hne]) hl (Nat.zero_le _)]
        simp only [g]
        rw [show es.length + (i - es.length) = i by omega]
        cases D <;> rfl
  rcases hcases with ⟨c1, c2, rfl, hw⟩ | ⟨c1, c2, rfl, rfl⟩ | ⟨cap', c1, c2, c3, rfl, rfl⟩
  · have hw := hw.symm
    subst hw
    have he0 : es = [] := List.eq_nil_of_length_eq_zero (by omega)
    have hy0 : ys = [] := List.eq_nil_of_length_eq_zero (by omega)
    subst he0 hy0 c2
    have hcr : CR w (asmHome home1 0 id none g) (arrTg D (.r id)) (.sl ti.size ([] ++ []) []) (.slice ad 0 0) := by
      have := (CR.kempty (w := w) (home := asmHome home1 0 id none g) (t := arrTg D (.r id)) (k := .sl ti.size) h4).readdr (a' := ad) (by simp [K.empty, C.shape]) (fun h => absurd h (by omega))
      exact this
    have s2 := assemble (w' := w) st1.rel hn1 hn2 (k0 := 0) (B := none) g (fun b h => by cases h) (fun _ _ _ => rfl) rfl rfl rfl (Nat.le_refl _) hcr
    rw [hF0] at s2
    exact .value hex (st1.trans s2) (new_ref (home := asmHome home1 0 id none g) (updL_same _ _ _) (Nat.le_refl _))
  · obtain ⟨had, hhb, hg, hcs, _⟩ := hbk c2
    subst had
    have hle : es.length * ti.size + news.length ≤ cur.toList.length := by
      rw [ns1]
      have e2 : cur.toList.length = cur.size := Array.length_toList
      rw [e2, hcs, ← Nat.add_mul]; exact Nat.mul_le_mul_right _ c1
    obtain ⟨r1, r2⟩ := setRow_step_heap (w := w) (cs := (cur.toList.take (es.length * ti.size) ++ news ++ cur.toList.drop (es.length * ti.size + news.length)).toArray) hg
    have hcr := hnew (B := b) c1 osm r1 (by rw [List.size_toArray, splice_len hle]; simpa using hcs) (fun j u hj => by
      rw [List.getElem?_toArray, splice_get hle]
      by_cases hjj : j < olds.length
      · rw [List.getElem?_append_left hjj] at hj
        rw [if_neg (by rw [os1] at hjj; omega)]
        have := hold j u hj
        simpa using this
      · rw [List.getElem?_append_right (by omega)] at hj
        have hlt := (List.getElem?_eq_some_iff.1 hj).1
        rw [os1] at hjj hj hlt
        rw [if_pos ⟨by omega, by omega⟩]
        exact hj) (fun b' _ hne => r2 b' hne) (fun _ => hhb)
    have s2 := assemble (w' := w.setRow b (cur.toList.take (es.length * ti.size) ++ news ++ cur.toList.drop (es.length * ti.size + news.length)).toArray) st1.rel hn1 hn2 (k0 := 0) (B := some b) g
      (fun b' hb' => by injection hb' with hb'; subst hb'; exact ⟨heap_lt r1, fun _ => ⟨1, [], Nat.zero_le _, hhb⟩⟩) (fun b' _ hne => r2 b' (fun e => hne (by rw [e]))) rfl rfl rfl (by simp) hcr
    rw [hF0] at s2
    exact .value hex (st1.trans s2) (new_ref (home := asmHome home1 0 id (some b) g) (updL_same _ _ _) c1)
  · have hg := heap_alloc_new w.drew (.cells (olds.toArray ++ news.toArray ++ Builtin.zeroCells z.cells (cap' - (es.length + ys.length))) e)
    have hcr := hnew (B := w.heap.size) c2 c3 hg (by
      simp only [Array.size_append, List.size_toArray, size_zeroCells, hzs, os1, ns1, ← Nat.add_mul]; congr 1; omega) (fun j u hj => by
        rw [Array.getElem?_append_left (by have := (List.getElem?_eq_some_iff.1 hj).1; simpa using this)]
        simpa using hj) (fun b' hb' _ => heap_alloc_old w.drew _ b' hb') (fun h => by omega)
    have s2 := assemble (w' := w.drew.alloc (.cells (olds.toArray ++ news.toArray ++ Builtin.zeroCells z.cells (cap' - (es.length + ys.length))) e)) st1.rel hn1 hn2 (k0 := 0) (B := some w.heap.size) g
      (fun b' hb' => by injection hb' with hb'; subst hb'; exact ⟨heap_lt hg, fun h => by omega⟩) (fun b' hb' _ => heap_alloc_old w.drew _ b' hb') rfl rfl rfl (Nat.le_of_lt (heap_lt hg)) hcr
    rw [hF0] at s2
    exact .value hex (st1.trans s2) (new_ref (home := asmHome home1 0 id (some w.heap.size) g) (updL_same _ _ _) c2)
end
end Go.Proofs.YtecmolmlojehgaaGreat.T
namespace Go.Proofs.YtecmolmlojehgaaGreat.T
open Go
variable (ids : Nat → FuncId)

def kindIs (P : Program) (t : TypeId) (k : Nat) : Bool :=
  match P.underlying t with
  | some (.int _) => k == 0
  | some .bool => k == 1
  | some .string => k == 2
  | _ => false
def eqFs (P : Program) : Nat → List Field → List Nat → Bool
  | _, [], [] => true
  | i, f :: fs, k :: ks => decide (f.name ≠ "_") && f.offset == i && kindIs P f.type k && aggIs P f.type false && eqFs P (i + 1) fs ks
  | _, _, _ => false
def mEqs (P : Program) (o : Op) (neg : Bool) (ks : List Nat) (x y : Opd) : Bool :=
  match o with
  | .binOp op' t x' y' _ => decide (op' = if neg then .neq else .eql) && mOpd ids x' x && mOpd ids y' y && !P.stoodInHeld t && !P.eqGuardType P.depth t &&
    match P.underlying t with
    | some (.struct fs) => eqFs P 0 fs.toList ks
    | _ => false
  | _ => false
def isBytesT (P : Program) : TypeDesc → Bool
  | .slice e => match P.underlying e with
    | some (.int .u8) => true
    | _ => false
  | _ => false
def mB2s (P : Program) (o : Op) (x : Opd) : Bool :=
  match o with
  | .convert src dst x' => mOpd ids x' x && under P dst isStrT && under P src (isBytesT P)
  | _ => false
section
variable {ids} {P : Program} {o : Oper} {a : Act} {w : World} {home : Home} {hd : Lb → Value} {rt rt' : Rts} {av : AV} {ev : Ev} {F : Nat → Option Root}
theorem run_eqCell {d k : Nat} {t : TypeId} {x y : Value} {b : Bool} (h : kindIs P t k = true) (he : eqCell k x y = some b) : (Op.equalIn (d + 1) t x y).run P w = .ok b w := by
  unfold kindIs at h
  split at h
  · rename_i k0 ht
    have : k = 0 := by simpa using h
    subst this
    unfold eqCell at he
    split at he <;> simp_all
    obtain ⟨rfl, rfl⟩ := he
    exact run_equalIn_int _ d t _ _ _ _ ht
  · rename_i ht
    have : k = 1 := by simpa using h
    subst this
    unfold eqCell at he
    split at he <;> simp_all
    subst he
    exact run_equalIn_bool' _ d t _ _ ht
  · rename_i ht
    have : k = 2 := by simpa using h
    subst this
    unfold eqCell at he
    split at he <;> simp_all
    subst he
    exact run_equalIn_string _ d t _ _ ht
  · cases h
theorem svR_val {v u : Value} (h : SVR w home hd rt (.c (.val v)) u) : u = v := by
  have h' : CR w home .imm (.val v) u := h
  cases h' with
  | val _ => rfl
theorem eqCells_cons {k : Nat} {ks : List Nat} {xs ys : List SV} {b : Bool} (h : eqCells (k :: ks) xs ys = some b) : ∃ x xs' y ys' r1 r2, xs = .c (.val x) :: xs' ∧ ys = .c (.val y) :: ys' ∧ eqCell k x y = some r1 ∧ eqCells ks xs' ys' = some r2 ∧ b = (r1 && r2) := by
  cases xs with
  | nil => cases ys <;> cases h
  | cons x xs =>
    cases x with
    | c c =>
      cases c with
      | val x =>
        cases ys with
        | nil => cases h
        | cons y ys =>
          cases y with
          | c c =>
            cases c with
            | val y =>
              simp only [eqCells] at h
              split at h
              · rename_i r1 r2 g1 g2
                injection h with h
                exact ⟨x, xs, y, ys, r1, r2, rfl, rfl, g1, g2, h.symm⟩
              · cases h
            | _ => cases h
          | _ => cases h
      | _ => cases h
    | _ => cases h
theorem run_eqFields {d : Nat} {us vs : List Value} : ∀ {fs : List Field} {ks : List Nat} {xs ys : List SV} {i : Nat} {b : Bool}, eqFs P i fs ks = true → eqCells ks xs ys = some b →
    F2 (SVR w home hd rt) xs (us.drop i) → F2 (SVR w home hd rt) ys (vs.drop i) → (Op.eqFields (d + 1) us.toArray vs.toArray fs).run P w = .ok b w
  | [], [], xs, ys, i, b, _, h, _, _ => by
    unfold eqCells at h
    split at h <;> simp_all [Op.eqFields]
  | [], _ :: _, _, _, _, _, h, _, _, _ => by cases h
  | _ :: _, [], _, _, _, _, h, _, _, _ => by cases h
  | f :: fs, k :: ks, xs, ys, i, b, h, hc, hx, hy => by
    simp only [eqFs, Bool.and_eq_true, decide_eq_true_eq, beq_iff_eq] at h
    obtain ⟨⟨⟨⟨h1, rfl⟩, h3⟩, h4⟩, h5⟩ := h
    obtain ⟨x, xs', y, ys', r1, r2, rfl, rfl, g1, g2, rfl⟩ := eqCells_cons hc
    have hlx := hx.1
    have hly := hy.1
    simp only [List.length_cons, List.length_drop] at hlx hly
    have hix : f.offset < us.length := by omega
    have hiy : f.offset < vs.length := by omega
    have ex := svR_val (hx.2 0 _ _ rfl (by rw [List.getElem?_drop]; exact List.getElem?_eq_getElem hix))
    have ey := svR_val (hy.2 0 _ _ rfl (by rw [List.getElem?_drop]; exact List.getElem?_eq_getElem hiy))
    have ex : us[f.offset] = x := ex
    have ey : vs[f.offset] = y := ey
    have px : (part f.type us.toArray f.offset).run P w = .ok x w := by
      unfold part
      simp [aggIs_run h4, List.getElem?_eq_getElem hix, ex]
    have py : (part f.type vs.toArray f.offset).run P w = .ok y w := by
      unfold part
      simp [aggIs_run h4, List.getElem?_eq_getElem hiy, ey]
    have ih := run_eqFields (d := d) (us := us) (vs := vs) (xs := xs') (ys := ys') (i := f.offset + 1) h5 g2
      ⟨by rw [List.length_drop]; omega, fun j a b ha hb => hx.2 (j + 1) a b (by simpa using ha) (by rw [List.getElem?_drop] at hb ⊢; rw [← hb]; congr 1; omega)⟩
      ⟨by rw [List.length_drop]; omega, fun j a b ha hb => hy.2 (j + 1) a b (by simpa using ha) (by rw [List.getElem?_drop] at hb ⊢; rw [← hb]; congr 1; omega)⟩
    simp only [Op.eqFields]
    rw [if_pos h1]
    simp only [Sem.run_bind, px, py, Result.andThen_ok, run_eqCell h3 g1]
    cases r1 with
    | true => simpa using ih
    | false => simp
theorem ok_eqs (old : RtR w home hd rt F0) (he : EvR ids w home hd rt ev a.eval) {neg : Bool} {ks : List Nat} {x y : Opd} (hm : mEqs ids P o.op neg ks x y = true) {xs ys : List SV} (hx : ev x = some (.agg xs)) (hy : ev y = some (.agg ys)) {b : Bool} (h : eqCells ks xs ys = some b) :
    OpOk ids P o a w home hd rt (.sv (.v (.bool (if neg then !b else b)))) rt := by
  unfold mEqs at hm
  split at hm
  · rename_i op' t x' y' t' ho
    simp only [Bool.and_eq_true, decide_eq_true_eq, Bool.not_eq_true'] at hm
    obtain ⟨⟨⟨⟨⟨rfl, h1⟩, h2⟩, h3⟩, h4⟩, h5⟩ := hm
    split at h5
    · rename_i fs hd1
      obtain ⟨us, hu1, hu2⟩ := (he x' x _ h1 hx).1
      obtain ⟨vs, hv1, hv2⟩ := (he y' y _ h2 hy).1
      have hf : P.fieldsOf t = fs := by simp [Program.fieldsOf, hd1]
      have hr : (Op.equalIn 10000 t (.agg us.toArray) (.agg vs.toArray)).run P w = .ok b w := by
        rw [show (10000 : Nat) = 9999 + 1 from rfl, run_equalIn_struct w 9999 t _ _ (by rw [hf]; exact hd1) h3, hf]
        exact run_eqFields (d := 9998) h5 h (by simpa using hu2) (by simpa using hv2)
      refine .value (v := .bool (if neg then !b else b)) (w' := w) ?_ (Step.refl old) (avr_v rfl)
      unfold execOp
      rw [ho]
      simp only [hu1, hv1, Sem.run_bind, run_eqGuard_agg w _ t x' y' _ _ h4, Result.andThen_ok]
      cases neg with
      | true => simp only [if_true, run_neq_struct, hr, Result.andThen_ok, Sem.run_pure]
      | false => simp only [Bool.false_eq_true, if_false, run_eql_struct, hr, Result.andThen_ok, Sem.run_pure]
    · cases h5
  · cases hm
theorem foldl_push : ∀ (ns : List Int) (s : ByteArray), ns.foldl (fun r n => r.push (UInt8.ofNat n.toNat)) s = ⟨s.data ++ (ns.map (fun n => UInt8.ofNat n.toNat)).toArray⟩
  | [], s => by simp
  | n :: ns, s => by
    rw [List.foldl_cons, foldl_push ns]
    congr 1
    simp [ByteArray.push]
theorem bytes_of {es : List (List Value)} {bs : List UInt8} : mapO (fun e => match e with | [.int .u8 n] => some (UInt8.ofNat n.toNat) | _ => none) es = some bs → ∃ ns : List Int, es.flatten = ns.map (.int .u8) ∧ bs = ns.map (fun n => UInt8.ofNat n.toNat) ∧ es.length = ns.length := by
  induction es generalizing bs with
  | nil => intro h; simp only [mapO, Option.some.injEq] at h; subst h; exact ⟨[], rfl, rfl, rfl⟩
  | cons e es ih =>
    intro h
    simp only [mapO] at h
    split at h
    · rename_i y hy
      split at h
      · rename_i ys hys
        injection h with h
        subst h
        obtain ⟨ns, h1, h2, h3⟩ := ih hys
        split at hy
        · rename_i n
          injection hy with hy
          exact ⟨n :: ns, by simp [h1], by simp [h2, hy], by simp [h3]⟩
        · cases hy
      · cases h
    · cases h
theorem ok_b2s (old : RtR w home hd rt F0) (he : EvR ids w home hd rt ev a.eval) {x : Opd} (hm : mB2s ids P o.op x = true) {p : SV} (hx : evS ev x = some p) {es sp : List (List Value)} (hc : cont rt p = some (.fl 1 es sp)) {bs : List UInt8}
    (h : mapO (fun e => match e with | [.int .u8 n] => some (UInt8.ofNat n.toNat) | _ => none) es = some bs) : OpOk ids P o a w home hd rt (.sv (.v (.string ⟨bs.toArray⟩))) rt := by
  unfold mB2s at hm
  split at hm
  · rename_i src dst x' ho
    simp only [Bool.and_eq_true] at hm
    obtain ⟨⟨h1, h2⟩, h3⟩ := hm
    obtain ⟨d, hd1, hd2⟩ := under_spec h2
    obtain rfl := isStrT_eq hd2
    obtain ⟨d2, hs1, hs2⟩ := under_spec h3
    obtain ⟨e, rfl, hue⟩ : ∃ e, d2 = .slice e ∧ P.underlying e = some (.int .u8) := by
      unfold isBytesT at hs2
      split at hs2
      · split at hs2
        · exact ⟨_, rfl, by assumption⟩
        · cases hs2
      · cases hs2
    obtain ⟨ns, n1, rfl, n3⟩ := bytes_of h
    obtain ⟨_, _, ad, cap, hv, _, _, hcell⟩ := cont_flat old (he.S h1 hx).1 hc
    have hr : (Conv.bytesToString (a.eval x')).run P w = .ok (.string ⟨(ns.map (fun n => UInt8.ofNat n.toNat)).toArray⟩) w := by
      rw [hv]
      cases ad with
      | none =>
        have : es = [] := by
          cases es with
          | nil => rfl
          | cons y ys => obtain ⟨b, o', g, _⟩ := hcell (by simp); cases g
        subst this
        have : ns = [] := List.eq_nil_of_length_eq_zero (by simpa using n3.symm)
        subst this
        rfl
      | some q =>
        have hl : (loadCells q es.length).run P w = .ok (ns.map (Value.int .u8)).toArray w := by
          have := run_loadCells_list (P := P) (w := w) q (ns.map (Value.int .u8)) (fun j v hj => by
            have hpos : 0 < es.length := by
              rw [n3]
              cases ns with
              | nil => simp at hj
              | cons n ns => simp
            obtain ⟨b, o', g1, g2⟩ := hcell hpos
            injection g1 with g1
            subst g1
            rw [addr_add]
            exact g2 j v (by rw [n1]; exact hj))
          rw [List.length_map, ← n3] at this
          exact this
        rw [run_bytesToString w q es.length cap ns hl, foldl_push]
        simp
    refine .value (v := .string ⟨(ns.map (fun n => UInt8.ofNat n.toNat)).toArray⟩) (w' := w) ?_ (Step.refl old) (avr_v rfl)
    unfold execOp
    rw [ho]
    have hc2 : (convert src dst (a.eval x')).run P w = (Conv.bytesToString (a.eval x')).run P w := by
      rw [hv]; exact run_convert_bytes_string w src dst e _ _ _ hs1 hue hd1
    simp only [Sem.run_bind, hc2, hr, Result.andThen_ok, Sem.run_pure]
  · cases hm
theorem ok_app (old : RtR w home hd rt F0) (he : EvR ids w home hd rt ev a.eval) {k : K} {bytes : Nat} {x y : Opd} (hm : mApp ids P o.op k bytes x y = true) {p q : SV} (hx : evS ev x = some p) (hy : evS ev y = some q) {id : Nat} {r : SV} (h : append rt id k bytes p q = some (r, rt')) :
    OpOk ids P o a w home hd rt (.sv r) rt' := by
  unfold append at h
  split at h
  · rename_i dy cy rt1 hs
    split at h
    · rename_i ox cx rt2 htk
      cases k with
      | fl sz =>
        simp only [source] at hs
        split at hs
        · rename_i sz' es sp hc
          split at hs
          · rename_i hsz
            subst hsz
            simp only [Option.some.injEq, Prod.mk.injEq] at hs
            obtain ⟨rfl, rfl, rfl⟩ := hs
            cases cx with
            | fl sz2 es2 sp2 =>
              simp only at h
              split at h
              · rename_i hcond
                obtain ⟨hox, rfl, hb, h63⟩ := hcond
                rw [Option.map_eq_some_iff] at h
                obtain ⟨rt3, h1, h2⟩ := h
                injection h2 with h2 h3
                subst h2 h3
                refine ok_app_flat old he hm hx hy (ys := es) (fun v hv => ?_) htk hox hb h63 h1
                have hfl := cont_flat old hv hc
                obtain ⟨g1, g2, g3, g4⟩ := flat_source (P := P) hfl
                exact ⟨g1, g2, g3, fun e he => (hfl.2.1 e he).1, g4⟩
              · cases h
            | val v => cases h
            | hole => cases h
            | sl sz2 es2 sp2 => cases h
          · cases hs
        · cases hs
      | sl sz =>
        simp only [source] at hs
        split at hs
        · rename_i oy sz' es sp rt0 hc
          split at hs
          · rename_i hsz
            subst hsz
            simp only [Option.some.injEq, Prod.mk.injEq] at hs
            obtain ⟨rfl, rfl, rfl⟩ := hs
            cases cx with
            | sl sz2 es2 sp2 =>
              simp only at h
              split at h
              · rename_i hcond
                obtain ⟨hox, rfl, hb, h63⟩ := hcond
                rw [Option.map_eq_some_iff] at h
                obtain ⟨rt3, h1, h2⟩ := h
                injection h2 with h2 h3
                subst h2 h3
                exact ok_app_sl old he hm hx hy hc htk hox hb h63 h1
              · cases h
            | val v => cases h
            | hole => cases h
            | fl sz2 es2 sp2 => cases h
          · cases hs
        · cases hs
    · cases h
  · cases h
end
end Go.Proofs.YtecmolmlojehgaaGreat.T
namespace Go.Proofs.YtecmolmlojehgaaGreat.T
open Go
variable (ids : Nat → FuncId)

def mPO (P : Program) (o : Op) : PO → Bool
  | .mv x => mMv ids o x
  | .mkn k => mMkn o k
  | .pick c x y => mPick ids o c x y
  | .box x => mBox ids o x
  | .alloc z => mAlloc P o z
  | .build z ps => mBuild ids P o z ps
  | .bs k ps => mBs ids P o k ps
  | .ld agg n x => mLd ids P o agg n x
  | .st n x y => mSt ids P o n x y
  | .nchk x => mNchk ids o x
  | .bin op x y => mBin ids o op x y
  | .eqb neg x y => mEqb ids P o neg x y
  | .eqs neg ks x y => mEqs ids P o neg ks x y
  | .un op x => mUn ids o op x
  | .conv k x => mConv ids P o k x
  | .b2s x => mB2s ids P o x
  | .fa off x => mFa ids P o off x
  | .ia sz x i => mIa ids P o sz x i
  | .iap len sz x i => mIap ids P o len sz x i
  | .ixs x i => mIxs ids P o x i
  | .ixa agg len sz x i => mIxa ids P o agg len sz x i
  | .fld agg off n x => mFld ids P o agg off n x
  | .slc sz x lo hi => mSlc ids P o sz x lo hi
  | .slcs x lo hi => mSlcs ids P o x lo hi
  | .ext t i => mExt o t i
  | .mvt t => mMvt o t
  | .len str x => mLen ids P o str x
  | .app k bytes x y => mApp ids P o k bytes x y
  | .mm mx xs => mMm ids o mx xs
  | .mkf f caps => mMkf ids o f caps
  | .mks k bytes zero len cap => mMks ids P o k bytes zero len cap
  | .call _ _ => false
  | .callv _ _ => false
section
variable {ids} {P : Program} {o : Oper} {a : Act} {w : World} {home : Home} {hd : Lb → Value} {rt rt' : Rts} {av : AV} {ev : Ev} {F : Nat → Option Root} {tp : Nat → Option (List A1)} {call : Nat → List Arg → Option Res} {dst : Nat}
theorem act_ok (old : RtR w home hd rt F0) (he : EvR ids w home hd rt ev a.eval) (ht : TpR ids w home hd rt tp a.eval) {p : PO} (hm : mPO ids P o.op p = true) (h : act call ev tp rt dst p = some (av, rt')) : OpOk ids P o a w home hd rt av rt' := by
  cases p with
  | mv x =>
    simp only [act, Option.map_eq_some_iff, Prod.mk.injEq] at h
    obtain ⟨c, h1, rfl, rfl⟩ := h
    exact ok_mv old he hm h1
  | mkn k =>
    simp only [act, Option.map_eq_some_iff, Prod.mk.injEq] at h
    obtain ⟨c, h1, rfl, rfl⟩ := h
    exact ok_mkn old hm h1
  | pick c x y =>
    simp only [act] at h
    split at h
    · rename_i t hc
      rw [Option.map_eq_some_iff] at h
      obtain ⟨r, h1, h2⟩ := h
      injection h2 with h2 h3
      subst h2 h3
      exact ok_pick old he hm hc h1
    · cases h
  | box x =>
    simp only [act] at h
    split at h
    · rename_i xs hx
      rw [Option.map_eq_some_iff] at h
      obtain ⟨r, h1, h2⟩ := h
      injection h2 with h2 h3
      subst h2 h3
      exact ok_box old he hm hx h1
    · cases h
  | alloc z =>
    simp only [act, Option.map_eq_some_iff, Prod.mk.injEq] at h
    obtain ⟨c, h1, rfl, rfl⟩ := h
    exact ok_alloc old hm h1
  | build z ps =>
    simp only [act] at h
    split at h
    · rename_i l hl
      rw [Option.map_eq_some_iff] at h
      obtain ⟨r, h1, h2⟩ := h
      injection h2 with h2 h3
      subst h2 h3
      exact ok_build old he hm hl h1
    · cases h
  | bs k ps =>
    simp only [act] at h
    split at h
    · rename_i l hl
      split at h
      · rename_i es rt1 htk
        split at h
        · rename_i d c hb
          rw [Option.map_eq_some_iff] at h
          obtain ⟨r, h1, h2⟩ := h
          injection h2 with h2 h3
          subst h2 h3
          exact ok_bs old he hm hl htk hb h1
        · cases h
      · cases h
    · cases h
  | ld agg n x =>
    simp only [act] at h
    split at h
    · rename_i q hq
      split at h
      · rename_i xs hxs
        rw [Option.map_eq_some_iff] at h
        obtain ⟨r, h1, h2⟩ := h
        injection h2 with h2 h3
        subst h2 h3
        exact ok_ld old he hm hq hxs h1
      · cases h
    · cases h
  | st n x y =>
    simp only [act] at h
    split at h
    · rename_i q xs hq hxs
      split at h
      · rename_i hn
        rw [Option.map_eq_some_iff] at h
        obtain ⟨r, h1, h2⟩ := h
        injection h2 with h2 h3
        subst h2 h3
        exact ok_st old he hm hq hxs hn h1
      · cases h
    · cases h
  | nchk x =>
    simp only [act] at h
    split at h
    · rename_i q hq
      split at h
      · rename_i hp
        injection h with h
        injection h with h2 h3
        subst h2 h3
        exact ok_nchk old he hm hq hp
      · cases h
    · cases h
  | bin op x y =>
    simp only [act] at h
    split at h
    · rename_i u v hu hv
      rw [Option.map_eq_some_iff] at h
      obtain ⟨r, h1, h2⟩ := h
      injection h2 with h2 h3
      subst h2 h3
      exact ok_bin old he hm hu hv h1
    · cases h
  | eqb neg x y =>
    simp only [act] at h
    split at h
    · rename_i u v hu hv
      injection h with h
      injection h with h2 h3
      subst h2 h3
      exact ok_eqb old he hm hu hv
    · cases h
  | eqs neg ks x y =>
    simp only [act] at h
    split at h
    · rename_i u v hu hv
      rw [Option.map_eq_some_iff] at h
      obtain ⟨r, h1, h2⟩ := h
      injection h2 with h2 h3
      subst h2 h3
      exact ok_eqs old he hm hu hv h1
    · cases h
  | un op x =>
    simp only [act] at h
    split at h
    · rename_i u hu
      rw [Option.map_eq_some_iff] at h
      obtain ⟨r, h1, h2⟩ := h
      injection h2 with h2 h3
      subst h2 h3
      exact ok_un old he hm hu h1
    · cases h
  | conv k x =>
    simp only [act, Option.map_eq_some_iff, Prod.mk.injEq] at h
    obtain ⟨c, h1, rfl, rfl⟩ := h
    exact ok_conv old he hm h1
  | b2s x =>
    simp only [act] at h
    split at h
    · rename_i y hy
      split at h
      · rename_i es sp hc
        rw [Option.map_eq_some_iff] at h
        obtain ⟨r, h1, h2⟩ := h
        injection h2 with h2 h3
        subst h2 h3
        exact ok_b2s old he hm hy hc h1
      · cases h
    · cases h
  | fa off x =>
    simp only [act] at h
    split at h
    · rename_i q hq
      rw [Option.map_eq_some_iff] at h
      obtain ⟨r, h1, h2⟩ := h
      injection h2 with h2 h3
      subst h2 h3
      exact ok_fa old he hm hq h1
    · cases h
  | ia sz x i =>
    simp only [act] at h
    split at h
    · rename_i q n hq hn
      rw [Option.map_eq_some_iff] at h
      obtain ⟨r, h1, h2⟩ := h
      injection h2 with h2 h3
      subst h2 h3
      exact ok_ia old he hm hq hn h1
    · cases h
  | iap len sz x i =>
    simp only [act] at h
    split at h
    · rename_i q n hq hn
      split at h
      · rename_i hc
        rw [Option.map_eq_some_iff] at h
        obtain ⟨r, h1, h2⟩ := h
        injection h2 with h2 h3
        subst h2 h3
        exact ok_iap old he hm hq hn hc.1 hc.2 h1
      · cases h
    · cases h
  | ixs x i =>
    simp only [act] at h
    split at h
    · rename_i s n hq hn
      split at h
      · rename_i hc
        rw [Option.map_eq_some_iff] at h
        obtain ⟨r, h1, h2⟩ := h
        injection h2 with h2 h3
        subst h2 h3
        exact ok_ixs old he hm hq hn hc h1
      · cases h
    · cases h
  | ixa agg len sz x i =>
    simp only [act] at h
    split at h
    · rename_i xs n hq hn
      split at h
      · rename_i hc
        split at h
        · rename_i ys hs
          rw [Option.map_eq_some_iff] at h
          obtain ⟨r, h1, h2⟩ := h
          injection h2 with h2 h3
          subst h2 h3
          exact ok_ixa old he hm hq hn hc.1 hc.2 hs h1
        · cases h
      · cases h
    · cases h
  | fld agg off n x =>
    simp only [act] at h
    split at h
    · rename_i xs hq
      split at h
      · rename_i ys hs
        rw [Option.map_eq_some_iff] at h
        obtain ⟨r, h1, h2⟩ := h
        injection h2 with h2 h3
        subst h2 h3
        exact ok_fld old he hm hq hs h1
      · cases h
    · cases h
  | slc sz x lo hi =>
    simp only [act] at h
    split at h
    · rename_i q l u hq hl hu
      rw [Option.map_eq_some_iff] at h
      obtain ⟨r, h1, h2⟩ := h
      injection h2 with h2 h3
      subst h2 h3
      exact ok_slc old he hm hq hl hu h1
    · cases h
  | slcs x lo hi =>
    simp only [act] at h
    split at h
    · rename_i q l u hq hl hu
      split at h
      · rename_i hc
        injection h with h
        injection h with h2 h3
        subst h2 h3
        exact ok_slcs old he hm hq hl hu hc.1 hc.2.1 hc.2.2
      · cases h
    · cases h
  | mvt t =>
    simp only [act] at h
    rw [Option.map_eq_some_iff] at h
    obtain ⟨r, h1, h2⟩ := h
    injection h2 with h2 h3
    subst h2 h3
    exact ok_mvt old ht hm h1
  | ext t i =>
    simp only [act] at h
    split at h
    · rename_i as hq
      rw [Option.map_eq_some_iff] at h
      obtain ⟨r, h1, h2⟩ := h
      injection h2 with h2 h3
      subst h2 h3
      exact ok_ext old ht hm hq h1
    · cases h
  | len str x =>
    simp only [act] at h
    split at h
    · rename_i q hq
      rw [Option.map_eq_some_iff] at h
      obtain ⟨r, h1, h2⟩ := h
      injection h2 with h2 h3
      subst h2 h3
      exact ok_len old he hm hq h1
    · cases h
  | app k bytes x y =>
    simp only [act] at h
    split at h
    · rename_i u v hu hv
      rw [Option.map_eq_some_iff] at h
      obtain ⟨r, h1, h2⟩ := h
      injection h2 with h2 h3
      subst h2 h3
      exact ok_app old he hm hu hv h1
    · cases h
  | mm mx xs =>
    simp only [act] at h
    split at h
    · rename_i v r hq
      rw [Option.map_eq_some_iff] at h
      obtain ⟨r, h1, h2⟩ := h
      injection h2 with h2 h3
      subst h2 h3
      exact ok_mm old he hm hq h1
    · cases h
  | mkf f caps =>
    simp only [act, Option.map_eq_some_iff, Prod.mk.injEq] at h
    obtain ⟨c, h1, rfl, rfl⟩ := h
    exact ok_mkf old he hm h1
  | mks k bytes zero len cap =>
    simp only [act] at h
    split at h
    · rename_i l c hl hc
      split at h
      · rename_i hcond
        obtain ⟨g1, g2, g3, g4⟩ := hcond
        cases k with
        | fl sz =>
          simp only at h
          split at h
          · rename_i z hz
            split at h
            · rename_i hzl
              rw [Option.map_eq_some_iff] at h
              obtain ⟨r, h1, h2⟩ := h
              injection h2 with h2 h3
              subst h2 h3
              exact ok_mks old he hm hl hc g1 g2 g3 g4 (Or.inl ⟨sz, z, rfl, hz, hzl, rfl⟩) h1
            · cases h
          · cases h
        | sl sz =>
          simp only at h
          split at h
          · rename_i hzl
            rw [Option.map_eq_some_iff] at h
            obtain ⟨r, h1, h2⟩ := h
            injection h2 with h2 h3
            subst h2 h3
            exact ok_mks old he hm hl hc g1 g2 g3 g4 (Or.inr ⟨sz, rfl, hzl, rfl⟩) h1
          · cases h
      · cases h
    · cases h
  | call f qs => cases hm
  | callv f qs => cases hm
end
end Go.Proofs.YtecmolmlojehgaaGreat.T
namespace Go.Proofs.YtecmolmlojehgaaGreat.T
open Go
variable (ids : Nat → FuncId)

abbrev Loc := Option (Nat × Path)
/-- Which argument a block is handed over with. -/
def hit : Nat → List Loc → Nat → Path → Option (Nat × Path)
  | _, [], _, _ => none
  | i, some (id', p) :: ls, id, q => if id' = id ∧ p <+: q then some (i, q.drop p.length) else hit (i + 1) ls id q
  | i, none :: ls, id, q => hit (i + 1) ls id q
/-- No root is handed over twice. -/
def Dist (ls : List Loc) : Prop := ∀ (i j id : Nat) (p p' : Path), ls[i]? = some (some (id, p)) → ls[j]? = some (some (id, p')) → i = j ∧ p = p'
theorem hit_some : ∀ {ls : List Loc} {k id i : Nat} {q q' : Path}, hit k ls id q = some (i, q') → ∃ p, k ≤ i ∧ ls[i - k]? = some (some (id, p)) ∧ q = p ++ q'
  | [], _, _, _, _, _, h => by cases h
  | none :: ls, k, id, i, q, q', h => by
    obtain ⟨p, h1, h2, h3⟩ := hit_some (ls := ls) h
    refine ⟨p, by omega, ?_, h3⟩
    rw [show i - k = (i - (k + 1)) + 1 by omega, List.getElem?_cons_succ]; exact h2
  | some (id', p) :: ls, k, id, i, q, q', h => by
    simp only [hit] at h
    split at h
    · rename_i hc
      obtain ⟨rfl, r, rfl⟩ := hc
      simp only [Option.some.injEq, Prod.mk.injEq, List.drop_left'] at h
      obtain ⟨rfl, h⟩ := h
      refine ⟨p, Nat.le_refl _, by simp, ?_⟩
      rw [← h]
    · obtain ⟨p, h1, h2, h3⟩ := hit_some (ls := ls) h
      refine ⟨p, by omega, ?_, h3⟩
      rw [show i - k = (i - (k + 1)) + 1 by omega, List.getElem?_cons_succ]; exact h2
theorem hit_exists : ∀ {ls : List Loc} {k id i : Nat} {p q : Path}, ls[i]? = some (some (id, p)) → ∃ r, hit k ls id (p ++ q) = some r
  | [], _, _, _, _, _, h => by cases h
  | none :: ls, k, id, i, p, q, h => by
    cases i with
    | zero => simp at h
    | succ i => simp only [List.getElem?_cons_succ] at h; exact hit_exists (ls := ls) h
  | some (id', p') :: ls, k, id, i, p, q, h => by
    simp only [hit]
    split
    · exact ⟨_, rfl⟩
    · rename_i hc
      cases i with
      | zero =>
        simp only [List.getElem?_cons_zero, Option.some.injEq, Prod.mk.injEq] at h
        obtain ⟨rfl, rfl⟩ := h
        exact absurd ⟨rfl, List.prefix_append _ _⟩ hc
      | succ i => simp only [List.getElem?_cons_succ] at h; exact hit_exists (ls := ls) h
theorem hit_iff {ls : List Loc} (hd : Dist ls) {id i : Nat} {p q : Path} (h : ls[i]? = some (some (id, p))) : hit 0 ls id (p ++ q) = some (i, q) := by
  obtain ⟨⟨j, q'⟩, hr⟩ := hit_exists (k := 0) (q := q) h
  obtain ⟨p', _, h2, h3⟩ := hit_some hr
  simp only [Nat.sub_zero] at h2
  obtain ⟨e1, e2⟩ := hd i j id p p' h h2
  subst e1 e2
  rw [hr]
  rw [List.append_cancel_left h3]
/-- The owners, as the callee sees them. -/
def callHome (home : Home) (ls : List Loc) (others : Bool) : Home := fun b =>
  match home b with
  | some (.r id, q) =>
    match hit 0 ls id q with
    | some (i, q') => some (.r (i * 64), q')
    | none => if others then some (.x, q) else none
  | some (.x, q) => some (.x, q)
  | _ => none
section
variable {w : World} {home : Home} {hd : Lb → Value} {rt : Rts} {F : Nat → Option Root} {ls : List Loc} {others : Bool}
theorem callHome_none {b : Nat} (h : home b = none) : callHome home ls others b = none := by simp [callHome, h]
theorem callHome_x {b : Nat} {q : Path} (h : home b = some (.x, q)) : callHome home ls others b = some (.x, q) := by simp [callHome, h]
theorem callHome_hit (hdist : Dist ls) {b i id : Nat} {p q : Path} (hl : ls[i]? = some (some (id, p))) (h : home b = some (.r id, p ++ q)) : callHome home ls others b = some (.r (i * 64), q) := by
  simp [callHome, h, hit_iff hdist hl]
theorem callHome_inv {b j : Nat} {q : Path} (h : callHome home ls others b = some (.r j, q)) : ∃ i id p, j = i * 64 ∧ ls[i]? = some (some (id, p)) ∧ home b = some (.r id, p ++ q) := by
  unfold callHome at h
  split at h
  · rename_i id q0 hb
    split at h
    · rename_i i q' hh
      obtain ⟨p, _, h2, h3⟩ := hit_some hh
      injection h with h; injection h with h4 h5; injection h4 with h4
      subst h4 h5
      exact ⟨i, id, p, rfl, by simpa using h2, by rw [hb, h3]⟩
    · split at h
      · injection h with h; injection h with h4 h5; cases h4
      · cases h
  · injection h with h; injection h with h4 h5; cases h4
  · cases h
theorem callHome_t {b k : Nat} {q : Path} : callHome home ls others b ≠ some (.t k, q) := by
  intro h
  unfold callHome at h
  split at h
  · split at h
    · injection h with h; injection h with h4 h5; cases h4
    · split at h
      · injection h with h; injection h with h4 h5; cases h4
      · cases h
  · injection h with h; injection h with h4 h5; cases h4
  · cases h
/-- Blocks whose owner is not handed over. -/
theorem callHome_rest {b id : Nat} {q : Path} (h : home b = some (.r id, q)) (hn : ∀ (i : Nat) p, ls[i]? = some (some (id, p)) → ¬ p <+: q) : callHome home ls others b = if others then some (.x, q) else none := by
  unfold callHome
  rw [h]
  simp only
  cases hh : hit 0 ls id q with
  | none => rfl
  | some r =>
    obtain ⟨i, q'⟩ := r
    obtain ⟨p, _, h2, h3⟩ := hit_some hh
    exact absurd ⟨q', h3.symm⟩ (hn i p (by simpa using h2))
/-- Is a slot's content read without any owner? Then another's view shows it too. -/
theorem SVR.imm (old : RtR w home hd rt F) {x : SV} {v : Value} (h : SVR w home hd rt x v) (hx : x.ids = []) {w' : World} {home' : Home} {hd' : Lb → Value} {rt' : Rts} (hm : ∀ b, b < w.heap.size → home b = none → w'.heap[b]? = w.heap[b]? ∧ home' b = none) : SVR w' home' hd' rt' x v :=
  h.same old hm (fun i hi => by rw [hx] at hi; cases hi)
/-- What is handed over for reading: no block of its is held by the callee. -/
def Unheld (w : World) (home home' : Home) (id : Nat) : Prop := ∀ b q, b < w.heap.size → home b = some (.r id, q) → home' b = none
theorem CR.toImm {home' : Home} {d : Bool} {id : Nat} {p : Path} {c : C} {u : Value} (h : CR w home ((arrTg d (.r id)).exts p) c u) (hn : ∀ b, b < w.heap.size → home b = none → home' b = none) (hu : Unheld w home home' id) : CR w home' .imm c u := by
  refine h.move (fun q b hb hl => ⟨rfl, ?_⟩) (Ok.imm _)
  rw [Tg.exts_imm]
  show home' b = none
  have hcase : home b = none ∨ ∃ q, home b = some (.r id, q) := by
    cases d with
    | true =>
      have e : ((arrTg true (.r id)).exts p).exts q = .own (.r id) (p ++ q) := by simp [arrTg, Tg.exts_own]
      rw [e] at hl
      exact Or.inr ⟨_, hl⟩
    | false =>
      cases p with
      | nil =>
        cases q with
        | nil => exact Or.inr ⟨[], hl⟩
        | cons y q =>
          have e : ((arrTg false (.r id)).exts []).exts (y :: q) = .imm := Tg.exts_top _ _ _
          rw [e] at hl
          exact Or.inl hl
      | cons y p => rw [show (arrTg false (Lb.r id)).exts (y :: p) = .imm from Tg.exts_top _ _ _, Tg.exts_imm] at hl; exact Or.inl hl
  rcases hcase with h | ⟨q, h⟩
  · exact hn b hb h
  · exact hu b q hb h
theorem snapC_ok (old : RtR w home hd rt F) {home' : Home} (hn : ∀ b, b < w.heap.size → home b = none → home' b = none) {x : SV} {v : Value} (h : SVR w home hd rt x v) {c : C} (hs : snapC rt x = some c) (hu : ∀ i ∈ x.ids, Unheld w home home' i) : CR w home' .imm c v := by
  cases x with
  | c c0 =>
    simp only [snapC, Option.some.injEq] at hs
    subst hs
    have h' : CR w home .imm c0 v := h
    exact h'.move (fun q b hb hl => by rw [Tg.exts_imm] at hl ⊢; exact ⟨rfl, hn b hb hl⟩) (Ok.imm _)
  | nil k =>
    simp only [snapC, Option.some.injEq] at hs
    subst hs
    obtain ⟨rfl, hk⟩ := h
    exact CR.kempty hk
  | ref id p off len =>
    simp only [snapC, cont] at hs
    split at hs
    · rename_i d c' hra
      split at hs
      · rename_i sz m tot hsh
        split at hs
        · rename_i hle
          injection hs with hs
          subst hs
          obtain ⟨t, c0, u, k1, k2, k3, k4, k5, k6⟩ := ref_open old h hra hsh
          exact (k5.toImm hn (hu id (by simp [SV.ids]))).part hsh k6 hle
        · cases hs
      · cases hs
    · cases hs
  | pb id off => cases hs
  | pe id p i off => cases hs
  | pm cs off => cases hs
theorem snap_ok (old : RtR w home hd rt F) {home' : Home} {hd' : Lb → Value} {rt' : Rts} (hn : ∀ b, b < w.heap.size → home b = none → home' b = none) {x : SV} {v : Value} (h : SVR w home hd rt x v) {y : SV} (hs : snap rt x = some y)
    (hu : ∀ i ∈ x.ids, Unheld w home home' i ∧ ∀ r, rt i = some r → ∀ j ∈ r.ids, Unheld w home home' j) : SVR w home' hd' rt' y v ∧ y.ids = [] := by
  cases x with
  | c c0 =>
    simp only [snap, Option.some.injEq] at hs
    subst hs
    exact ⟨snapC_ok old hn h (c := c0) rfl (fun i hi => (hu i hi).1), rfl⟩
  | nil k =>
    simp only [snap, Option.some.injEq] at hs
    subst hs
    exact ⟨snapC_ok old hn h (c := k.empty) rfl (fun i hi => (hu i hi).1), rfl⟩
  | ref id p off len =>
    simp only [snap, Option.map_eq_some_iff] at hs
    obtain ⟨c, h1, rfl⟩ := hs
    exact ⟨snapC_ok old hn h (c := c) h1 (fun i hi => (hu i hi).1), rfl⟩
  | pm cs off =>
    simp only [snap, Option.some.injEq] at hs
    subst hs
    refine ⟨?_, rfl⟩
    exact SVR.imm (rt' := rt') (hd' := hd') old h rfl (fun b hb h => ⟨rfl, hn b hb h⟩)
  | pb id off =>
    simp only [snap] at hs
    split at hs
    · rename_i xs hr
      rw [Option.map_eq_some_iff] at hs
      obtain ⟨cs, h1, rfl⟩ := hs
      obtain ⟨b, cur, e, k1, k2, k3, k4⟩ := RR.box (old.root (.r id) _ hr)
      obtain ⟨b', k5, k6⟩ := h.2 xs hr
      rw [k1] at k5
      injection k5 with k5; injection k5 with k5; injection k5 with k5
      subst k5
      obtain ⟨m1, m2⟩ := mapO_spec h1
      have hid := hu id (by simp [SV.ids])
      refine ⟨⟨b, 0, by rw [k6, Nat.zero_add], fun j c hj => ?_⟩, rfl⟩
      have hjl : j < xs.length := by rw [m1]; exact (List.getElem?_eq_some_iff.1 hj).1
      have hjc : j < cur.toList.length := by rw [← k4.1]; exact hjl
      refine ⟨hid.1 b [] (heap_lt k3) k2, cur.toList[j], ?_, ?_⟩
      · rw [Nat.zero_add, cell_row k3]
        rw [← Array.getElem?_toList]; exact List.getElem?_eq_getElem hjc
      · refine snapC_ok old hn (k4.2 j _ _ (List.getElem?_eq_getElem hjl) (List.getElem?_eq_getElem hjc)) (m2 j _ c (List.getElem?_eq_getElem hjl) hj) (fun i hi => ?_)
        exact hid.2 _ hr i (by simp only [Root.ids, List.mem_flatMap]; exact ⟨_, List.getElem_mem hjl, hi⟩)
    · cases hs
  | pe id p i off =>
    simp only [snap] at hs
    split at hs
    · rename_i d c' hra
      rw [Option.map_eq_some_iff] at hs
      obtain ⟨cs, h1, rfl⟩ := hs
      obtain ⟨t, c0, g1, g2, g3⟩ := rowAt_spec hra
      obtain ⟨u, g4, g5⟩ := CR.at p (old.root (.r id) _ g1) g3
      have hid := hu id (by simp [SV.ids])
      have g6 := g5.toImm hn hid.1
      obtain ⟨sz, m, tot, hsh⟩ : ∃ sz m tot, c'.shape = some (sz, m, tot) := by
        cases c' with
        | val v => cases h1
        | hole => cases h1
        | fl a b c => exact ⟨_, _, _, rfl⟩
        | sl a b c => exact ⟨_, _, _, rfl⟩
      have hlt := C.elem_lt h1 hsh
      obtain ⟨vs, hh, hel⟩ := g6.open hsh
      obtain ⟨hlt2, hlen, hcr⟩ := hel i cs (C.elem_elemA h1)
      obtain ⟨b, o', k, cap, e1, e2⟩ := h.2 d t c0 g1 g2 c' u g3 g4 sz m tot hsh hlt
      refine ⟨⟨b, o' + i * sz, by rw [e2]; congr 3; omega, fun j c hj => ?_⟩, rfl⟩
      have hjs : j < sz := by rw [← hlen]; exact (List.getElem?_eq_some_iff.1 hj).1
      obtain ⟨b2, o2, cap2, e3, e4, _, e5⟩ := hh.cell hlt2 hjs
      rw [e1] at e3
      injection e3 with e3 _ _
      injection e3 with e3
      injection e3 with e6 e7
      subst e6 e7
      exact ⟨e4, vs i j, by rw [← e5]; congr 2; omega, hcr j c hj⟩
    · cases hs
end
end Go.Proofs.YtecmolmlojehgaaGreat.T
namespace Go.Proofs.YtecmolmlojehgaaGreat.T
open Go
variable (ids : Nat → FuncId)

theorem lookup_cons {β : Type} (a k : Nat) (b : β) (l : List (Nat × β)) : ((a, b) :: l).lookup k = if k = a then some b else l.lookup k := by
  simp only [List.lookup]
  by_cases h : k = a
  · subst h; simp
  · have : (k == a) = false := by simp [h]
    simp [this, h]
theorem initRt_some : ∀ {args : List Arg} {k j : Nat} {r : Root}, asl (initRt k args) j = some r → ∃ i a, args[i]? = some a ∧ (initArg (k + i) a).2 = some r ∧ j = (k + i) * 64
  | [], _, _, _, h => by cases h
  | a :: as, k, j, r, h => by
    simp only [initRt] at h
    split at h
    · rename_i r0 hr
      simp only [asl, lookup_cons] at h
      split at h
      · rename_i hj
        injection h with h
        subst h hj
        exact ⟨0, a, rfl, hr, rfl⟩
      · obtain ⟨i, a', h1, h2, h3⟩ := initRt_some (args := as) h
        exact ⟨i + 1, a', by simpa using h1, by rw [show k + (i + 1) = k + 1 + i by omega]; exact h2, by rw [h3]; congr 1; omega⟩
    · obtain ⟨i, a', h1, h2, h3⟩ := initRt_some (args := as) h
      exact ⟨i + 1, a', by simpa using h1, by rw [show k + (i + 1) = k + 1 + i by omega]; exact h2, by rw [h3]; congr 1; omega⟩
theorem initRt_at : ∀ {args : List Arg} {k i : Nat} {a : Arg} {r : Root}, args[i]? = some a → (initArg (k + i) a).2 = some r → asl (initRt k args) ((k + i) * 64) = some r
  | [], _, _, _, _, h, _ => by cases h
  | a0 :: as, k, i, a, r, h, hr => by
    cases i with
    | zero =>
      simp only [List.getElem?_cons_zero, Option.some.injEq] at h
      subst h
      simp only [Nat.add_zero] at hr ⊢
      simp only [initRt, hr, asl, lookup_cons, if_true]
    | succ i =>
      simp only [List.getElem?_cons_succ] at h
      have ih := initRt_at (args := as) (k := k + 1) (i := i) h (by rw [show k + 1 + i = k + (i + 1) by omega]; exact hr)
      rw [show k + 1 + i = k + (i + 1) by omega] at ih
      simp only [initRt]
      split
      · simp only [asl, lookup_cons]
        rw [if_neg (by omega)]
        exact ih
      · exact ih
theorem initSl_at : ∀ {args : List Arg} {k j : Nat} {av : AV}, asl (initSl k args) j = some av → ∃ i a, args[i]? = some a ∧ j = k + i ∧ av = .v (initArg (k + i) a).1
  | [], _, _, _, h => by cases h
  | a :: as, k, j, r, h => by
    simp only [initSl, asl, lookup_cons] at h
    split at h
    · rename_i hj
      injection h with h
      subst h hj
      exact ⟨0, a, rfl, rfl, rfl⟩
    · obtain ⟨i, a', h1, h2, h3⟩ := initSl_at (args := as) h
      exact ⟨i + 1, a', by simpa using h1, by omega, by rw [h3, show k + (i + 1) = k + 1 + i by omega]⟩
theorem initArg_ids (i : Nat) (a : Arg) : (∀ x, a ≠ .imm x) → (initArg i a).1.ids = [i * 64] := by
  intro h
  cases a with
  | imm x => exact absurd rfl (h x)
  | arr d c len => rfl
  | box xs => rfl

/-- What is handed over to be written, and how it lies in the caller's and in the callee's frame. -/
def Given (w : World) (hd hd0 : Lb → Value) (rt : Rts) (args : List Arg) (i id : Nat) (p : Path) : Prop :=
  (∃ d t c c' sz n tot len u, rt id = some (.arr d t c) ∧ (p = [] ∨ t = false) ∧ (p = [] ∨ d = true) ∧ c.get p = some c' ∧ c'.shape = some (sz, n, tot) ∧ n ≤ tot ∧ hdAt w c (hd (.r id)) p = some u ∧ hd0 (.r (i * 64)) = relen u tot ∧ (∃ ad cap, u = .slice ad n cap) ∧ args[i]? = some (.arr d c'.all len)) ∨
  (∃ xs, rt id = some (.box xs) ∧ p = [] ∧ hd0 (.r (i * 64)) = hd (.r id) ∧ args[i]? = some (.box xs) ∧ ∀ x ∈ xs, x.ids = [])
section
variable {ids} {w : World} {home : Home} {hd : Lb → Value} {rt : Rts} {ev : Ev} {F : Nat → Option Root}
theorem argOf_spec {q : Bool × Opd} {r : Arg × Loc} (h : argOf ev rt q = some r) : ∃ a, ev q.2 = some a ∧
    ((q.1 = false ∧ ∃ a', snap1 rt a = some a' ∧ r = (.imm a', none)) ∨
     (q.1 = true ∧ ∃ id p len d c' sz n tot, a = .s (.ref id p 0 len) ∧ rowAt rt id p = some (d, c') ∧ c'.shape = some (sz, n, tot) ∧ len ≤ tot ∧ (p = [] ∨ d = true) ∧ r = (.arr d c'.all len, some (id, p))) ∨
     (q.1 = true ∧ ∃ id xs, a = .s (.pb id 0) ∧ rt id = some (.box xs) ∧ (∀ x ∈ xs, x.ids = []) ∧ r = (.box xs, some (id, [])))) := by
  unfold argOf at h
  split at h
  · rename_i a ha
    refine ⟨a, ha, ?_⟩
    split at h
    · rename_i hq
      split at h
      · rename_i id p off len
        split at h
        · rename_i d c' hra
          split at h
          · rename_i sz n tot hs
            split at h
            · rename_i hc
              obtain ⟨rfl, h1, h2⟩ := hc
              injection h with h
              exact Or.inr (Or.inl ⟨hq, id, p, len, d, c', sz, n, tot, rfl, hra, hs, h1, h2, h.symm⟩)
            · cases h
          · cases h
        · cases h
      · rename_i id off
        split at h
        · rename_i xs hr
          split at h
          · rename_i hc
            obtain ⟨rfl, h1⟩ := hc
            injection h with h
            exact Or.inr (Or.inr ⟨hq, id, xs, rfl, hr, fun x hx => by simpa using List.all_eq_true.1 h1 x hx, h.symm⟩)
          · cases h
        · cases h
      · cases h
    · rename_i hq
      rw [Option.map_eq_some_iff] at h
      obtain ⟨a', h1, h2⟩ := h
      exact Or.inl ⟨by simpa using hq, a', h1, h2.symm⟩
  · cases h
/-- No two arguments meet what one of them is handed over with. -/
theorem apartB_spec : ∀ {qs : List (Bool × Opd)} {ls : List Loc}, apartB ev rt qs ls = true → qs.length = ls.length → ∀ (i j id : Nat) (p : Path) (q : Bool × Opd), i ≠ j → ls[i]? = some (some (id, p)) → qs[j]? = some q → argHas ev rt id q = false
  | [], ls, _, hl, i, j, id, p, q, _, h1, h2 => by simp at h2
  | q0 :: qs, [], _, hl, i, j, id, p, q, _, h1, h2 => by simp at h1
  | q0 :: qs, some (id0, p0) :: ls, h, hl, i, j, id, p, q, hij, h1, h2 => by
    simp only [apartB, Bool.and_eq_true, List.all_eq_true, Bool.not_eq_true'] at h
    obtain ⟨g1, g2⟩ := h
    cases i with
    | zero =>
      simp only [List.getElem?_cons_zero, Option.some.injEq, Prod.mk.injEq] at h1
      obtain ⟨rfl, rfl⟩ := h1
      cases j with
      | zero => exact absurd rfl hij
      | succ j => simp only [List.getElem?_cons_succ] at h2; exact g1.1 q (List.mem_of_getElem? h2)
    | succ i =>
      simp only [List.getElem?_cons_succ] at h1
      cases j with
      | zero =>
        simp only [List.getElem?_cons_zero, Option.some.injEq] at h2
        subst h2
        have := g1.2 _ (List.mem_of_getElem? h1)
        simpa using this
      | succ j => simp only [List.getElem?_cons_succ] at h2; exact apartB_spec g2 (by simpa using hl) i j id p q (by omega) h1 h2
  | q0 :: qs, none :: ls, h, hl, i, j, id, p, q, hij, h1, h2 => by
    simp only [apartB, Bool.and_eq_true, List.all_eq_true] at h
    obtain ⟨g1, g2⟩ := h
    cases i with
    | zero => simp at h1
    | succ i =>
      simp only [List.getElem?_cons_succ] at h1
      cases j with
      | zero =>
        simp only [List.getElem?_cons_zero, Option.some.injEq] at h2
        subst h2
        have := g1 _ (List.mem_of_getElem? h1)
        simpa using this
      | succ j => simp only [List.getElem?_cons_succ] at h2; exact apartB_spec g2 (by simpa using hl) i j id p q (by omega) h1 h2
theorem argHas_spec {id : Nat} {q : Bool × Opd} {a : A1} (h : argHas ev rt id q = false) (ha : ev q.2 = some a) : ∀ i ∈ a.ids, i ≠ id ∧ ∀ r, rt i = some r → id ∉ r.ids := by
  unfold argHas at h
  rw [ha] at h
  simp only [List.any_eq_false, Bool.or_eq_true, beq_iff_eq, not_or] at h
  intro i hi
  obtain ⟨h1, h2⟩ := h i hi
  refine ⟨h1, fun r hr => ?_⟩
  rw [hr] at h2
  simpa using h2
end
end Go.Proofs.YtecmolmlojehgaaGreat.T
namespace Go.Proofs.YtecmolmlojehgaaGreat.T
open Go
variable (ids : Nat → FuncId)

def headOf (w : World) (hd : Lb → Value) (rt : Rts) : Loc → Value
  | some (id, p) =>
    match rt id with
    | some (.arr _ _ c) =>
      match hdAt w c (hd (.r id)) p, c.get p with
      | some u, some c' =>
        match c'.shape with
        | some (_, _, tot) => relen u tot
        | none => undef
      | _, _ => undef
    | _ => hd (.r id)
  | none => undef
def callHd (w : World) (hd : Lb → Value) (rt : Rts) (ls : List Loc) : Lb → Value
  | .r j => headOf w hd rt ((ls[j / 64]?).join)
  | _ => undef
theorem shape_le {c : C} {sz n tot : Nat} (h : c.shape = some (sz, n, tot)) : n ≤ tot := by
  cases c with
  | val v => cases h
  | hole => cases h
  | fl a b c => simp only [C.shape, Option.some.injEq, Prod.mk.injEq] at h; omega
  | sl a b c => simp only [C.shape, Option.some.injEq, Prod.mk.injEq] at h; omega
section
variable {ids} {w : World} {home : Home} {hd : Lb → Value} {rt : Rts} {ev : Ev} {F : Nat → Option Root}
theorem callHd_at {ls : List Loc} {i : Nat} {l : Loc} (h : ls[i]? = some l) : callHd w hd rt ls (.r (i * 64)) = headOf w hd rt l := by
  simp only [callHd, Nat.mul_div_cancel i (by decide : 0 < 64), h, Option.join_some]
theorem enter (old : RtR w home hd rt F0) {qs : List (Bool × Opd)} {l : List (Arg × Loc)} (hl : mapO (argOf ev rt) qs = some l) (hap : apartB ev rt qs (l.map (·.2)) = true) {others : Bool} (hoth : others = true → ∀ q ∈ qs, q.1 = false → ∀ a, ev q.2 = some a → a.ids = [])
    {vs : List Value} (hvs : ∀ (i : Nat) q v, qs[i]? = some q → vs[i]? = some v → ∀ a, ev q.2 = some a → A1R ids w home hd rt a v ∧ ∀ j ∈ a.ids, (rt j).isSome = true) :
    Dist (l.map (·.2)) ∧ (∀ i id p, (l.map (·.2))[i]? = some (some (id, p)) → Given w hd (callHd w hd rt (l.map (·.2))) rt (l.map (·.1)) i id p) ∧
    RtR w (callHome home (l.map (·.2)) others) (callHd w hd rt (l.map (·.2))) (initFr (l.map (·.1))).rt F0 ∧
    (∀ (i : Nat) a v, (l.map (·.1))[i]? = some a → vs[i]? = some v → A1R ids w (callHome home (l.map (·.2)) others) (callHd w hd rt (l.map (·.2))) (initFr (l.map (·.1))).rt (initArg i a).1 v) := by
  obtain ⟨m1, m2⟩ := mapO_spec hl
  have hlen : qs.length = (l.map (·.2)).length := by rw [m1, List.length_map]
  have hspec := apartB_spec hap hlen
  -- an argument and what became of it
  have hq : ∀ (i : Nat) r, l[i]? = some r → ∃ q, qs[i]? = some q ∧ argOf ev rt q = some r := by
    intro i r h
    have hlt : i < qs.length := by rw [m1]; exact (List.getElem?_eq_some_iff.1 h).1
    exact ⟨qs[i], List.getElem?_eq_getElem hlt, m2 i _ r (List.getElem?_eq_getElem hlt) h⟩
  have hloc : ∀ (i : Nat) x, (l.map (·.2))[i]? = some x → ∃ g, l[i]? = some (g, x) ∧ (l.map (·.1))[i]? = some g := by
    intro i x h
    rw [List.getElem?_map, Option.map_eq_some_iff] at h
    obtain ⟨r, h1, rfl⟩ := h
    exact ⟨r.1, h1, by rw [List.getElem?_map, h1]; rfl⟩
  have hdist : Dist (l.map (·.2)) := by
    intro i j id p p' h1 h2
    by_cases hij : i = j
    · subst hij
      rw [h1] at h2
      injection h2 with h2; injection h2 with h2; injection h2 with _ h2
      exact ⟨rfl, h2⟩
    · exfalso
      obtain ⟨g2, k1, _⟩ := hloc j _ h2
      obtain ⟨q, k2, k3⟩ := hq j _ k1
      have hno := hspec i j id p q hij h1 k2
      obtain ⟨a, ha, hcase⟩ := argOf_spec k3
      have hids := argHas_spec hno ha
      rcases hcase with ⟨_, a', _, e⟩ | ⟨_, id', p2, len, d, c', sz, n, tot, rfl, _, _, _, _, e⟩ | ⟨_, id', xs, rfl, _, _, e⟩
      · injection e with _ e; cases e
      · injection e with _ e; injection e with e; injection e with e _
        exact (hids id' (by simp [A1.ids, SV.ids])).1 e.symm
      · injection e with _ e; injection e with e; injection e with e _
        exact (hids id' (by simp [A1.ids, SV.ids])).1 e.symm
  have hgiven : ∀ i id p, (l.map (·.2))[i]? = some (some (id, p)) → Given w hd (callHd w hd rt (l.map (·.2))) rt (l.map (·.1)) i id p := by
    intro i id p h
    obtain ⟨g, k1, k4⟩ := hloc i _ h
    obtain ⟨q, k2, k3⟩ := hq i _ k1
    obtain ⟨a, ha, hcase⟩ := argOf_spec k3
    rcases hcase with ⟨_, a', _, e⟩ | ⟨_, id', p2, len, d, c', sz, n, tot, rfl, hra, hs, hle, hpd, e⟩ | ⟨_, id', xs, rfl, hr, hx, e⟩
    · injection e with _ e; cases e
    · injection e with e1 e; injection e with e; injection e with e e2
      subst e1 e e2
      obtain ⟨t, c, g1, g2, g3⟩ := rowAt_spec hra
      obtain ⟨u, g4, g5⟩ := CR.at p (old.root (.r id) _ g1) g3
      obtain ⟨vs0, hh, _⟩ := g5.open hs
      obtain ⟨_, _, ad, cap, hu, _, _, _⟩ := hh
      refine Or.inl ⟨d, t, c, c', sz, n, tot, len, u, g1, g2, hpd, g3, hs, shape_le hs, g4, ?_, ⟨ad, cap, hu⟩, k4⟩
      rw [callHd_at h]
      simp only [headOf, g1, g4, g3, hs]
    · injection e with e1 e; injection e with e; injection e with e e2
      subst e1 e e2
      refine Or.inr ⟨xs, hr, rfl, ?_, k4, hx⟩
      rw [callHd_at h]
      simp only [headOf, hr]
  have hn0 : ∀ b, b < w.heap.size → home b = none → callHome home (l.map (·.2)) others b = none := fun b _ h => callHome_none h
  -- the frame's roots
  have hroot : ∀ j r, (initFr (l.map (·.1))).rt j = some r → ∃ i id p g, j = i * 64 ∧ (l.map (·.2))[i]? = some (some (id, p)) ∧ (l.map (·.1))[i]? = some g ∧ (initArg i g).2 = some r := by
    intro j r h
    obtain ⟨i, g, h1, h2, h3⟩ := initRt_some h
    rw [Nat.zero_add] at h2 h3
    rw [List.getElem?_map, Option.map_eq_some_iff] at h1
    obtain ⟨⟨g', x⟩, h4, rfl⟩ := h1
    obtain ⟨q, k2, k3⟩ := hq i _ h4
    obtain ⟨a, ha, hcase⟩ := argOf_spec k3
    have h5 : (l.map (·.2))[i]? = some x := by rw [List.getElem?_map, h4]; rfl
    have h6 : (l.map (·.1))[i]? = some g' := by rw [List.getElem?_map, h4]; rfl
    rcases hcase with ⟨_, a', _, e⟩ | ⟨_, id', p2, len, d, c', sz, n, tot, rfl, hra, hs, hle, hpd, e⟩ | ⟨_, id', xs, rfl, hr, hx, e⟩
    · injection e with e1 e; subst e1; cases h2
    · injection e with e1 e; subst e1 e; exact ⟨i, id', p2, _, h3, h5, h6, h2⟩
    · injection e with e1 e; subst e1 e; exact ⟨i, id', [], _, h3, h5, h6, h2⟩
  have hrt0 : ∀ i g, (l.map (·.1))[i]? = some g → ∀ r, (initArg i g).2 = some r → (initFr (l.map (·.1))).rt (i * 64) = some r := by
    intro i g h r hr
    have := initRt_at (k := 0) h (r := r) (by rw [Nat.zero_add]; exact hr)
    rw [Nat.zero_add] at this
    exact this
  have hRR : ∀ i id p, (l.map (·.2))[i]? = some (some (id, p)) → ∀ r, (initFr (l.map (·.1))).rt (i * 64) = some r → RR w (callHome home (l.map (·.2)) others) (callHd w hd rt (l.map (·.2))) (initFr (l.map (·.1))).rt (.r (i * 64)) r := by
    intro i id p h r hr
    rcases hgiven i id p h with ⟨d, t, c, c', sz, n, tot, len, u, g1, g2, hpd, g3, hs, hnt, g4, hhd, ⟨ad, cap, hu⟩, hg⟩ | ⟨xs, hrt, rfl, hhd, hg, hx⟩
    · have := hrt0 i _ hg _ rfl
      rw [this] at hr
      injection hr with hr
      subst hr
      show CR w _ (arrTg d (.r (i * 64))) c'.all _
      rw [hhd]
      obtain ⟨u', h5, h6⟩ := CR.at p (old.root (.r id) _ g1) g3
      rw [g4] at h5; injection h5 with h5; subst h5
      refine (h6.all hs).move (fun q b hb hlq => ⟨rfl, ?_⟩) ?_
      · cases d with
        | true =>
          have e : ((arrTg true (Lb.r id)).exts p).exts q = .own (.r id) (p ++ q) := by simp [arrTg, Tg.exts_own]
          rw [e] at hlq
          have e2 : ((arrTg true (Lb.r (i * 64))).exts q).lab = some (.r (i * 64), q) := by simp [arrTg, Tg.exts_own, Tg.lab]
          rw [e2]
          exact callHome_hit hdist h hlq
        | false =>
          have hp0 : p = [] := hpd.resolve_right (by simp)
          subst hp0
          cases q with
          | nil =>
            have e2 : ((arrTg false (Lb.r (i * 64))).exts []).lab = some (.r (i * 64), []) := rfl
            rw [e2]
            exact callHome_hit hdist h hlq
          | cons y q =>
            have e : ((arrTg false (Lb.r id)).exts []).exts (y :: q) = .imm := Tg.exts_top _ _ _
            have e2 : (arrTg false (Lb.r (i * 64))).exts (y :: q) = .imm := Tg.exts_top _ _ _
            rw [e] at hlq
            rw [e2]
            exact callHome_none hlq
      · cases d with
        | true =>
          have e : (arrTg true (Lb.r id)).exts p = .own (.r id) p := by simp [arrTg, Tg.exts_own]
          rw [e]; exact Ok.own _ _ _
        | false =>
          have hp0 : p = [] := hpd.resolve_right (by simp)
          subst hp0
          exact Ok.top _ _
    · have := hrt0 i _ hg _ rfl
      rw [this] at hr
      injection hr with hr
      subst hr
      obtain ⟨b, cur, e, k1, k2, k3, k4⟩ := RR.box (old.root (.r id) _ hrt)
      refine Or.inr ⟨b, cur, e, by rw [hhd]; exact k1, callHome_hit hdist h k2, k3, k4.1, fun j x v hx' hv => ?_⟩
      exact (k4.2 j x v hx' hv).imm old (hx x (List.mem_of_getElem? hx')) (fun b hb hn => ⟨rfl, hn0 b hb hn⟩)
  refine ⟨hdist, hgiven, ⟨fun lb r hr => ?_, fun b lb p hb => ?_, fun lb r hr => ?_⟩, fun i g v hg hv => ?_⟩
  · cases lb with
    | x => simp only [ext, Option.some.injEq] at hr; subst hr; exact Or.inl rfl
    | t k => cases hr
    | r j =>
      obtain ⟨i, id, p, g, rfl, h1, h2, h3⟩ := hroot j r hr
      exact hRR i id p h1 r hr
  · have hsz : b < w.heap.size := by
      cases hhb : home b with
      | none => rw [callHome_none hhb] at hb; cases hb
      | some y => obtain ⟨l0, q0⟩ := y; exact (old.lab b l0 q0 hhb).1
    refine ⟨hsz, ?_⟩
    cases lb with
    | x => exact ⟨.box [], rfl, by simp⟩
    | t k => exact absurd hb callHome_t
    | r j =>
      obtain ⟨i, id, p', rfl, h1, h2⟩ := callHome_inv hb
      rcases hgiven i id p' h1 with ⟨d, t, c, c', sz, n, tot, len, u, g1, g2, hpd, g3, hs, hnt, g4, hhd, _, hg⟩ | ⟨xs, hrt, rfl, hhd, hg, hx⟩
      · exact ⟨_, hrt0 i _ hg _ rfl, by simp⟩
      · exact ⟨_, hrt0 i _ hg _ rfl, by simp⟩
  · cases lb with
    | x => simp only [ext, Option.some.injEq] at hr; subst hr; intro i hi; simp [Root.ids] at hi
    | t k => cases hr
    | r j =>
      obtain ⟨i, id, p, g, rfl, h1, h2, h3⟩ := hroot j r hr
      rcases hgiven i id p h1 with ⟨d, t, c, c', sz, n, tot, len, u, g1, g2, hpd, g3, hs, hnt, g4, hhd, _, hg⟩ | ⟨xs, hrt, rfl, hhd, hg, hx⟩
      · have := hrt0 i _ hg _ rfl
        have hr' : (initFr (l.map (·.1))).rt (i * 64) = some r := hr
        rw [this] at hr'; injection hr' with hr'; subst hr'
        intro k hk; cases hk
      · have := hrt0 i _ hg _ rfl
        have hr' : (initFr (l.map (·.1))).rt (i * 64) = some r := hr
        rw [this] at hr'; injection hr' with hr'; subst hr'
        intro k hk
        simp only [Root.ids, List.mem_flatMap] at hk
        obtain ⟨x, h4, h5⟩ := hk
        rw [hx x h4] at h5; cases h5
  · rw [List.getElem?_map, Option.map_eq_some_iff] at hg
    obtain ⟨⟨g', x⟩, h4, rfl⟩ := hg
    obtain ⟨q, k2, k3⟩ := hq i _ h4
    obtain ⟨a, ha, hcase⟩ := argOf_spec k3
    have h5 : (l.map (·.2))[i]? = some x := by rw [List.getElem?_map, h4]; rfl
    have h6 : (l.map (·.1))[i]? = some g' := by rw [List.getElem?_map, h4]; rfl
    obtain ⟨hA, hpres⟩ := hvs i q v k2 hv a ha
    rcases hcase with ⟨hqf, a', hsn, e⟩ | ⟨_, id', p2, len, d, c', sz, n, tot, rfl, hra, hs, hle, hpd, e⟩ | ⟨_, id', xs, rfl, hr, hx, e⟩
    · injection e with e1 e
      subst e1 e
      -- read only
      have hun : ∀ j ∈ a.ids, Unheld w home (callHome home (l.map (·.2)) others) j ∧ ∀ r, rt j = some r → ∀ k ∈ r.ids, Unheld w home (callHome home (l.map (·.2)) others) k := by
        intro j hj
        have hof : others = false := by
          cases others with
          | false => rfl
          | true => have := hoth rfl q (List.mem_of_getElem? k2) hqf a ha; rw [this] at hj; cases hj
        have hnoj : ∀ (i' id : Nat) (p : Path), (l.map (·.2))[i']? = some (some (id, p)) → j ≠ id ∧ ∀ r, rt j = some r → id ∉ r.ids := by
          intro i' id p hi'
          have hne : i' ≠ i := fun e => by subst e; rw [h5] at hi'; cases hi'
          exact argHas_spec (hspec i' i id p q hne hi' k2) ha j hj
        refine ⟨fun b q' _ hb => ?_, fun r hr k hk b q' _ hb => ?_⟩
        · rw [callHome_rest hb (fun i' p hi' => absurd rfl (hnoj i' j p hi').1), hof]; rfl
        · rw [callHome_rest hb (fun i' p hi' => absurd hk ((hnoj i' k p hi').2 r hr)), hof]; rfl
      show A1R ids w _ _ _ a' v
      cases a with
      | s s =>
        simp only [snap1, Option.map_eq_some_iff] at hsn
        obtain ⟨y, h7, rfl⟩ := hsn
        exact (snap_ok old hn0 hA h7 hun).1
      | agg xs =>
        simp only [snap1, Option.map_eq_some_iff] at hsn
        obtain ⟨ys, h7, rfl⟩ := hsn
        obtain ⟨us, hu1, hu2⟩ := hA
        obtain ⟨n1, n2⟩ := mapO_spec h7
        refine ⟨us, hu1, by rw [← n1]; exact hu2.1, fun j y u hy hu => ?_⟩
        have hlt : j < xs.length := by rw [n1]; exact (List.getElem?_eq_some_iff.1 hy).1
        exact (snap_ok old hn0 (hu2.2 j _ u (List.getElem?_eq_getElem hlt) hu) (n2 j _ y (List.getElem?_eq_getElem hlt) hy) (fun k hk => hun k (by simp only [A1.ids, List.mem_flatMap]; exact ⟨_, List.getElem_mem hlt, hk⟩))).1
      | fn f xs =>
        simp only [snap1, Option.map_eq_some_iff] at hsn
        obtain ⟨ys, h7, rfl⟩ := hsn
        obtain ⟨us, hu1, hu2⟩ := hA
        obtain ⟨n1, n2⟩ := mapO_spec h7
        refine ⟨us, hu1, by rw [← n1]; exact hu2.1, fun j y u hy hu => ?_⟩
        have hlt : j < xs.length := by rw [n1]; exact (List.getElem?_eq_some_iff.1 hy).1
        exact (snap_ok old hn0 (hu2.2 j _ u (List.getElem?_eq_getElem hlt) hu) (n2 j _ y (List.getElem?_eq_getElem hlt) hy) (fun k hk => hun k (by simp only [A1.ids, List.mem_flatMap]; exact ⟨_, List.getElem_mem hlt, hk⟩))).1
    · injection e with e1 e
      subst e1 e
      have hA' : SVR w home hd rt (.ref id' p2 0 len) v := hA
      obtain ⟨t, c, g1, g2, g3⟩ := rowAt_spec hra
      obtain ⟨u, g4, g5⟩ := CR.at p2 (old.root (.r id') _ g1) g3
      have hpart := hA'.2 d t c g1 g2 c' u g3 g4 sz n tot hs
      show SVR w (callHome home (l.map (·.2)) others) (callHd w hd rt (l.map (·.2))) (initFr (l.map (·.1))).rt (.ref (i * 64) [] 0 len) v
      refine ⟨hA'.1, fun d1 t1 c1 k1 k2' c2 u2 k4 k5 sz2 m2' tot2 k6 => ?_⟩
      have := hrt0 i _ h6 _ rfl
      rw [this] at k1
      injection k1 with k1; injection k1 with e1 e2 e3
      subst e1 e2 e3
      have e1 : c'.all.get [] = some c'.all := by cases c'.all <;> rfl
      rw [e1] at k4; injection k4 with k4; subst k4
      have e2 : ∀ c (u : Value), hdAt w c u [] = some u := fun c u => by cases c <;> rfl
      rw [e2] at k5; injection k5 with k5; subst k5
      rw [C.all_shape hs] at k6
      injection k6 with k6; injection k6 with k6 k7; subst k6
      rw [callHd_at h5]
      simp only [headOf, g1, g4, g3, hs]
      obtain ⟨a1, m', cap1, a2, e3, e4, e5, e6⟩ := hpart
      exact ⟨a1, tot, cap1, a2, by rw [e3]; rfl, e4, e5, e6⟩
    · injection e with e1 e
      subst e1 e
      have hA' : SVR w home hd rt (.pb id' 0) v := hA
      show SVR w (callHome home (l.map (·.2)) others) (callHd w hd rt (l.map (·.2))) (initFr (l.map (·.1))).rt (.pb (i * 64) 0) v
      refine ⟨hA'.1, fun ys hy => ?_⟩
      obtain ⟨b, k5, k6⟩ := hA'.2 xs hr
      refine ⟨b, ?_, k6⟩
      rw [callHd_at h5]
      simp only [headOf, hr]
      exact k5
end
end Go.Proofs.YtecmolmlojehgaaGreat.T
namespace Go.Proofs.YtecmolmlojehgaaGreat.T
open Go
variable (ids : Nat → FuncId)

def cellsOf : List RV → List RC
  | [] => []
  | .s x :: rs => x :: cellsOf rs
  | .agg xs :: rs => xs ++ cellsOf rs
def Asm : List RV → List Value → List Value → Prop
  | [], fl, us => fl = [] ∧ us = []
  | .s _ :: rs, fl, us => ∃ v fl' us', fl = v :: fl' ∧ us = v :: us' ∧ Asm rs fl' us'
  | .agg xs :: rs, fl, us => ∃ f1 f2 us', fl = f1 ++ f2 ∧ f1.length = xs.length ∧ us = .agg f1.toArray :: us' ∧ Asm rs f2 us'
def AsmA : List RV → List SV → List A1 → Prop
  | [], fl, us => fl = [] ∧ us = []
  | .s _ :: rs, fl, us => ∃ v fl' us', fl = v :: fl' ∧ us = .s v :: us' ∧ AsmA rs fl' us'
  | .agg xs :: rs, fl, us => ∃ f1 f2 us', fl = f1 ++ f2 ∧ f1.length = xs.length ∧ us = .agg f1 :: us' ∧ AsmA rs f2 us'
def retV : List Value → Value
  | [v] => v
  | vs => .tuple vs.toArray
/-- What is left of the arguments' rows and variables. -/
def rtM (ps : List Nat) (ms : List (Option Root)) : Rts := fun i => ((ps.zip ms).lookup i).join
/-- A call's end. -/
structure Ret (w : World) (home : Home) (hd : Lb → Value) (ps : List Nat) (w' : World) (home' : Home) (hd' : Lb → Value) (F' : Nat → Option Root) (res : Res) (us : List Value) : Prop where
  rel : RtR w' home' hd' (rtM ps res.ms) F'
  vals : ∃ fl : List Value, fl.length = (cellsOf res.rs).length ∧ (∀ (j : Nat) o c v, (cellsOf res.rs)[j]? = some (.mk o c) → fl[j]? = some v → Held w' home' hd' F' j o c v ∧ (o ≠ .imm → c.shape ≠ none)) ∧ Asm res.rs fl us
  only : ∀ j r, F' j = some r → ∃ o c, (cellsOf res.rs)[j]? = some (.mk o c) ∧ o ≠ .imm ∧ r = .arr (decide (o = .deep)) false c
  os : w'.os = w.os
  tape : w'.tape = w.tape
  output : w'.output = w.output
  size : w.heap.size ≤ w'.heap.size
  blk : ∀ b, b < w.heap.size → home b = none → w'.heap[b]? = w.heap[b]? ∧ home' b = none
  oth : ∀ b q, b < w.heap.size → home b = some (.x, q) → w'.heap[b]? = w.heap[b]? ∧ home' b = some (.x, q)
  pin : ∀ i, i < 64000 → ∀ r, rtM ps res.ms i = some r → r ≠ .gone → hd' (.r i) = hd (.r i)
/-- A function is called and returns. -/
def Runs (P : Program) (f : FuncId) (vs : Array Value) (w : World) (R : Value → World → Prop) : Prop :=
  ((callFunc f vs).run P w = .ok (.enter f vs) w ∧ Calls P f vs w (fun e w' => ∃ v, e = .returned v ∧ R v w')) ∨ ∃ v w', (callFunc f vs).run P w = .ok (.value v) w' ∧ R v w'
theorem Runs.mono {P : Program} {f : FuncId} {vs : Array Value} {w : World} {R R' : Value → World → Prop} (h : Runs P f vs w R) (hr : ∀ v w', R v w' → R' v w') : Runs P f vs w R' := by
  rcases h with ⟨h1, h2⟩ | ⟨v, w', h1, h2⟩
  · exact Or.inl ⟨h1, h2.mono (fun e w' ⟨v, he, hv⟩ => ⟨v, he, hr v w' hv⟩)⟩
  · exact Or.inr ⟨v, w', h1, hr v w' h2⟩
/-- A function gives what is said, wherever it is called. -/
def Sat (P : Program) (f : FuncId) (args : List Arg) (res : Res) : Prop :=
  ∀ w home hd (vs : List Value), vs.length = args.length → RtR w home hd (initFr args).rt F0 →
    (∀ (i : Nat) a v, args[i]? = some a → vs[i]? = some v → A1R ids w home hd (initFr args).rt (initArg i a).1 v) → (∀ (i : Nat) x, args[i]? = some (.imm x) → x.ids = []) →
    Runs P f vs.toArray w (fun v w' => ∃ home' hd' F' us, v = retV us ∧ Ret w home hd (initFr args).ps w' home' hd' F' res us)
/-- Values that are told cell by cell, put together. -/
def grpV : List Nat → List Value → List Value
  | [], vs => vs
  | n :: g, vs => if n = 0 then vs.take 1 ++ grpV g (vs.drop 1) else .agg (vs.take n).toArray :: grpV g (vs.drop n)
/-- The same, where some arguments are told cell by cell. -/
def SatG (P : Program) (f : FuncId) (g : List Nat) (args : List Arg) (res : Res) : Prop :=
  ∀ w home hd (vs : List Value), vs.length = args.length → RtR w home hd (initFr args).rt F0 →
    (∀ (i : Nat) a v, args[i]? = some a → vs[i]? = some v → A1R ids w home hd (initFr args).rt (initArg i a).1 v) → (∀ (i : Nat) x, args[i]? = some (.imm x) → x.ids = []) →
    Runs P f (grpV g vs).toArray w (fun v w' => ∃ home' hd' F' us, v = retV us ∧ Ret w home hd (initFr args).ps w' home' hd' F' res us)
section
variable {ids} {w : World} {home : Home} {hd : Lb → Value} {rt : Rts} {F : Nat → Option Root}
def updN {α : Type} (f : Nat → Option α) (k : Nat) : Nat → Option α := fun i => if i = k then none else f i
/-- What was taken is a root of its own. -/
theorem place (old : RtR w home hd rt F) {k id : Nat} {d : Bool} {c : C} (hk : F k = some (.arr d false c)) (hid : rt id = none) (h64 : 64000 ≤ id) {sz n tot : Nat} (hs : c.shape = some (sz, n, tot)) :
    ∃ home' hd', Step w home hd rt F w home' hd' (upd rt id (.arr d false c.all)) (updN F k) ∧ (∀ j, hd' (.t j) = hd (.t j)) ∧ SVR w home' hd' (upd rt id (.arr d false c.all)) (.ref id [] 0 n) (hd (.t k)) := by
  have hX : CR w home (arrTg d (.t k)) c (hd (.t k)) := old.root (.t k) _ hk
  let g : Lb → Lb := fun l => if l = .t k then .r id else l
  let home' : Home := fun b => (home b).map (fun q => (g q.1, q.2))
  have hnone : ∀ b, home b = none → home' b = none := fun b h => by simp [home', h]
  have hr' : ∀ b q, home b = some (.t k, q) → home' b = some (.r id, q) := fun b q h => by simp [home', h, g]
  have hother : ∀ b l q, l ≠ .t k → home b = some (l, q) → home' b = some (l, q) := fun b l q hl h => by simp [home', h, g, hl]
  have hnoid : ∀ b q, home b ≠ some (.r id, q) := fun b q h => by
    obtain ⟨_, r, h1, _⟩ := old.lab b _ q h
    simp only [ext, hid] at h1
    cases h1
  obtain ⟨vs0, hh, _⟩ := hX.open hs
  obtain ⟨_, _, ad, cap, hu, hcap, _, _⟩ := hh
  have hnew : CR w home' (arrTg d (.r id)) c.all (relen (hd (.t k)) tot) := by
    refine (hX.all hs).move (fun q b hb hl => ⟨rfl, ?_⟩) ?_
    · rcases arrTg_exts d (.t k) q with h3 | h3
      · have h4 : ((arrTg d (.r id)).exts q).lab = none := by
          cases d with
          | true => simp [arrTg, Tg.exts_own, Tg.lab] at h3
          | false => cases q with
            | nil => simp [arrTg, Tg.exts, Tg.lab] at h3
            | cons x q => simp [arrTg, Tg.exts_top, Tg.lab]
        rw [h4]; exact hnone b (hl.trans h3)
      · have h4 : ((arrTg d (.r id)).exts q).lab = some (.r id, q) := by
          cases d with
          | true => simp [arrTg, Tg.exts_own, Tg.lab]
          | false => cases q with
            | nil => simp [arrTg, Tg.exts, Tg.lab]
            | cons x q => simp [arrTg, Tg.exts_top, Tg.lab] at h3
        rw [h4]; exact hr' b q (hl.trans h3)
    · cases d with
      | true => exact Ok.own _ _ _
      | false => exact Ok.top _ _
  refine ⟨home', updL hd (.r id) (relen (hd (.t k)) tot), Step.mk2 (fun l => l = .r id ∨ l = .t k) old (fun b _ h => ⟨rfl, hnone b h⟩) (fun l hl b q _ h => ⟨rfl, hother b l q (fun e => hl (Or.inr e)) h⟩)
    (fun l hl => updL_ne _ _ (fun e => hl (Or.inl e))) (fun l hl => ?_) ?_ ?_ ?_ ?_ ?_ ?_ rfl rfl rfl (Nat.le_refl _) ?_, fun j => updL_ne _ _ (by simp), ?_⟩
  · cases l with
    | x => rfl
    | r i => exact updF_ne _ _ (fun e => hl (Or.inl (by rw [e])))
    | t i =>
      have : i ≠ k := fun e => hl (Or.inr (by rw [e]))
      simp [ext, updN, this]
  · intro i hi x v hx hs' _
    rcases hi with e | e
    · injection e with e; subst e; rw [hid] at hs'; cases hs'
    · cases e
  · intro _ l r hl hr
    rcases hl with rfl | rfl
    · simp only [ext, updF_same, Option.some.injEq] at hr; subst hr
      show CR w home' (arrTg d (.r id)) c.all (updL hd (.r id) _ (.r id))
      rw [updL_same]; exact hnew
    · simp [ext, updN] at hr
  · intro b l p hl h
    simp only [home', Option.map_eq_some_iff] at h
    obtain ⟨⟨l0, q⟩, h1, h2⟩ := h
    simp only [Prod.mk.injEq] at h2
    obtain ⟨h2, rfl⟩ := h2
    simp only [g] at h2
    split at h2
    · exact absurd (Or.inl h2.symm) hl
    · subst h2; exact ⟨(old.lab b _ _ h1).1, h1⟩
  · intro b l p hl h
    simp only [home', Option.map_eq_some_iff] at h
    obtain ⟨⟨l0, q⟩, h1, h2⟩ := h
    refine ⟨(old.lab b _ _ h1).1, ?_⟩
    simp only [Prod.mk.injEq] at h2
    obtain ⟨h2, rfl⟩ := h2
    simp only [g] at h2
    split at h2
    · subst h2; exact ⟨_, updF_same _ _ _, by simp⟩
    · rename_i hne
      subst h2
      rcases hl with e | e
      · subst e; exact absurd h1 (hnoid b q)
      · exact absurd e hne
  · intro l r hl hr
    rcases hl with rfl | rfl
    · simp only [ext, updF_same, Option.some.injEq] at hr; subst hr; intro i hi; cases hi
    · simp [ext, updN] at hr
  · intro i hi
    by_cases e : i = id
    · subst e; rw [updF_same]; rfl
    · rw [updF_ne _ _ e]; exact hi
  · intro i hi hX2
    rcases hX2 with e | e
    · injection e with e; omega
    · cases e
  · rw [hu]
    have hle := shape_le hs
    refine ⟨⟨_, _, rfl⟩, fun d1 t1 c1 k1 _ c' u k3 k4 sz2 m2 tot2 k5 => ?_⟩
    rw [updF_same] at k1
    injection k1 with k1; injection k1 with e1 e2 e3
    subst e1 e2 e3
    have e1 : c.all.get [] = some c.all := by cases c.all <;> rfl
    rw [e1] at k3; injection k3 with k3; subst k3
    have e2 : ∀ c (u : Value), hdAt w c u [] = some u := fun c u => by cases c <;> rfl
    rw [e2, updL_same] at k4; injection k4 with k4; subst k4
    exact Part.self sz2 (by omega)
theorem updN_F0 {k : Nat} (h : ∀ j, F j ≠ none → j = k) : updN F k = F0 := by
  funext j
  simp only [updN, F0]
  split
  · rfl
  · rename_i hne
    cases hF : F j with
    | none => rfl
    | some r => exact absurd (h j (by rw [hF]; simp)) hne
theorem cells_placed : ∀ {cells : List RC} {fl : List Value} {k id : Nat} {home : Home} {hd : Lb → Value} {rt : Rts} {F : Nat → Option Root} {ys : List SV} {rt2 : Rts}, RtR w home hd rt F → fl.length = cells.length → 64000 ≤ id →
    (∀ (j : Nat) o c v, cells[j]? = some (.mk o c) → fl[j]? = some v → Held w home hd F (k + j) o c v ∧ (o ≠ .imm → c.shape ≠ none)) →
    (∀ j r, F j = some r → k ≤ j ∧ ∃ o c, cells[j - k]? = some (.mk o c) ∧ o ≠ .imm ∧ r = .arr (decide (o = .deep)) false c) → cellsRes rt id cells = some (ys, rt2) →
    ∃ home' hd', Step w home hd rt F w home' hd' rt2 F0 ∧ F2 (SVR w home' hd' rt2) ys fl ∧ ∀ y ∈ ys, ∀ i ∈ y.ids, (rt2 i).isSome = true
  | [], fl, k, id, home, hd, rt, F, ys, rt2, old, hl, h64, hh, hF, h => by
    simp only [cellsRes, Option.some.injEq, Prod.mk.injEq] at h
    obtain ⟨rfl, rfl⟩ := h
    have hfl : fl = [] := List.eq_nil_of_length_eq_zero (by simpa using hl)
    subst hfl
    have : F = F0 := by
      funext j
      cases hj : F j with
      | none => rfl
      | some r => obtain ⟨_, o, c, h1, _⟩ := hF j r hj; simp at h1
    subst this
    exact ⟨home, hd, Step.refl old, ⟨rfl, fun i x y hx => by simp at hx⟩, fun y hy => by cases hy⟩
  | .mk o c :: cells, fl, k, id, home, hd, rt, F, ys, rt2, old, hl, h64, hh, hF, h => by
    cases fl with
    | nil => simp at hl
    | cons v fl =>
      simp only [cellsRes] at h
      split at h
      · rename_i y rt1 h1
        split at h
        · rename_i ys' rt2' h2
          simp only [Option.some.injEq, Prod.mk.injEq] at h
          obtain ⟨rfl, rfl⟩ := h
          obtain ⟨hheld, hsh⟩ := hh 0 o c v rfl rfl
          rw [Nat.add_zero] at hheld
          -- one cell
          have one : ∃ home1 hd1, Step w home hd rt F w home1 hd1 rt1 (updN F k) ∧ (∀ j, hd1 (.t j) = hd (.t j)) ∧ SVR w home1 hd1 rt1 y v ∧ ∀ i ∈ y.ids, (rt1 i).isSome = true := by
            by_cases ho : o = .imm
            · subst ho
              have hF0 : updN F k = F := by
                funext j
                simp only [updN]
                split
                · rename_i hj
                  subst hj
                  cases hj : F j with
                  | none => rfl
                  | some r =>
                    obtain ⟨_, o', c', h3, h4, _⟩ := hF j r hj
                    simp at h3
                    exact absurd h3.1.symm h4
                · rfl
              have e : cellRes rt id (.mk .imm c) = some (.c c, rt) := by cases c <;> rfl
              rw [e] at h1
              simp only [Option.some.injEq, Prod.mk.injEq] at h1
              obtain ⟨rfl, rfl⟩ := h1
              rw [hF0]
              rcases hheld with ⟨_, hc⟩ | ⟨hne, _⟩
              · exact ⟨home, hd, Step.refl old, fun _ => rfl, hc, fun i hi => by cases hi⟩
              · exact absurd rfl hne
            · rcases hheld with ⟨e, _⟩ | ⟨_, hFk, hv, _⟩
              · exact absurd e ho
              · obtain ⟨sz, n, tot, hs⟩ : ∃ sz n tot, c.shape = some (sz, n, tot) := by
                  cases hc : c.shape with
                  | none => exact absurd hc (hsh ho)
                  | some q => obtain ⟨a, b, d⟩ := q; exact ⟨a, b, d, rfl⟩
                have e : cellRes rt id (.mk o c) = (newRt rt id (.arr (decide (o = .deep)) false c.all)).map (fun rt => (.ref id [] 0 n, rt)) := by
                  cases c with
                  | val v => cases hs
                  | hole => cases hs
                  | fl a b d => cases o <;> first | exact absurd rfl ho | simp only [cellRes, hs]
                  | sl a b d => cases o <;> first | exact absurd rfl ho | simp only [cellRes, hs]
                rw [e, Option.map_eq_some_iff] at h1
                obtain ⟨rt1', h3, h4⟩ := h1
                injection h4 with h4 h5
                subst h4 h5
                obtain ⟨n1, n2, _, rfl⟩ := newRt_spec h3
                obtain ⟨home1, hd1, s1, s2, s3⟩ := place old hFk n1 n2 hs
                refine ⟨home1, hd1, s1, s2, by rw [← hv]; exact s3, fun i hi => ?_⟩
                simp only [SV.ids, List.mem_singleton] at hi
                subst hi
                rw [updF_same]; rfl
          obtain ⟨home1, hd1, s1, t1, r1, p1⟩ := one
          have hh2 : ∀ (j : Nat) o' c' v', cells[j]? = some (.mk o' c') → fl[j]? = some v' → Held w home1 hd1 (updN F k) (k + 1 + j) o' c' v' ∧ (o' ≠ .imm → c'.shape ≠ none) := by
            intro j o' c' v' h3 h4
            obtain ⟨g1, g2⟩ := hh (j + 1) o' c' v' (by simpa using h3) (by simpa using h4)
            rw [show k + (j + 1) = k + 1 + j by omega] at g1
            refine ⟨g1.step s1 ?_ (t1 _), g2⟩
            simp only [updN]
            rw [if_neg (by omega)]
          have hF2 : ∀ j r, updN F k j = some r → k + 1 ≤ j ∧ ∃ o' c', cells[j - (k + 1)]? = some (.mk o' c') ∧ o' ≠ .imm ∧ r = .arr (decide (o' = .deep)) false c' := by
            intro j r hj
            simp only [updN] at hj
            split at hj
            · cases hj
            · rename_i hne
              obtain ⟨g1, o', c', g2, g3, g4⟩ := hF j r hj
              refine ⟨by omega, o', c', ?_, g3, g4⟩
              rw [show j - k = (j - (k + 1)) + 1 by omega, List.getElem?_cons_succ] at g2
              exact g2
          obtain ⟨home2, hd2, s2, f2, p2⟩ := cells_placed (k := k + 1) s1.rel (by simpa using hl) (by omega) hh2 hF2 h2
          refine ⟨home2, hd2, s1.trans s2, ⟨by simp [f2.1], fun i x u hx hu => ?_⟩, fun y' hy' i hi => ?_⟩
          · cases i with
            | zero =>
              simp only [List.getElem?_cons_zero, Option.some.injEq] at hx hu
              subst hx hu
              exact s2.st _ _ p1 r1
            | succ i => simp only [List.getElem?_cons_succ] at hx hu; exact f2.2 i x u hx hu
          · rcases List.mem_cons.1 hy' with rfl | hm
            · exact s2.pres i (p1 i hi)
            · exact p2 y' hm i hi
        · cases h
      · cases h
theorem cellsRes_app : ∀ {xs zs : List RC} {rt rt1 rt2 : Rts} {id : Nat} {ys ws : List SV}, cellsRes rt id xs = some (ys, rt1) → cellsRes rt1 (id + xs.length) zs = some (ws, rt2) → cellsRes rt id (xs ++ zs) = some (ys ++ ws, rt2) ∧ ys.length = xs.length
  | [], zs, rt, rt1, rt2, id, ys, ws, h1, h2 => by
    simp only [cellsRes, Option.some.injEq, Prod.mk.injEq] at h1
    obtain ⟨rfl, rfl⟩ := h1
    exact ⟨by simpa using h2, rfl⟩
  | x :: xs, zs, rt, rt1, rt2, id, ys, ws, h1, h2 => by
    simp only [cellsRes] at h1
    split at h1
    · rename_i y rtm hm
      split at h1
      · rename_i ys' rtn hn
        simp only [Option.some.injEq, Prod.mk.injEq] at h1
        obtain ⟨rfl, rfl⟩ := h1
        obtain ⟨e1, e2⟩ := cellsRes_app (zs := zs) hn (by rw [List.length_cons] at h2; rw [show id + 1 + xs.length = id + (xs.length + 1) by omega]; exact h2)
        exact ⟨by simp only [List.cons_append, cellsRes, hm, e1], by simp [e2]⟩
      · cases h1
    · cases h1
theorem valsRes_cells : ∀ {rs : List RV} {rt rt2 : Rts} {id : Nat} {as : List A1}, valsRes rt id rs = some (as, rt2) → ∃ ys, cellsRes rt id (cellsOf rs) = some (ys, rt2) ∧ AsmA rs ys as
  | [], rt, rt2, id, as, h => by
    simp only [valsRes, Option.some.injEq, Prod.mk.injEq] at h
    obtain ⟨rfl, rfl⟩ := h
    exact ⟨[], rfl, rfl, rfl⟩
  | .s x :: rs, rt, rt2, id, as, h => by
    simp only [valsRes] at h
    split at h
    · rename_i a rt1 h1
      split at h
      · rename_i as' rt2' h2
        simp only [Option.some.injEq, Prod.mk.injEq] at h
        obtain ⟨rfl, rfl⟩ := h
        simp only [valRes, Option.map_eq_some_iff, Prod.mk.injEq] at h1
        obtain ⟨⟨y, rt1'⟩, h3, rfl, rfl⟩ := h1
        obtain ⟨ys, h4, h5⟩ := valsRes_cells h2
        exact ⟨y :: ys, by simp only [cellsOf, cellsRes, h3]; simp only [RV.n] at h4; rw [h4], y, ys, as', rfl, rfl, h5⟩
      · cases h
    · cases h
  | .agg xs :: rs, rt, rt2, id, as, h => by
    simp only [valsRes] at h
    split at h
    · rename_i a rt1 h1
      split at h
      · rename_i as' rt2' h2
        simp only [Option.some.injEq, Prod.mk.injEq] at h
        obtain ⟨rfl, rfl⟩ := h
        simp only [valRes, Option.map_eq_some_iff, Prod.mk.injEq] at h1
        obtain ⟨⟨y, rt1'⟩, h3, rfl, rfl⟩ := h1
        obtain ⟨ys, h4, h5⟩ := valsRes_cells h2
        obtain ⟨e1, e2⟩ := cellsRes_app h3 h4
        exact ⟨y ++ ys, e1, y, ys, as', rfl, e2, rfl, h5⟩
      · cases h
    · cases h
theorem asm_R : ∀ {rs : List RV} {ys : List SV} {fl us : List Value} {as : List A1}, AsmA rs ys as → Asm rs fl us → F2 (SVR w home hd rt) ys fl → F2 (A1R ids w home hd rt) as us
  | [], ys, fl, us, as, h1, h2, h3 => by
    obtain ⟨rfl, rfl⟩ := h1
    obtain ⟨rfl, rfl⟩ := h2
    exact ⟨rfl, fun i x y hx => by simp at hx⟩
  | .s x :: rs, ys, fl, us, as, h1, h2, h3 => by
    obtain ⟨y, ys', as', rfl, rfl, h4⟩ := h1
    obtain ⟨v, fl', us', rfl, rfl, h5⟩ := h2
    have ih := asm_R h4 h5 ⟨by have := h3.1; simpa using this, fun i x y hx hy => h3.2 (i + 1) x y hx hy⟩
    refine ⟨by simp [ih.1], fun i x y hx hy => ?_⟩
    cases i with
    | zero => simp at hx hy; subst hx hy; exact h3.2 0 _ _ rfl rfl
    | succ i => exact ih.2 i x y (by simpa using hx) (by simpa using hy)
  | .agg xs :: rs, ys, fl, us, as, h1, h2, h3 => by
    obtain ⟨y, ys', as', rfl, e1, rfl, h4⟩ := h1
    obtain ⟨v, fl', us', rfl, e2, rfl, h5⟩ := h2
    have hlen : y.length = v.length := by rw [e1, e2]
    have ha : F2 (SVR w home hd rt) y v := ⟨hlen, fun i x z hx hz => h3.2 i x z (by rw [List.getElem?_append_left (List.getElem?_eq_some_iff.1 hx).1]; exact hx) (by rw [List.getElem?_append_left (List.getElem?_eq_some_iff.1 hz).1]; exact hz)⟩
    have hb : F2 (SVR w home hd rt) ys' fl' := by
      have := h3.drop y.length
      rw [List.drop_left] at this
      rw [hlen, List.drop_left] at this
      exact this
    have ih := asm_R h4 h5 hb
    refine ⟨by simp [ih.1], fun i x z hx hz => ?_⟩
    cases i with
    | zero => simp at hx hz; subst hx hz; exact ⟨v, rfl, ha⟩
    | succ i => exact ih.2 i x z (by simpa using hx) (by simpa using hz)
end
end Go.Proofs.YtecmolmlojehgaaGreat.T
namespace Go.Proofs.YtecmolmlojehgaaGreat.T
open Go
variable (ids : Nat → FuncId)

def locIds : Nat → List Loc → List Nat
  | _, [] => []
  | k, some _ :: ls => k * 64 :: locIds (k + 1) ls
  | k, none :: ls => locIds (k + 1) ls
/-- What became of a row or a variable that was handed over. -/
def BackOk (r0 : Option Root) (p : Path) (m : Option Root) (r1 : Option Root) : Prop :=
  (∃ d t c t2 c2 c' sz n k tot, r0 = some (.arr d t c) ∧ m = some (.arr d t2 c2) ∧ (p = [] ∨ (t = false ∧ d = true)) ∧ c.get p = some c' ∧ c'.shape = some (sz, n, k) ∧ (∃ n2, c2.shape = some (sz, n2, tot)) ∧ n ≤ tot ∧ r1 = some (.arr d true (c.set p (c2.sub 0 n)))) ∨
  (∃ d t c, r0 = some (.arr d t c) ∧ m = none ∧ ((p = [] ∧ r1 = some .gone) ∨ (p ≠ [] ∧ t = false ∧ d = true ∧ r1 = some (.arr d true (c.set p .hole))))) ∨
  (∃ ys xs, r0 = some (.box ys) ∧ m = some (.box xs) ∧ (∀ x ∈ xs, x.ids = []) ∧ r1 = some (.box xs))
theorem locIds_ge : ∀ {ls : List Loc} {k i : Nat}, i ∈ locIds k ls → k * 64 ≤ i
  | [], _, _, h => by cases h
  | some _ :: ls, k, i, h => by
    simp only [locIds, List.mem_cons] at h
    rcases h with rfl | h
    · exact Nat.le_refl _
    · have := locIds_ge h; omega
  | none :: ls, k, i, h => by
    have := locIds_ge (ls := ls) h; omega
theorem rtM_cons {i j : Nat} {ps : List Nat} {m : Option Root} {ms : List (Option Root)} : rtM (j :: ps) (m :: ms) i = if i = j then m else rtM ps ms i := by
  simp only [rtM, List.zip_cons_cons, lookup_cons]
  split <;> rfl
theorem back_spec : ∀ {ls : List Loc} {ms : List (Option Root)} {k : Nat} {rt rt1 : Rts}, back rt ls ms = some rt1 → Dist ls →
    (∀ id, (∀ (i : Nat) p, ls[i]? ≠ some (some (id, p))) → rt1 id = rt id) ∧ ∀ (i id : Nat) p, ls[i]? = some (some (id, p)) → BackOk (rt id) p (rtM (locIds k ls) ms ((k + i) * 64)) (rt1 id)
  | [], ms, k, rt, rt1, h, _ => by
    cases ms with
    | nil => simp only [back, Option.some.injEq] at h; subst h; exact ⟨fun _ _ => rfl, fun i id p hi => by simp at hi⟩
    | cons m ms => cases h
  | none :: ls, ms, k, rt, rt1, h, hd => by
    have hd' : Dist ls := fun i j id p p' h1 h2 => by
      have := hd (i + 1) (j + 1) id p p' (by simpa using h1) (by simpa using h2)
      exact ⟨by omega, this.2⟩
    have h' : back rt ls ms = some rt1 := by
      cases ms <;> simpa only [back] using h
    obtain ⟨g1, g2⟩ := back_spec (k := k + 1) h' hd'
    refine ⟨fun id hid => g1 id (fun i p => by simpa using hid (i + 1) p), fun i id p hi => ?_⟩
    cases i with
    | zero => simp at hi
    | succ i =>
      have := g2 i id p (by simpa using hi)
      simp only [locIds]
      rw [show (k + (i + 1)) = k + 1 + i by omega]; exact this
  | some (id0, p0) :: ls, ms, k, rt, rt1, h, hd => by
    cases ms with
    | nil => simp only [back] at h; cases h
    | cons m ms =>
      have hd' : Dist ls := fun i j id p p' h1 h2 => by
        have := hd (i + 1) (j + 1) id p p' (by simpa using h1) (by simpa using h2)
        exact ⟨by omega, this.2⟩
      have hne : ∀ (i : Nat) p, ls[i]? ≠ some (some (id0, p)) := fun i p hi => by
        have := hd 0 (i + 1) id0 p0 p rfl (by simpa using hi)
        omega
      have key : ∃ X, BackOk (rt id0) p0 m (some X) ∧ back (upd rt id0 X) ls ms = some rt1 := by
        simp only [back] at h
        split at h
        · rename_i d t c d' t2 c2 hr
          split at h
          · rename_i hc
            obtain ⟨rfl, hp⟩ := hc
            split at h
            · rename_i c' hg
              split at h
              · rename_i sz n k' sz2 n2 tot2 hs1 hs2
                split at h
                · rename_i hc2
                  obtain ⟨rfl, hle⟩ := hc2
                  exact ⟨_, Or.inl ⟨_, _, _, _, _, _, _, _, _, _, hr, rfl, hp, hg, hs1, ⟨_, hs2⟩, hle, rfl⟩, h⟩
                · cases h
              · cases h
            · cases h
          · cases h
        · rename_i d t c hr
          split at h
          · exact ⟨_, Or.inr (Or.inl ⟨_, _, _, hr, rfl, Or.inl ⟨rfl, rfl⟩⟩), h⟩
          · split at h
            · rename_i hc
              exact ⟨_, Or.inr (Or.inl ⟨_, _, _, hr, rfl, Or.inr ⟨by simp, hc.1, hc.2, rfl⟩⟩), h⟩
            · cases h
        · rename_i ys xs hr
          split at h
          · rename_i hc
            exact ⟨_, Or.inr (Or.inr ⟨_, _, hr, rfl, fun x hx => by simpa using List.all_eq_true.1 hc x hx, rfl⟩), h⟩
          · cases h
        · cases h
      obtain ⟨X, hok, hb⟩ := key
      obtain ⟨g1, g2⟩ := back_spec (k := k + 1) hb hd'
      refine ⟨fun id hid => ?_, fun i id p hi => ?_⟩
      · have hne2 : id ≠ id0 := fun e => hid 0 p0 (by subst e; rfl)
        rw [g1 id (fun i p => by simpa using hid (i + 1) p), updF_ne _ _ hne2]
      · cases i with
        | zero =>
          simp only [List.getElem?_cons_zero, Option.some.injEq, Prod.mk.injEq] at hi
          obtain ⟨rfl, rfl⟩ := hi
          have e1 : rt1 id0 = some X := by rw [g1 id0 (fun i p => hne i p), updF_same]
          rw [e1]
          simp only [locIds, Nat.add_zero, rtM_cons, if_true]
          exact hok
        | succ i =>
          have hi' : ls[i]? = some (some (id, p)) := by simpa using hi
          have hne2 : id ≠ id0 := fun e => hne i p (by rw [← e]; exact hi')
          have := g2 i id p hi'
          rw [updF_ne _ _ hne2] at this
          simp only [locIds, rtM_cons]
          rw [if_neg (by omega), show (k + (i + 1)) = k + 1 + i by omega]
          exact this
theorem ps_eq : ∀ {l : List (Arg × Loc)} {k : Nat}, (∀ r ∈ l, (∃ a, r = (.imm a, none)) ∨ (∃ d c n y, r = (.arr d c n, some y)) ∨ ∃ xs y, r = (.box xs, some y)) → (initRt k (l.map (·.1))).map (·.1) = locIds k (l.map (·.2))
  | [], _, _ => rfl
  | r :: l, k, h => by
    have ih := ps_eq (l := l) (k := k + 1) (fun r hr => h r (List.mem_cons_of_mem _ hr))
    rcases h r (List.mem_cons_self ..) with ⟨a, rfl⟩ | ⟨d, c, n, y, rfl⟩ | ⟨xs, y, rfl⟩
    · simpa [initRt, initArg, locIds] using ih
    · simpa [initRt, initArg, locIds] using ih
    · simpa [initRt, initArg, locIds] using ih
theorem CR.move_flat {w w' : World} {home home' : Home} {t t' : Tg} {sz : Nat} {es sp : List (List Value)} {u : Value} (h : CR w home t (.fl sz es sp) u) (hm : ∀ b, b < w.heap.size → home b = t.lab → w'.heap[b]? = w.heap[b]? ∧ home' b = t'.lab) (ok : t.lab = none → t'.lab = none) : CR w' home' t' (.fl sz es sp) u := by
  cases h with
  | fl he hh => exact .fl he (hh.move hm ok)
def notR : Option (Lb × Path) → Bool
  | some (.r _, _) => false
  | _ => true
def putBack (ls : List Loc) : Option (Lb × Path) → Option (Lb × Path)
  | some (.r j, q) =>
    match (ls[j / 64]?).join with
    | some (id, p) => some (.r id, p ++ q)
    | none => none
  | some (.t k, q) => some (.t k, q)
  | _ => none
/-- The owners behind a call. -/
def backHome (w : World) (home home0 h1 : Home) (ls : List Loc) : Home := fun b =>
  if decide (b < w.heap.size) && notR (home0 b) then home b else putBack ls (h1 b)
def backHd (hd hd1 : Lb → Value) : Lb → Value
  | .t k => hd1 (.t k)
  | l => hd l
end Go.Proofs.YtecmolmlojehgaaGreat.T
