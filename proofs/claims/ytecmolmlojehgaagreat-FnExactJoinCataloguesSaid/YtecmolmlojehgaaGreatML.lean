/- slices.Insert, as the abstract executor has it. What the executor gives, the program does. What a statement reads of memory, as trees. The catalogue that a statement reads of memory, as a tree. From the executor to calls and statements. -/
import Derived.Test.YtecmolmlojehgaaGreatMK
import Derived.Test.YtecmolmlojehgaaGreatMD
import Derived.Test.YtecmolmlojehgaaGreatMF
import Derived.Test.YtecmolmlojehgaaGreatMC
import Derived.ChangeArms
import Derived.SizedLaws
import Derived.WalkKit
import Derived.ProofKit
import Derived.OpenShut
import Derived.ShutString
import Derived.ChangeOld
import Derived.Below
namespace Go.Proofs.YtecmolmlojehgaaGreat.T
open Go
section
variable {P : Program}
theorem setCells_heap (b : Nat) : ∀ (vs : List Value) (o : Nat) (w : World) (cur : Array Value) (e : TypeId), w.heap[b]? = some (.cells cur e (0, 0)) → o + vs.length ≤ cur.size →
    ∃ cur2, (w.setCells b o vs).heap[b]? = some (.cells cur2 e (0, 0)) ∧ cur2.size = cur.size ∧ (∀ j, cur2[j]? = if o ≤ j ∧ j < o + vs.length then vs[j - o]? else cur[j]?) ∧ (∀ k, k ≠ b → (w.setCells b o vs).heap[k]? = w.heap[k]?) ∧
      (w.setCells b o vs).heap.size = w.heap.size ∧ (w.setCells b o vs).os = w.os ∧ (w.setCells b o vs).tape = w.tape ∧ (w.setCells b o vs).output = w.output
  | [], o, w, cur, e, hg, _ => ⟨cur, hg, rfl, fun j => by rw [if_neg (by simp)], fun _ _ => rfl, rfl, rfl, rfl, rfl⟩
  | v :: vs, o, w, cur, e, hg, hl => by
    simp only [List.length_cons] at hl
    have h1 := heap_setCell_same w b o cur e v hg
    obtain ⟨cur2, g1, g2, g3, g4, g5, g6, g7, g8⟩ := setCells_heap b vs (o + 1) (w.setCell ⟨b, o, none⟩ v) _ e h1 (by simp; omega)
    refine ⟨cur2, g1, by rw [g2]; simp, fun j => ?_, fun k hk => (g4 k hk).trans (heap_setCell_other w _ k v hk), g5.trans (by simp [World.setCell]), g6, g7, g8⟩
    rw [g3]
    by_cases hj : j = o
    · subst hj
      rw [if_neg (by omega), if_pos (by simp), Nat.sub_self, Array.getElem?_setIfInBounds_self_of_lt (by omega)]
      rfl
    · by_cases hr : o + 1 ≤ j ∧ j < o + 1 + vs.length
      · rw [if_pos hr, if_pos (by simp; omega), show j - o = (j - (o + 1)) + 1 by omega, List.getElem?_cons_succ]
      · rw [if_neg hr, if_neg (by simp; omega), Array.getElem?_setIfInBounds_ne (Ne.symm hj)]
end
theorem frozen_row {w : World} {b j : Nat} {cur : Array Value} {e : TypeId} (h : w.heap[b]? = some (.cells cur e (0, 0))) : w.frozen? ⟨b, j, none⟩ = false := by
  simp [World.frozen?, h]
theorem shape_row {w : World} {b : Nat} {cur : Array Value} {e : TypeId} {f : Nat × Nat} (h : w.heap[b]? = some (.cells cur e f)) : w.shape? b = some (e, cur.size) := by
  simp [World.shape?, h]
/-- What the call leaves: a row in some block, all else as it was. -/
def InsEnd (w : World) (rows : List Value) (n : Nat) (home1 : Home) (v' : Value) (w2 : World) : Prop :=
  ∃ B cap' cur' e1, v' = .slice (some ⟨B, 0, none⟩) n cap' ∧ n ≤ cap' ∧ cap' ≤ maxLen ∧ w2.heap[B]? = some (.cells cur' e1 (0, 0)) ∧ cur'.size = cap' * 8 ∧ (∀ (j : Nat) u, rows[j]? = some u → cur'[j]? = some u) ∧
    (∀ b', b' < w.heap.size → b' ≠ B → w2.heap[b']? = w.heap[b']?) ∧ (B < w.heap.size → home1 B = some (.t 0, [])) ∧ w2.os = w.os ∧ w2.tape = w.tape ∧ w2.output = w.output ∧ w.heap.size ≤ w2.heap.size
theorem getElem?_three {α : Type} (a b c : List α) (j : Nat) : (a ++ b ++ c)[j]? = if j < a.length then a[j]? else if j < a.length + b.length then b[j - a.length]? else c[j - (a.length + b.length)]? := by
  by_cases h1 : j < a.length
  · rw [if_pos h1, List.append_assoc, List.getElem?_append_left h1]
  · rw [if_neg h1]
    by_cases h2 : j < a.length + b.length
    · rw [if_pos h2, List.getElem?_append_left (by rw [List.length_append]; omega), List.getElem?_append_right (by omega)]
    · rw [if_neg h2, List.getElem?_append_right (by rw [List.length_append]; omega), List.length_append]
set_option maxRecDepth 100000 in
set_option maxHeartbeats 2000000 in
theorem sat_insert (es : List (List C)) (e : List C) (i : Nat) (hi : i ≤ es.length) (hes : es.length ≤ 1000000) :
    Sat ids Go.Proofs.Tryz.prog 57 [.arr true (.sl 8 es []) es.length, argI i, .arr true (.sl 8 [e] []) 1] ⟨[.s (.mk .deep (.sl 8 (es.take i ++ [e] ++ es.drop i) []))], [none, none]⟩ := by
  intro w home hd vs hlen hrel hargs himm
  match vs, hlen with
  | [v0, v1, v2], _ =>
    have q0 : SVR w home hd (initFr [.arr true (.sl 8 es []) es.length, argI i, .arr true (.sl 8 [e] []) 1]).rt (.ref 0 [] 0 es.length) v0 := hargs 0 _ v0 rfl rfl
    have q1 : v1 = .int .i64 i := svR_val (w := w) (home := home) (hd := hd) (rt := (initFr [.arr true (.sl 8 es []) es.length, argI i, .arr true (.sl 8 [e] []) 1]).rt) (hargs 1 _ v1 rfl rfl)
    have q2 : SVR w home hd (initFr [.arr true (.sl 8 es []) es.length, argI i, .arr true (.sl 8 [e] []) 1]).rt (.ref 128 [] 0 1) v2 := hargs 2 _ v2 rfl rfl
    subst q1
    have hps : (initFr [.arr true (.sl 8 es []) es.length, argI i, .arr true (.sl 8 [e] []) 1]).ps = [0, 128] := rfl
    obtain ⟨rt, hrt⟩ : ∃ rt, rt = (initFr [.arr true (.sl 8 es []) es.length, argI i, .arr true (.sl 8 [e] []) 1]).rt := ⟨_, rfl⟩
    have r0 : rt 0 = some (.arr true false (.sl 8 es [])) := by rw [hrt]; rfl
    have r2 : rt 128 = some (.arr true false (.sl 8 [e] [])) := by rw [hrt]; rfl
    have r3 : rt 64000 = none := by rw [hrt]; rfl
    rw [← hrt] at hrel q0 q2
    rw [hps]
    have htk : takes rt [.ref 0 [] 0 es.length, .ref 128 [] 0 1] = some ([(.deep, .sl 8 es []), (.deep, .sl 8 [e] [])], upd (upd rt 0 .gone) 128 .gone) := by
      have h128 : upd rt 0 .gone 128 = some (.arr true false (.sl 8 [e] [])) := by rw [updF_ne _ _ (by decide)]; exact r2
      have e1 : take rt (.ref 0 [] 0 es.length) = some (.deep, .sl 8 es [], upd rt 0 .gone) := by simp [take, r0, C.shape, C.sub, -upd_at]
      have e2 : take (upd rt 0 .gone) (.ref 128 [] 0 1) = some (.deep, .sl 8 [e] [], upd (upd rt 0 .gone) 128 .gone) := by simp only [take, h128]; simp [C.shape, C.sub, -upd_at]
      simp only [takes, e1, e2]
    obtain ⟨home1, hd1, F1, st1, _, fn, _, _, _, held⟩ := takes_step [.ref 0 [] 0 es.length, .ref 128 [] 0 1] (k := 0) hrel (vs := [v0, v2]) ⟨rfl, fun i x v hx hv => by
        match i with
        | 0 => simp at hx hv; subst hx hv; exact q0
        | 1 => simp at hx hv; subst hx hv; exact q2
        | i + 2 => simp at hx⟩ (fun x hx => by
        simp only [List.mem_cons, List.not_mem_nil, or_false] at hx
        rcases hx with rfl | rfl
        · intro i hi; simp only [SV.ids, List.mem_singleton] at hi; subst hi; rw [r0]; rfl
        · intro i hi; simp only [SV.ids, List.mem_singleton] at hi; subst hi; rw [r2]; rfl) (fun _ _ => rfl) htk
    obtain ⟨Tx, htx, hTx⟩ := ((held 0 _ _ rfl rfl).1).tree st1.rel
    obtain ⟨Ty, hty, hTy⟩ := ((held 1 _ _ rfl rfl).1).tree st1.rel
    simp only [Nat.zero_add] at hTx hTy
    have hlx : Tx.lab = some (.t 0, []) := by
      rcases hTx with ⟨e1, _⟩ | ⟨_, rfl⟩
      · cases e1
      · rfl
    have hly : Ty.lab = some (.t 1, []) := by
      rcases hTy with ⟨e1, _⟩ | ⟨_, rfl⟩
      · cases e1
      · rfl
    obtain ⟨olds, os1, os2, os3, _, os4, ad, cap, osu, osc, osm, osb, _⟩ := sl_cells htx
    obtain ⟨news, ns1, ns2, ns3, _, ns4, ady, capy, nsu, nsc, nsm, nsb, _⟩ := sl_cells hty
    simp only [List.length_nil, Nat.add_zero, List.length_cons, Nat.zero_add, Nat.one_mul] at osc ns1 nsc nsu
    have nsu : v2 = .slice ady 1 capy := nsu
    obtain ⟨vb, curv, ev, ny1, ny2, ny3, ny4, ny5⟩ := nsb _ hly (by omega)
    subst ny1 nsu osu
    have hblk : ∃ b cur e', 0 < cap → ad = some ⟨b, 0, none⟩ ∧ home1 b = some (.t 0, []) ∧ w.heap[b]? = some (.cells cur e' (0, 0)) ∧ cur.size = cap * 8 ∧ ∀ (k : Nat) v, olds[k]? = some v → cur[k]? = some v := by
      by_cases hc : 0 < cap
      · obtain ⟨b, cur, e', k⟩ := osb _ hlx hc
        exact ⟨b, cur, e', fun _ => k⟩
      · exact ⟨0, #[], 0, fun h => absurd h hc⟩
    obtain ⟨b, cur, e', hbk⟩ := hblk
    have hM : maxLen = 9223372036854775807 := rfl
    have hnc : es.length ≤ cap := osc
    have hchk : (match Go.Proofs.Tryz.prog.info? 39 with | some i => i.zero.isSome && i.size == 8 && i.bytes == 120 && (i.zero.getD default).cells.size == 8 | none => false) = true := by kernel_rfl
    obtain ⟨i0, hi0, hz⟩ : ∃ i0, Go.Proofs.Tryz.prog.info? 39 = some i0 ∧ i0.zero.isSome = true ∧ i0.size = 8 ∧ i0.bytes = 120 ∧ (i0.zero.getD default).cells.size = 8 := by
      split at hchk
      · rename_i i0 hi0
        simp only [Bool.and_eq_true, beq_iff_eq] at hchk
        exact ⟨i0, hi0, hchk.1.1.1, hchk.1.1.2, hchk.1.2, hchk.2⟩
      · cases hchk
    obtain ⟨z1, z2, z3, z4⟩ := hz
    obtain ⟨z, hz0⟩ := Option.isSome_iff_exists.1 z1
    rw [hz0] at z4
    simp only [Option.getD_some] at z4
    have ht : Go.Proofs.Tryz.prog.underlying 23 = some (.slice 39) := by kernel_rfl
    have hvb : ∀ (j : Nat) u, news[j]? = some u → w.cell? ⟨vb, j, none⟩ = some u := fun j u hj => by rw [cell_row ny3]; exact ny5 j u hj
    have hrows : ∀ (j : Nat), (olds.take (i * 8) ++ news ++ olds.drop (i * 8))[j]? = if j < i * 8 then olds[j]? else if j < (i + 1) * 8 then news[j - i * 8]? else olds[j - 8]? := by
      intro j
      have hl : (olds.take (i * 8)).length = i * 8 := by rw [List.length_take, os1]; omega
      rw [getElem?_three, hl, ns1]
      by_cases h1 : j < i * 8
      · rw [if_pos h1, if_pos h1, List.getElem?_take_of_lt h1]
      · rw [if_neg h1, if_neg h1]
        by_cases h2 : j < (i + 1) * 8
        · rw [if_pos h2, if_pos (by omega)]
        · rw [if_neg h2, if_neg (by omega), List.getElem?_drop]
          exact congrArg (fun k => olds[k]?) (by omega)
    have hbody : ∃ v' w2, InsEnd w (olds.take (i * 8) ++ news ++ olds.drop (i * 8)) (es.length + 1) home1 v' w2 ∧ Calls Go.Proofs.Tryz.prog 57 #[.slice ad es.length cap, .int .i64 i, .slice (some ⟨vb, 0, none⟩) 1 capy] w (fun e w1 => e = .returned v' ∧ w1 = w2) := by
      by_cases hend : i = es.length
      · subst hend
        have hall : olds.take (es.length * 8) ++ news ++ olds.drop (es.length * 8) = olds ++ news := by
          rw [List.take_of_length_le (by omega), List.drop_eq_nil_of_le (by omega), List.append_nil]
        have hsrc : ∀ w1 : World, w1.heap = w.heap → (Builtin.firstCells i0.size 1 (.slice (some ⟨vb, 0, none⟩) 1 capy)).run Go.Proofs.Tryz.prog w1 = .ok news.toArray w1 := by
          intro w1 hw1
          refine run_firstCells_some w1 i0.size 1 ⟨vb, 0, none⟩ 1 capy news (by rw [z2, ns1]) (fun j u hj => ?_)
          rw [addr_add, Nat.zero_add]
          have := hvb j u hj
          simpa [World.cell?, hw1] using this
        have hold : ∀ (j : Nat) u, olds[j]? = some u → cur[j]? = some u := by
          intro j u hj
          have : 0 < cap := by
            have := (List.getElem?_eq_some_iff.1 hj).1
            omega
          exact (hbk this).2.2.2.2 j u hj
        have happ := fun ty => run_append (P := Go.Proofs.Tryz.prog) (w := w) (t := 23) (t2 := 23) (ty := ty) ht (Or.inr ⟨39, ht⟩) hi0 hz0 (by rw [z4, z2]) (ad := ad) (n := es.length) (cap := cap) (by omega) (b := b) (cur := cur) (e' := e') (fun h0 => ⟨(hbk h0).1, (hbk h0).2.2.1, by rw [z2]; exact (hbk h0).2.2.2.1⟩) (olds := olds) (by rw [z2]; exact os1) hold
          (yv := .slice (some ⟨vb, 0, none⟩) 1 capy) (m := 1) (news := news) (by rw [z2, ns1]) rfl hsrc ns2 (by rw [z3]; omega) (by omega)
        obtain ⟨v', w2, hrun, hcases⟩ := happ 0
        have hrun' : ∀ ty, (Builtin.append_ #[23, 23] ty #[.slice ad es.length cap, .slice (some ⟨vb, 0, none⟩) 1 capy]).run Go.Proofs.Tryz.prog w = .ok v' w2 := fun ty => hrun
        refine ⟨v', w2, ?_, ins_end ad es.length cap vb capy w w2 v' hrun' (by omega) (by omega) (fun h => ?_)⟩
        · rw [hall]
          rw [z2] at hcases
          rcases hcases with ⟨c1, _⟩ | ⟨c1, c2, rfl, rfl⟩ | ⟨cap', c1, c2, c3, rfl, rfl⟩
          · omega
          · obtain ⟨had, hhb, hg, hcs, hcell⟩ := hbk c2
            subst had
            have hle : es.length * 8 + news.length ≤ cur.toList.length := by
              have hsz : cur.toList.length = cur.size := Array.length_toList
              rw [ns1, hsz, hcs]; omega
            obtain ⟨r1, r2⟩ := setRow_step_heap (w := w) (cs := (cur.toList.take (es.length * 8) ++ news ++ cur.toList.drop (es.length * 8 + news.length)).toArray) hg
            refine ⟨b, cap, _, _, rfl, c1, osm, r1, by rw [List.size_toArray, splice_len hle]; simpa using hcs, fun j u hj => ?_, fun b' _ hne => r2 b' hne, fun _ => hhb, rfl, rfl, rfl, by simp⟩
            rw [List.getElem?_toArray, splice_get hle]
            by_cases hjj : j < olds.length
            · rw [List.getElem?_append_left hjj] at hj
              rw [if_neg (by rw [os1] at hjj; omega)]
              have := hold j u hj
              simpa using this
            · rw [List.getElem?_append_right (by omega)] at hj
              have hlt := (List.getElem?_eq_some_iff.1 hj).1
              rw [os1] at hjj hj hlt
              rw [if_pos ⟨by omega, by omega⟩]
              exact hj
          · have hg := heap_alloc_new w.drew (.cells (olds.toArray ++ news.toArray ++ Builtin.zeroCells z.cells (cap' - (es.length + 1))) 39)
            refine ⟨w.heap.size, cap', _, _, rfl, c2, c3, hg, ?_, fun j u hj => ?_, fun b' hb' _ => heap_alloc_old w.drew _ hb', fun h => by omega, rfl, rfl, rfl, Nat.le_of_lt (heap_lt hg)⟩
            · simp only [Array.size_append, List.size_toArray, size_zeroCells, z4, os1, ns1]; omega
            · rw [Array.getElem?_append_left (by have := (List.getElem?_eq_some_iff.1 hj).1; simpa using this)]
              simpa using hj
        · subst h
          apply Nat.eq_zero_of_not_pos
          intro h0
          cases (hbk h0).1
      · have hil : i < es.length := by omega
        obtain ⟨had, hhb, hg, hcs, hcell⟩ := hbk (by omega)
        subst had
        have hcc : ∀ (j : Nat) u, olds[j]? = some u → w.cell? ⟨b, j, none⟩ = some u := fun j u hj => by rw [cell_row hg]; exact hcell j u hj
        have hne : vb ≠ b := fun e => by subst e; rw [hhb] at ny2; cases ny2
        have hdl : (olds.drop (i * 8)).length = (es.length - i) * 8 := by rw [List.length_drop, os1]; omega
        by_cases hroom : es.length + 1 ≤ cap
        · have hc := ins_shift b es.length cap i vb capy olds news w hil hroom (by omega) hne os1 ns1 hcc (fun j hj => by rw [cell_row hg, Array.getElem?_eq_getElem (by omega)]; rfl) (fun j => frozen_row hg) hvb os2 ns2 _ _ _ _ (shape_row ny3) (shape_row hg) (by omega) (frozen_row ny3) (frozen_row ny3)
          obtain ⟨c1, g1, g2, g3, g4, g5, g6, g7, g8⟩ := setCells_heap b (olds.drop (i * 8)) ((i + 1) * 8) w.drew cur e' hg (by rw [hdl, hcs]; omega)
          obtain ⟨c2, f1, f2, f3, f4, f5, f6, f7, f8⟩ := setCells_heap b news (i * 8) _ c1 e' g1 (by rw [g2, ns1, hcs]; omega)
          refine ⟨_, _, ⟨b, cap, c2, e', rfl, hroom, osm, f1, by rw [f2, g2, hcs], fun j u hj => ?_, fun b' _ hb => (f4 b' hb).trans (g4 b' hb), fun _ => hhb, f6.trans g6, f7.trans g7, f8.trans g8, by rw [f5, g5]; exact Nat.le_refl _⟩, hc⟩
          rw [hrows] at hj
          rw [f3, g3, ns1, hdl]
          by_cases h1 : j < i * 8
          · rw [if_pos h1] at hj
            rw [if_neg (by omega), if_neg (by omega)]
            exact hcell j u hj
          · rw [if_neg h1] at hj
            by_cases h2 : j < (i + 1) * 8
            · rw [if_pos h2] at hj
              rw [if_pos (by omega)]
              exact hj
            · rw [if_neg h2] at hj
              have := (List.getElem?_eq_some_iff.1 hj).1
              rw [if_neg (by omega), if_pos (by omega), List.getElem?_drop, show i * 8 + (j - (i + 1) * 8) = j - 8 by omega]
              exact hj
        · have hc := ins_grow b es.length cap i vb capy olds news w hil hnc (by omega) (by omega) os1 ns1 hcc (heap_lt hg) (heap_lt ny3) hvb os2 ns2 z i0 hi0 hz0 z3 z4
          obtain ⟨G, hG⟩ : ∃ G, G = grownCap w (es.length + 1) cap 39 := ⟨_, rfl⟩
          rw [← hG] at hc
          have hGn : es.length + 1 ≤ G := by rw [hG]; exact grownCap_ge w _ _ _
          have hG63 : G ≤ maxLen := by
            have := grownCap_le_maxLen w (es.length + 1) cap 39 (by unfold maxLen; omega)
            rw [← hG] at this
            exact this
          obtain ⟨ROW, hROW⟩ : ∃ ROW : Array Value, ROW = (olds.take (i * 8)).toArray ++ Builtin.zeroCells z.cells (es.length + 1 - i) ++ Builtin.zeroCells z.cells (G - (es.length + 1)) := ⟨_, rfl⟩
          rw [← hROW] at hc
          have hRl : ROW.size = G * 8 := by
            rw [hROW]
            simp only [Array.size_append, List.size_toArray, List.length_take, size_zeroCells, z4, os1]
            omega
          have hn0 := heap_alloc_new w (.cells ROW 39)
          have hn1 : (w.alloc (.cells ROW 39)).drew.heap[w.heap.size]? = some (.cells ROW 39 (0, 0)) := hn0
          obtain ⟨c1, g1, g2, g3, g4, g5, g6, g7, g8⟩ := setCells_heap w.heap.size news (i * 8) (w.alloc (.cells ROW 39)).drew ROW 39 hn1 (by rw [ns1, hRl]; omega)
          have g1' : ((w.alloc (.cells ROW 39)).drew.setCells w.heap.size (i * 8) news).drew.heap[w.heap.size]? = some (.cells c1 39 (0, 0)) := g1
          obtain ⟨c2, f1, f2, f3, f4, f5, f6, f7, f8⟩ := setCells_heap w.heap.size (olds.drop (i * 8)) ((i + 1) * 8) _ c1 39 g1' (by rw [g2, hdl, hRl]; omega)
          refine ⟨_, _, ⟨w.heap.size, G, c2, 39, rfl, hGn, hG63, f1, by rw [f2, g2, hRl], fun j u hj => ?_, fun b' hb' hb => (f4 b' hb).trans ((g4 b' hb).trans (heap_alloc_old w _ hb')), fun h => by omega, f6.trans g6, f7.trans g7, f8.trans g8, ?_⟩, hc⟩
          · rw [hrows] at hj
            rw [f3, g3, ns1, hdl]
            by_cases h1 : j < i * 8
            · rw [if_pos h1] at hj
              rw [if_neg (by omega), if_neg (by omega), hROW]
              have hlt : j < (olds.take (i * 8)).length := by rw [List.length_take, os1]; omega
              rw [Array.append_assoc, Array.getElem?_append_left (by simpa using hlt), List.getElem?_toArray, List.getElem?_take_of_lt h1]
              exact hj
            · rw [if_neg h1] at hj
              by_cases h2 : j < (i + 1) * 8
              · rw [if_pos h2] at hj
                rw [if_neg (by omega), if_pos (by omega)]
                exact hj
              · rw [if_neg h2] at hj
                have := (List.getElem?_eq_some_iff.1 hj).1
                rw [if_pos (by omega), List.getElem?_drop, show i * 8 + (j - (i + 1) * 8) = j - 8 by omega]
                exact hj
          · rw [f5]
            show w.heap.size ≤ ((w.alloc (.cells ROW 39)).drew.setCells w.heap.size (i * 8) news).heap.size
            rw [g5]
            exact Nat.le_of_lt (heap_lt hn1)
    obtain ⟨v', w2, ⟨B, cap', cur', e1, rfl, p1, p2, p3, p4, p5, p6, p7, p8, p9, p10, p11⟩, hcalls⟩ := hbody
    let g : Nat → Path → Option Path := fun m q => match m, q with
      | 0, (a, j) :: q => some ((if a < i then a else a + 1, j) :: q)
      | 1, (a, j) :: q => some ((i + a, j) :: q)
      | _, _ => none
    obtain ⟨rows, hrw⟩ : ∃ rows, rows = olds.take (i * 8) ++ news ++ olds.drop (i * 8) := ⟨_, rfl⟩
    rw [← hrw] at p5 hrows
    obtain ⟨new, hnew⟩ : ∃ new, new = es.take i ++ [e] ++ es.drop i := ⟨_, rfl⟩
    have hnl : new.length = es.length + 1 := by rw [hnew]; simp; omega
    have hng : ∀ a, new[a]? = if a < i then es[a]? else if a = i then some e else es[a - 1]? := by
      intro a
      rw [hnew, getElem?_three, List.length_take, Nat.min_eq_left hi]
      by_cases h1 : a < i
      · rw [if_pos h1, if_pos h1, List.getElem?_take_of_lt h1]
      · rw [if_neg h1, if_neg h1]
        by_cases h2 : a = i
        · rw [if_pos h2, if_pos (by simp; omega), h2, Nat.sub_self]; rfl
        · rw [if_neg h2, if_neg (by simp; omega), List.getElem?_drop]
          exact congrArg (fun k => es[k]?) (by simp; omega)
    have helen : ∀ x ∈ new, x.length = 8 := by
      intro x hx
      rw [hnew] at hx
      simp only [List.mem_append, List.mem_singleton] at hx
      rcases hx with (hx | hx) | hx
      · exact os3 x (List.mem_of_mem_take hx)
      · rw [hx]; exact ns3 e (by simp)
      · exact os3 x (List.mem_of_mem_drop hx)
    have hcr : CR w2 (asmHome home1 0 64000 (some B) g) (arrTg true (.r 64000)) (.sl 8 new []) (.slice (some ⟨B, 0, none⟩) (es.length + 1) cap') := by
      have himm : ∀ b', b' < w.heap.size → home1 b' = none → w2.heap[b']? = w.heap[b']? ∧ asmHome home1 0 64000 (some B) g b' = none := by
        intro b' hb' hn
        have hne : b' ≠ B := fun e => by subst e; rw [p7 hb'] at hn; cases hn
        exact ⟨p6 b' hb' hne, asmHome_none (by simp [hne]) hn⟩
      have hval : ∀ a j x c, new[a]? = some x → x[j]? = some c → ∃ v, rows[a * 8 + j]? = some v ∧ CR w2 (asmHome home1 0 64000 (some B) g) ((arrTg true (.r 64000)).ext a j) c v := by
        intro a j x c h1 h2
        have hj : j < 8 := by rw [← helen x (List.mem_of_getElem? h1)]; exact (List.getElem?_eq_some_iff.1 h2).1
        rw [hng] at h1
        rw [hrows]
        have hown : ∀ m a0 a1, (∀ q, g m ((a0, j) :: q) = some ((a1, j) :: q)) → ∀ q' b', b' < w.heap.size → home1 b' = some (.t m, (a0, j) :: q') → w2.heap[b']? = w.heap[b']? ∧ asmHome home1 0 64000 (some B) g b' = if true = true then some (.r 64000, (a1, j) :: q') else none := by
          intro m a0 a1 hg' q' b' hb' hl
          have hne : b' ≠ B := fun e => by
            subst e
            rw [p7 hb'] at hl
            injection hl with hl
            injection hl with _ hl
            cases hl
          refine ⟨p6 b' hb' hne, ?_⟩
          rw [asmHome_t (by simp [hne]) hl (Nat.zero_le _), hg']
          rfl
        by_cases c1 : a < i
        · rw [if_pos c1] at h1
          rw [if_pos (by omega)]
          obtain ⟨v, k1, k2⟩ := os4 a j x c h1 h2
          exact ⟨v, k1, elem_goes (D := true) hTx k2 (fun _ => rfl) himm (hown 0 a a (fun q => by simp [g, c1]))⟩
        · rw [if_neg c1] at h1
          by_cases c2 : a = i
          · rw [if_pos c2] at h1
            injection h1 with h1
            subst h1 c2
            rw [if_neg (by omega), if_pos (by omega), show a * 8 + j - a * 8 = 0 * 8 + j by omega]
            obtain ⟨v, k1, k2⟩ := ns4 0 j e c rfl h2
            exact ⟨v, k1, elem_goes (D := true) hTy k2 (fun _ => rfl) himm (hown 1 0 a (fun q => by simp [g]))⟩
          · rw [if_neg c2] at h1
            rw [if_neg (by omega), if_neg (by omega), show a * 8 + j - 8 = (a - 1) * 8 + j by omega]
            obtain ⟨v, k1, k2⟩ := os4 (a - 1) j x c h1 h2
            exact ⟨v, k1, elem_goes (D := true) hTx k2 (fun _ => rfl) himm (hown 0 (a - 1) a (fun q => by
              have : ¬ (a - 1 < i) := by omega
              simp only [g, if_neg this, show a - 1 + 1 = a by omega]))⟩
      have hd' : Hdr w2 (asmHome home1 0 64000 (some B) g) (arrTg true (.r 64000)) (.slice (some ⟨B, 0, none⟩) (es.length + 1) cap') (es.length + 1) (es.length + 1) 8 (fun a j => rows.getD (a * 8 + j) undef) := by
        refine Hdr.new (t := arrTg true (.r 64000)) rfl (by decide) p1 p2 asmHome_B p3 p4 (fun a j ha hj => ?_)
        have hlt : a < new.length := by omega
        have hx := helen _ (List.getElem_mem hlt)
        obtain ⟨v, k1, _⟩ := hval a j new[a] _ (List.getElem?_eq_getElem hlt) (List.getElem?_eq_getElem (by omega))
        rw [p5 _ _ k1]
        simp [List.getD_eq_getElem?_getD, k1]
      refine .sl (fun a j => rows.getD (a * 8 + j) undef) (by rw [List.append_nil]; exact helen) ?_ (fun a j x c h1 h2 => ?_)
      · rw [List.length_nil, Nat.add_zero, hnl]
        exact hd'
      · rw [List.append_nil] at h1
        obtain ⟨v, k1, k2⟩ := hval a j x c h1 h2
        have : rows.getD (a * 8 + j) undef = v := by simp [List.getD_eq_getElem?_getD, k1]
        simp only [this]
        exact k2
    have hn2 : upd (upd rt 0 .gone) 128 .gone 64000 = none := by rw [updF_ne _ _ (by decide), updF_ne _ _ (by decide)]; exact r3
    have s2 := assemble (w' := w2) st1.rel hn2 (by decide) (k0 := 0) (B := some B) g
      (fun b' hb' => by injection hb' with hb'; subst hb'; exact ⟨heap_lt p3, fun h => ⟨0, [], Nat.zero_le _, p7 h⟩⟩) (fun b' hb' hne => p6 b' hb' (fun e => hne (by rw [e]))) p8 p9 p10 p11 hcr
    have hF0 : asmF F1 0 = F0 := by funext j; simp [asmF, F0]
    rw [hF0] at s2
    have st := st1.trans s2
    have hfr : FrR ids w2 (asmHome home1 0 64000 (some B) g) (updL hd1 (.r 64000) (.slice (some ⟨B, 0, none⟩) (es.length + 1) cap')) 7 ⟨asl [(6, .sv (.ref 64000 [] 0 (es.length + 1)))], upd (upd (upd rt 0 .gone) 128 .gone) 64000 (.arr true false (.sl 8 new [])), [0, 128]⟩
        { tmps := #[undef, undef, undef, undef, undef, undef, .slice (some ⟨B, 0, none⟩) (es.length + 1) cap'], defers := [] } := by
      refine ⟨st.rel, fun t av hav => ?_, rfl, rfl⟩
      have e6 : asl [(6, AV.sv (.ref 64000 [] 0 (es.length + 1)))] t = if t = 6 then some (AV.sv (.ref 64000 [] 0 (es.length + 1))) else none := by simp
      have hav : asl [(6, AV.sv (.ref 64000 [] 0 (es.length + 1)))] t = some av := hav
      rw [e6] at hav
      split at hav
      · rename_i e0
        subst e0
        injection hav with hav
        subst hav
        refine ⟨.slice (some ⟨B, 0, none⟩) (es.length + 1) cap', rfl, new_ref (w := w2) (home := asmHome home1 0 64000 (some B) g) (rt := upd (upd rt 0 .gone) 128 .gone) (id := 64000) (d := true) (c := .sl 8 new []) (updL_same hd1 (.r 64000) (.slice (some ⟨B, 0, none⟩) (es.length + 1) cap')) p1, fun j hj => ?_⟩
        simp only [AV.ids, A1.ids, SV.ids, List.mem_singleton] at hj
        subst hj
        show (upd (upd (upd rt 0 .gone) 128 .gone) 64000 (.arr true false (.sl 8 new [])) 64000).isSome = true
        rw [updF_same]; rfl
      · cases hav
    have hfin : finish ⟨3, 7, .skip, [.t 6]⟩ ⟨asl [(6, .sv (.ref 64000 [] 0 (es.length + 1)))], upd (upd (upd rt 0 .gone) 128 .gone) 64000 (.arr true false (.sl 8 new [])), [0, 128]⟩ = some ⟨[.s (.mk .deep (.sl 8 new []))], [none, none]⟩ := by
      have ht' : new.take (es.length + 1) = new := List.take_of_length_le (by omega)
      have hd' : new.drop (es.length + 1) = [] := List.drop_eq_nil_of_le (by omega)
      simp [finish, hnl, ht', hd']
    obtain ⟨us, hrun, home2, hd2, F', hret⟩ := finish_ok (P := Go.Proofs.Tryz.prog) st.grow hfr (fn := Go.Proofs.Tryz.f57) (by kernel_rfl) hfin
    have hv : retV us = .slice (some ⟨B, 0, none⟩) (es.length + 1) cap' := by
      have : (Go.results Go.Proofs.Tryz.f57 #[undef, undef, undef, undef, undef, undef, .slice (some ⟨B, 0, none⟩) (es.length + 1) cap']).run Go.Proofs.Tryz.prog w2 = .ok (.slice (some ⟨B, 0, none⟩) (es.length + 1) cap') w2 := by
        have hres : Go.Proofs.Tryz.f57.results = #[.tmp 6] := by kernel_rfl
        unfold Go.results
        rw [hres]
        simp [resOne]
      rw [this] at hrun
      injection hrun with h1 _
      exact h1.symm
    rw [← hnew]
    refine Or.inl ⟨?_, hcalls.mono ?_⟩
    · unfold callFunc
      simp only [Sem.run_bind, run_program, Result.andThen_ok, Go.Proofs.Tryz.func57]
      rfl
    · rintro e w1 ⟨rfl, rfl⟩
      exact ⟨_, rfl, home2, hd2, F', us, hv.symm, hret⟩
end Go.Proofs.YtecmolmlojehgaaGreat.T
namespace Go.Proofs.YtecmolmlojehgaaGreat.T
open Go
theorem hand_ok (f : Nat) (args : List Arg) (r : Res) (h : handF f args = some r) : Sat ids Go.Proofs.Tryz.prog (ids f) args r := by
  refine ok_nil hands ids f h ?_
  intro x hx
  simp only [hands, List.mem_cons, List.not_mem_nil, or_false] at hx
  rcases hx with rfl | rfl | rfl | rfl
  · show ∀ args r, _ → Sat ids Go.Proofs.Tryz.prog (ids n_slices_Insert_SimplEntryimplEntry) args r
    rw [show ids n_slices_Insert_SimplEntryimplEntry = 57 by kernel_rfl]
    exact ok_insert (fun es e i h1 h2 => sat_insert es e i h1 h2)
  · show ∀ args r, _ → Sat ids Go.Proofs.Tryz.prog (ids n_slices_Clone_SimplTermimplTerm) args r
    rw [show ids n_slices_Clone_SimplTermimplTerm = 138 by kernel_rfl]
    exact ok_clone (fun es sp h => sat_clone (sz := 4) (bytes := 32) (fn := Go.Proofs.Tryz.f138) (by kernel_rfl) (by kernel_rfl) rfl rfl rfl rfl rfl rfl rfl rfl ⟨105, by kernel_rfl⟩ (by kernel_rfl) (by kernel_rfl) (by kernel_rfl) (by kernel_rfl) (by decide) (by decide) es sp h)
  · show ∀ args r, _ → Sat ids Go.Proofs.Tryz.prog (ids n_slices_Clone_Sintint) args r
    rw [show ids n_slices_Clone_Sintint = 139 by kernel_rfl]
    exact ok_clone (fun es sp h => sat_clone (sz := 1) (bytes := 8) (fn := Go.Proofs.Tryz.f139) (by kernel_rfl) (by kernel_rfl) rfl rfl rfl rfl rfl rfl rfl rfl ⟨3, by kernel_rfl⟩ (by kernel_rfl) (by kernel_rfl) (by kernel_rfl) (by kernel_rfl) (by decide) (by decide) es sp h)
  · show ∀ args r, _ → Sat ids Go.Proofs.Tryz.prog (ids n_bytealg_abigen_runtime_cmpstring) args r
    rw [show ids n_bytealg_abigen_runtime_cmpstring = 162 by kernel_rfl]
    exact ok_cmp (fun a b => sat_cmp (fn := Go.Proofs.Tryz.f162) (by kernel_rfl) (by kernel_rfl) (by kernel_rfl) (by kernel_rfl) (by kernel_rfl) a b)
theorem L_sat {f : Nat} {args : List Arg} {r : Res} (h : L0 f args = some r) : Sat ids Go.Proofs.Tryz.prog (ids f) args r := by
  obtain ⟨m, hm⟩ := L_den.1 h
  exact den_ok (pp := prog handF) (fun i pf h => tab_ok i pf h) (fun f args r _ h => hand_ok f args r h) m f args r (hm m (Nat.le_refl _))
end Go.Proofs.YtecmolmlojehgaaGreat.T
namespace Go.Proofs.YtecmolmlojehgaaGreat.T
open Go
theorem pickL {α : Type} {Q : Nat → α → Prop} : ∀ {n : Nat}, (∀ i, i < n → ∃ x, Q i x) → ∃ xs : List α, xs.length = n ∧ ∀ i x, xs[i]? = some x → Q i x
  | 0, _ => ⟨[], rfl, fun i x h => by simp at h⟩
  | n + 1, h => by
    obtain ⟨xs, h1, h2⟩ := pickL (n := n) (Q := Q) (fun i hi => h i (by omega))
    obtain ⟨x, hx⟩ := h n (by omega)
    refine ⟨xs ++ [x], by simp [h1], fun i y hy => ?_⟩
    by_cases hi : i < n
    · rw [List.getElem?_append_left (by omega)] at hy
      exact h2 i y hy
    · rw [List.getElem?_append_right (by omega)] at hy
      have e : i = n := by
        have := (List.getElem?_eq_some_iff.1 hy).1
        simp at this
        omega
      subst e
      rw [h1, Nat.sub_self, List.getElem?_cons_zero, Option.some.injEq] at hy
      subst hy
      exact hx
def home0 : Home := fun _ => none
section
variable {H : Type} {enc : TypeId × Value → H} {P : Program} {w : World}
/-- A slice, read: its header and its elements' cells. -/
def RowR {α : Type} (w : World) (sz : Nat) (Q : List Value → α → Prop) (r : Row α) (u : Value) : Prop :=
  ∃ a cap, u = .slice a r.es.length cap ∧ r.es.length + r.sp.length ≤ cap ∧ cap ≤ maxLen ∧ ∀ i, i < r.es.length + r.sp.length → ∃ b o ci x, a = some ⟨b, o, none⟩ ∧ (r.es ++ r.sp)[i]? = some x ∧ Q ci x ∧ ci.length = sz ∧ ∀ j, j < sz → w.cell? ⟨b, o + (i * sz + j), none⟩ = ci[j]?
theorem read_row {t e : TypeId} {sz : Nat} (ht : P.underlying t = some (.slice e)) (hc : P.cellsOf e = sz) (hsz : 0 < sz) {α : Type} {Q : List Value → α → Prop} (hel : ∀ n cs y, DataW.trod enc P w 0 (fun _ => true) true n e cs = some y → ∃ x, Q cs x)
    {fuel : Nat} {cs : List Value} {x : DataW H × List MemPlace} (h : DataW.trod enc P w 0 (fun _ => true) true fuel t cs = some x) :
    ∃ (r : Row α) (u : Value), cs = [u] ∧ RowR w sz Q r u ∧ ((x.1 = .nil ∧ r.es = []) ∨ ∃ A B, x.1 = .slice A B ∧ A.length = r.es.length) := by
  rcases DataW.trod_slice ht h with ⟨rfl, rfl⟩ | ⟨a, len, cap, elems, rest, n, _, rfl, rfl, hb, hl, hm, hlen, hel1, hsp, _⟩
  · exact ⟨⟨[], [], by simp⟩, _, rfl, ⟨none, 0, rfl, Nat.le_refl _, Nat.zero_le _, fun i hi => by simp at hi⟩, Or.inl ⟨rfl, rfl⟩⟩
  · obtain ⟨hrl, hr⟩ := hsp rfl
    have each : ∀ i, i < cap → ∃ x, ∃ ci, Q ci x ∧ w.cells? 0 (a.add (i * P.cellsOf e)) (P.cellsOf e) = some ci := by
      intro i hi
      have hb' : ∃ y, (w.cells? 0 (a.add (i * P.cellsOf e)) (P.cellsOf e)).bind (DataW.trod enc P w 0 (fun _ => true) true n e) = some y := by
        by_cases hlt : i < len
        · rw [hel1 i hlt]
          exact ⟨_, List.getElem?_eq_getElem (by omega)⟩
        · have := hr (i - len) (by omega)
          rw [show len + (i - len) = i by omega] at this
          rw [this]
          exact ⟨_, List.getElem?_eq_getElem (by omega)⟩
      obtain ⟨y, hy⟩ := hb'
      rw [Option.bind_eq_some_iff] at hy
      obtain ⟨ci, h1, h2⟩ := hy
      obtain ⟨x, hx⟩ := hel n ci y h2
      exact ⟨x, ci, hx, h1⟩
    obtain ⟨xs, hx1, hx2⟩ := pickL each
    have spot : 0 < cap → a.spot = none := by
      intro h0
      obtain ⟨x, ci, _, h2⟩ := each 0 h0
      obtain ⟨_, g1, g2⟩ := World.cells?_some h2
      rw [hc] at g1 g2
      have := g2 0 hsz
      rw [List.getElem?_eq_getElem (by omega)] at this
      have e : (a.add (0 * sz)).add 0 = a := by simp [Addr.add]
      rw [e] at this
      unfold World.cell? at this
      split at this
      · split at this
        · cases this
        · rename_i hn
          cases h : a.spot with
          | none => rfl
          | some _ => rw [h] at hn; simp at hn
      · cases this
    have hM : maxLen = 9223372036854775807 := rfl
    refine ⟨⟨xs.take len, xs.drop len, by simp; omega⟩, _, rfl, ⟨some a, cap, ?_, ?_, hm, ?_⟩, Or.inr ⟨_, _, rfl, ?_⟩⟩
    · simp only [List.length_take]; congr 1; omega
    · simp; omega
    · intro i hi
      have hi' : i < xs.length := by simp at hi; omega
      obtain ⟨ci, h1, h2⟩ := hx2 i xs[i] (List.getElem?_eq_getElem hi')
      obtain ⟨_, g1, g2⟩ := World.cells?_some h2
      rw [hc] at g1 g2
      have hs := spot (by omega)
      obtain ⟨b, o, s⟩ := a
      have hs : s = none := hs
      subst hs
      refine ⟨b, o, ci, xs[i], rfl, ?_, h1, g1, fun j hj => ?_⟩
      · rw [List.take_append_drop]; exact List.getElem?_eq_getElem hi'
      · rw [← g2 j hj]
        have eb : ∀ (x y k : Nat), (⟨x, y, none⟩ : Addr).add k = ⟨x, y + k, none⟩ := by
          intro x y k
          unfold Addr.add
          split
          · rename_i h0; rw [h0]; rfl
          · rfl
        rw [eb, eb, Nat.add_assoc]
    · simp [hlen]; omega
theorem row_fl {α : Type} {sz : Nat} {Q : List Value → α → Prop} {r : Row α} {u : Value} (h : RowR w sz Q r u) (hsz : 0 < sz) (f : α → List Value) (hf : ∀ cs x, Q cs x → cs = f x ∧ ∀ v ∈ f x, v.oneCell' = true) : CR w home0 .imm (.fl sz (r.es.map f) (r.sp.map f)) u := by
  obtain ⟨a, cap, hu, h1, h2, h3⟩ := h
  refine .fl ?_ ⟨hsz, by simp, a, cap, by simp [hu], by simpa using h1, h2, ?_⟩
  · intro e he
    rw [← List.map_append, List.mem_map] at he
    obtain ⟨x, hx, rfl⟩ := he
    obtain ⟨i, hi⟩ := List.getElem?_of_mem hx
    obtain ⟨b, o, ci, y, _, g1, g2, g3, _⟩ := h3 i (by have := (List.getElem?_eq_some_iff.1 hi).1; simpa using this)
    rw [hi, Option.some.injEq] at g1
    subst g1
    obtain ⟨e1, e2⟩ := hf ci x g2
    exact ⟨by rw [← e1]; exact g3, e2⟩
  · show ∀ i j, _ → _ → _
    intro i j hi hj
    obtain ⟨b, o, ci, y, g0, g1, g2, g3, g4⟩ := h3 i (by simpa using hi)
    refine ⟨b, o, g0, rfl, ?_⟩
    rw [g4 j hj]
    obtain ⟨e1, _⟩ := hf ci y g2
    subst e1
    have e3 : (r.es.map f ++ r.sp.map f)[i]? = some (f y) := by rw [← List.map_append, List.getElem?_map, g1]; rfl
    simp [List.getD, e3, List.getElem?_eq_getElem (show j < (f y).length by omega)]
theorem row_sl {α : Type} {sz : Nat} {Q : List Value → α → Prop} {r : Row α} {u : Value} (h : RowR w sz Q r u) (hsz : 0 < sz) (f : α → List C) (hf : ∀ cs x, Q cs x → (f x).length = sz ∧ ∀ (j : Nat) c, (f x)[j]? = some c → ∃ v, cs[j]? = some v ∧ CR w home0 .imm c v) : CR w home0 .imm (.sl sz (r.es.map f) (r.sp.map f)) u := by
  obtain ⟨a, cap, hu, h1, h2, h3⟩ := h
  have key : ∀ i, i < r.es.length + r.sp.length → ∃ (b o : Nat) (ci : List Value), a = some ⟨b, o, none⟩ ∧ ci.length = sz ∧ (∀ j, j < sz → w.cell? ⟨b, o + (i * sz + j), none⟩ = ci[j]?) ∧ ∃ e, (r.es.map f ++ r.sp.map f)[i]? = some e ∧ e.length = sz ∧ ∀ (j : Nat) c, e[j]? = some c → ∃ v, ci[j]? = some v ∧ CR w home0 .imm c v := by
    intro i hi
    obtain ⟨b, o, ci, y, g0, g1, g2, g3, g4⟩ := h3 i hi
    obtain ⟨e1, e2⟩ := hf ci y g2
    exact ⟨b, o, ci, g0, g3, g4, f y, by rw [← List.map_append, List.getElem?_map, g1]; rfl, e1, e2⟩
  refine .sl (fun i j => (w.cell? ⟨(a.getD default).block, (a.getD default).off + (i * sz + j), none⟩).getD undef) ?_ ⟨hsz, by simp, a, cap, by simp [hu], by simpa using h1, h2, ?_⟩ ?_
  · intro e he
    obtain ⟨i, hi⟩ := List.getElem?_of_mem he
    obtain ⟨_, _, _, _, _, _, e', h5, h6, _⟩ := key i (by have := (List.getElem?_eq_some_iff.1 hi).1; simpa using this)
    rw [hi, Option.some.injEq] at h5
    subst h5
    exact h6
  · show ∀ i j, _ → _ → _
    intro i j hi hj
    obtain ⟨b, o, ci, g0, g3, g4, _⟩ := key i (by simpa using hi)
    refine ⟨b, o, g0, rfl, ?_⟩
    subst g0
    simp only [Option.getD_some]
    rw [g4 j hj, List.getElem?_eq_getElem (by omega)]
    rfl
  · intro i j e c he hc
    obtain ⟨b, o, ci, g0, g3, g4, e', h5, h6, h7⟩ := key i (by have := (List.getElem?_eq_some_iff.1 he).1; simpa using this)
    rw [he, Option.some.injEq] at h5
    subst h5
    obtain ⟨v, k1, k2⟩ := h7 j c hc
    have hj : j < sz := by rw [← h6]; exact (List.getElem?_eq_some_iff.1 hc).1
    subst g0
    simp only [Option.getD_some]
    rw [g4 j hj, k1]
    exact k2
end
end Go.Proofs.YtecmolmlojehgaaGreat.T
namespace Go.Proofs.YtecmolmlojehgaaGreat.T
open Go
section
variable {H : Type} {enc : TypeId × Value → H} {P : Program} {w : World} {n : Nat} {cs : List Value} {y : DataW H × List MemPlace} {t e : TypeId}
/-- These cells hold these trees. -/
def CellsR (w : World) (cs : List Value) (xs : List C) : Prop := cs.length = xs.length ∧ ∀ (j : Nat) c, xs[j]? = some c → ∃ v, cs[j]? = some v ∧ CR w home0 .imm c v
abbrev trodE (enc : TypeId × Value → H) (P : Program) (w : World) : Nat → TypeId → List Value → Option (DataW H × List MemPlace) := DataW.trod enc P w 0 (fun _ => true) true
theorem cells_nil : CellsR w [] [] := ⟨rfl, fun j c h => by simp at h⟩
theorem cells_cons {v : Value} {c : C} {xs : List C} (h : CR w home0 .imm c v) (hs : CellsR w cs xs) : CellsR w (v :: cs) (c :: xs) := by
  refine ⟨by simp [hs.1], fun j d hd => ?_⟩
  cases j with
  | zero => simp at hd; subst hd; exact ⟨v, rfl, h⟩
  | succ j => simpa using hs.2 j d (by simpa using hd)
def fieldsOf (fs : Array Field) : List (TypeId × Nat) := fs.toList.map (fun f => (f.type, f.offset))
theorem read_field {fs : Array Field} (ht : P.underlying t = some (.struct fs)) (h : trodE enc P w n t cs = some y) : cs.length = P.cellsOf t ∧ ∀ (i : Nat) ty off, (fieldsOf fs)[i]? = some (ty, off) → ∃ k z, trodE enc P w k ty ((cs.drop off).take (P.cellsOf ty)) = some z := by
  obtain ⟨xs, k, _, _, h1, h2, h3⟩ := DataW.trod_struct ht h
  refine ⟨h1, fun i ty off hi => ?_⟩
  simp only [fieldsOf, List.getElem?_map, Option.map_eq_some_iff, Array.getElem?_toList] at hi
  obtain ⟨f, hf, e⟩ := hi
  simp only [Prod.mk.injEq] at e
  obtain ⟨rfl, rfl⟩ := e
  have hlt : i < xs.length := by rw [h2]; exact (Array.getElem?_eq_some_iff.1 hf).1
  exact ⟨k, xs[i], by rw [← List.getElem?_eq_getElem hlt]; exact h3 i f hf⟩
theorem read_int (ht : P.underlying t = some (.int .i64)) (h : trodE enc P w n t cs = some y) : ∃ k : Int, cs = [int k] := by
  obtain ⟨k, h1, _⟩ := DataW.trod_int ht h
  exact ⟨k, h1⟩
theorem read_ints (ht : P.underlying t = some (.slice e)) (he : P.underlying e = some (.int .i64)) (hc : P.cellsOf e = 1) (h : trodE enc P w n t cs = some y) : ∃ (a : Ints) (u : Value), cs = [u] ∧ CR w home0 .imm (cI a) u := by
  obtain ⟨a, u, h1, h2, _⟩ := read_row (Q := fun cs k => cs = eI k) ht hc (by decide) (fun n cs y h => read_int he h) h
  exact ⟨a, u, h1, row_fl h2 (by decide) eI (fun cs x hq => ⟨hq, fun v hv => by simp at hv; subst hv; rfl⟩)⟩
theorem list4 {α : Type} {l : List α} (h : l.length = 4) : ∃ a b c d, l = [a, b, c, d] := by
  match l, h with
  | [a, b, c, d], _ => exact ⟨a, b, c, d, rfl⟩
theorem list3 {α : Type} {l : List α} (h : l.length = 3) : ∃ a b c, l = [a, b, c] := by
  match l, h with
  | [a, b, c], _ => exact ⟨a, b, c, rfl⟩
theorem list8 {α : Type} {l : List α} (h : l.length = 8) : ∃ a b c d e f g k, l = [a, b, c, d, e, f, g, k] := by
  match l, h with
  | [a, b, c, d, e, f, g, k], _ => exact ⟨a, b, c, d, e, f, g, k, rfl⟩
theorem read_term {fs : Array Field} {i : TypeId} (ht : P.underlying t = some (.struct fs)) (hs : P.cellsOf t = 4) (hf : fieldsOf fs = [(i, 0), (i, 1), (i, 2), (i, 3)]) (hi : P.underlying i = some (.int .i64)) (hc : P.cellsOf i = 1) (h : trodE enc P w n t cs = some y) : ∃ x : TermV, cs = eT x := by
  obtain ⟨h1, h2⟩ := read_field ht h
  rw [hs] at h1
  rw [hf] at h2
  obtain ⟨a, b, c, d, rfl⟩ := list4 h1
  obtain ⟨_, _, g0⟩ := h2 0 i 0 rfl
  obtain ⟨_, _, g1⟩ := h2 1 i 1 rfl
  obtain ⟨_, _, g2⟩ := h2 2 i 2 rfl
  obtain ⟨_, _, g3⟩ := h2 3 i 3 rfl
  rw [hc] at g0 g1 g2 g3
  obtain ⟨k0, e0⟩ := read_int hi g0
  obtain ⟨k1, e1⟩ := read_int hi g1
  obtain ⟨k2, e2⟩ := read_int hi g2
  obtain ⟨k3, e3⟩ := read_int hi g3
  simp at e0 e1 e2 e3
  subst e0 e1 e2 e3
  exact ⟨⟨k0, k1, k2, k3⟩, rfl⟩
theorem read_poly {fs : Array Field} {i : TypeId} (ht : P.underlying t = some (.slice e)) (he : P.underlying e = some (.struct fs)) (hs : P.cellsOf e = 4) (hf : fieldsOf fs = [(i, 0), (i, 1), (i, 2), (i, 3)]) (hi : P.underlying i = some (.int .i64)) (hc : P.cellsOf i = 1)
    (h : trodE enc P w n t cs = some y) : ∃ (a : Poly) (u : Value), cs = [u] ∧ CR w home0 .imm (cP a) u := by
  obtain ⟨a, u, h1, h2, _⟩ := read_row (Q := fun cs x => cs = eT x) ht hs (by decide) (fun n cs y h => read_term he hs hf hi hc h) h
  exact ⟨a, u, h1, row_fl h2 (by decide) eT (fun cs x hq => ⟨hq, fun v hv => by simp at hv; rcases hv with rfl | rfl | rfl | rfl <;> rfl⟩)⟩
theorem read_sys {fs : Array Field} {i p : TypeId} (ht : P.underlying t = some (.slice p)) (hcp : P.cellsOf p = 1) (hp : P.underlying p = some (.slice e)) (he : P.underlying e = some (.struct fs)) (hs : P.cellsOf e = 4) (hf : fieldsOf fs = [(i, 0), (i, 1), (i, 2), (i, 3)]) (hi : P.underlying i = some (.int .i64)) (hc : P.cellsOf i = 1)
    (h : trodE enc P w n t cs = some y) : ∃ (a : Sys) (u : Value), cs = [u] ∧ CR w home0 .imm (cS a) u := by
  obtain ⟨a, u, h1, h2, _⟩ := read_row (Q := fun cs (x : Poly) => CellsR w cs (eP x)) ht hcp (by decide) (fun n cs y h => by
    obtain ⟨a, u, rfl, h2⟩ := read_poly hp he hs hf hi hc h
    exact ⟨a, cells_cons h2 cells_nil⟩) h
  exact ⟨a, u, h1, row_sl h2 (by decide) eP (fun cs x hq => ⟨rfl, hq.2⟩)⟩
theorem read_box {fs : Array Field} {i s : TypeId} (ht : P.underlying t = some (.struct fs)) (hct : P.cellsOf t = 3) (hf : fieldsOf fs = [(i, 0), (s, 1), (s, 2)]) (hi : P.underlying i = some (.int .i64)) (hc : P.cellsOf i = 1) (hs : P.underlying s = some (.slice i)) (hcs : P.cellsOf s = 1)
    (h : trodE enc P w n t cs = some y) : ∃ (b : BoxV), CellsR w cs (eB b) := by
  obtain ⟨h1, h2⟩ := read_field ht h
  rw [hct] at h1
  rw [hf] at h2
  obtain ⟨a, b, c, rfl⟩ := list3 h1
  obtain ⟨_, _, g0⟩ := h2 0 i 0 rfl
  obtain ⟨_, _, g1⟩ := h2 1 s 1 rfl
  obtain ⟨_, _, g2⟩ := h2 2 s 2 rfl
  rw [hc] at g0
  rw [hcs] at g1 g2
  obtain ⟨k0, e0⟩ := read_int hi g0
  obtain ⟨k1, u1, e1, r1⟩ := read_ints hs hi hc g1
  obtain ⟨k2, u2, e2, r2⟩ := read_ints hs hi hc g2
  simp at e0 e1 e2
  subst e0 e1 e2
  exact ⟨⟨k0, k1, k2⟩, cells_cons (CR.val rfl) (cells_cons r1 (cells_cons r2 cells_nil))⟩
/-- What is known of the types. -/
structure EntT (P : Program) (t : TypeId) : Prop where
  all : ∃ (fs fb ft : Array Field) (i str s sys p tm bx : TypeId), P.underlying t = some (.struct fs) ∧ P.cellsOf t = 8 ∧ fieldsOf fs = [(str, 0), (sys, 1), (bx, 2), (i, 5), (i, 6), (i, 7)] ∧
    P.underlying str = some .string ∧ P.cellsOf str = 1 ∧ P.underlying i = some (.int .i64) ∧ P.cellsOf i = 1 ∧ P.underlying s = some (.slice i) ∧ P.cellsOf s = 1 ∧
    P.underlying bx = some (.struct fb) ∧ P.cellsOf bx = 3 ∧ fieldsOf fb = [(i, 0), (s, 1), (s, 2)] ∧
    P.underlying sys = some (.slice p) ∧ P.cellsOf sys = 1 ∧ P.underlying p = some (.slice tm) ∧ P.cellsOf p = 1 ∧ P.underlying tm = some (.struct ft) ∧ P.cellsOf tm = 4 ∧ fieldsOf ft = [(i, 0), (i, 1), (i, 2), (i, 3)]
theorem read_entry (T : EntT P t) (h : trodE enc P w n t cs = some y) : ∃ x : EntryV, CellsR w cs (eE x) := by
  obtain ⟨fs, fb, ft, i, str, s, sys, p, tm, bx, t1, t2, t3, s1, s2, i1, i2, a1, a2, b1, b2, b3, y1, y2, p1, p2, m1, m2, m3⟩ := T.all
  obtain ⟨h1, h2⟩ := read_field t1 h
  rw [t2] at h1
  rw [t3] at h2
  obtain ⟨c0, c1, c2, c3, c4, c5, c6, c7, rfl⟩ := list8 h1
  obtain ⟨_, _, g0⟩ := h2 0 str 0 rfl
  obtain ⟨_, _, g1⟩ := h2 1 sys 1 rfl
  obtain ⟨_, _, g2⟩ := h2 2 bx 2 rfl
  obtain ⟨_, _, g3⟩ := h2 3 i 5 rfl
  obtain ⟨_, _, g4⟩ := h2 4 i 6 rfl
  obtain ⟨_, _, g5⟩ := h2 5 i 7 rfl
  rw [s2] at g0
  rw [y2] at g1
  rw [b2] at g2
  rw [i2] at g3 g4 g5
  obtain ⟨nm, e0, _, hnm⟩ := DataW.trod_string s1 g0
  obtain ⟨ss, u1, e1, r1⟩ := read_sys y1 p2 p1 m1 m2 m3 i1 i2 g1
  obtain ⟨b, r2⟩ := read_box b1 b2 b3 i1 i2 a1 a2 g2
  obtain ⟨k3, e3⟩ := read_int i1 g3
  obtain ⟨k4, e4⟩ := read_int i1 g4
  obtain ⟨k5, e5⟩ := read_int i1 g5
  simp at e0 e1 e3 e4 e5
  subst e0 e1 e3 e4 e5
  have r2' : CellsR w [c2, c3, c4] (eB b) := r2
  obtain ⟨v2, q2, w2⟩ := r2'.2 0 _ rfl
  obtain ⟨v3, q3, w3⟩ := r2'.2 1 _ rfl
  obtain ⟨v4, q4, w4⟩ := r2'.2 2 _ rfl
  simp at q2 q3 q4
  subst q2 q3 q4
  exact ⟨⟨nm, hnm, ss, b, k3, k4, k5⟩, cells_cons (CR.val rfl) (cells_cons r1 (cells_cons w2 (cells_cons w3 (cells_cons w4 (cells_cons (CR.val rfl) (cells_cons (CR.val rfl) (cells_cons (CR.val rfl) cells_nil)))))))⟩
theorem read_entries (ht : P.underlying t = some (.slice e)) (T : EntT P e) (h : trodE enc P w n t cs = some y) :
    ∃ (a : Entries) (u : Value), cs = [u] ∧ CR w home0 .imm (cE a) u ∧ ((y.1 = .nil ∧ a.es = []) ∨ ∃ A B, y.1 = .slice A B ∧ A.length = a.es.length) := by
  have hc : P.cellsOf e = 8 := by
    obtain ⟨_, _, _, _, _, _, _, _, _, _, _, h, _⟩ := T.all
    exact h
  obtain ⟨a, u, h1, h2, h3⟩ := read_row (Q := fun cs (x : EntryV) => CellsR w cs (eE x)) ht hc (by decide) (fun n cs y h => read_entry T h) h
  exact ⟨a, u, h1, row_sl h2 (by decide) eE (fun cs x hq => ⟨rfl, hq.2⟩), h3⟩
end
end Go.Proofs.YtecmolmlojehgaaGreat.T
namespace Go.Proofs.YtecmolmlojehgaaGreat.T
open Go Go.ChangeShapes Go.WideShapes Go.ChangeAt Go.RowKit
theorem runs_calls {P : Program} {f : FuncId} {fn : Func} {vs : Array Value} {w : World} {R : Value → World → Prop} (hf : P.funcs[f]? = some fn) (hname : (fn.name == "runtime.NumGoroutine") = false) (hb : fn.body.isNone = false) (h : Runs P f vs w R) : Calls P f vs w (fun e w' => ∃ v, e = .returned v ∧ R v w') := by
  rcases h with ⟨_, h⟩ | ⟨v, w', h, _⟩
  · exact h
  · unfold callFunc at h
    simp only [Sem.run_bind, run_program, Result.andThen_ok, hf, hname, hb, Bool.false_eq_true, if_false, Sem.run_pure] at h
    cases h
/-- A function of read arguments that gives one bool. -/
theorem sat_bool {P : Program} {f : FuncId} {fn : Func} {w : World} {args : List Arg} {b : Bool} (hf : P.funcs[f]? = some fn) (hname : (fn.name == "runtime.NumGoroutine") = false) (hb : fn.body.isNone = false) (h : Sat ids P f args (resB b))
    (hrt : (initFr args).rt = asl []) (himm : ∀ (i : Nat) x, args[i]? = some (.imm x) → x.ids = []) (vs : List Value) (hlen : vs.length = args.length) (hargs : ∀ (i : Nat) a v, args[i]? = some a → vs[i]? = some v → A1R ids w home0 (fun _ => undef) (asl []) (initArg i a).1 v) :
    Calls P f vs.toArray w (fun e w' => e = .returned (.bool b) ∧ Below w.heap.size w w') := by
  have hrel : RtR w home0 (fun _ => undef) (asl []) F0 := by
    refine ⟨fun l r hr => ?_, fun b l p hb => (by cases hb), fun l r hr => ?_⟩
    · cases l with
      | r i => cases hr
      | t k => cases hr
      | x => simp only [ext, Option.some.injEq] at hr; subst hr; exact Or.inl rfl
    · cases l with
      | r i => cases hr
      | t k => cases hr
      | x => simp only [ext, Option.some.injEq] at hr; subst hr; intro i hi; simp [Root.ids] at hi
  have := h w home0 (fun _ => undef) vs hlen (by rw [hrt]; exact hrel) (by rw [hrt]; exact hargs) himm
  refine (runs_calls hf hname hb this).mono ?_
  rintro e w' ⟨v, rfl, home', hd', F', us, rfl, ret⟩
  obtain ⟨fl, hl, hh, hasm⟩ := ret.vals
  obtain ⟨u, fl', us', rfl, rfl, h1, h2⟩ := hasm
  subst h2
  obtain ⟨hu, _⟩ := hh 0 _ _ u rfl rfl
  have hu' : u = .bool b := by
    rcases hu with ⟨_, hu⟩ | ⟨hne, _⟩
    · cases hu with
      | val _ => rfl
    · exact absurd rfl hne
  subst hu'
  exact ⟨rfl, ret.os, ret.tape, ret.output, ret.size, fun k hk => (ret.blk k hk rfl).1⟩
theorem open_entries {H : Type} {enc : TypeId × Value → H} {P : Program} {W : World} {base : Nat} {te ts : TypeId} {v : Value} {d : DataW H} {p : List MemPlace} (hs : P.underlying ts = some (.slice te)) (ht : EntT P te) (hb : P.bytesOf te = 120) (hval : Value.okWide P W .any base ts v) (h : DataW.Trod enc P W 0 (fun _ => true) true ts v d p)
    (hz : ∀ el sp, d = .slice el sp → (el.length + sp.length) * P.bytesOf te ≤ reachBytes) : ∃ A : Entries, CR W home0 .imm (cE A) v ∧ A.es.length ≤ 140737488351232 := by
  obtain ⟨fuel, hf⟩ := h
  obtain ⟨A, u, e1, e2, e3⟩ := read_entries hs ht hf
  obtain ⟨x, len, cap, rfl⟩ := okWide_slice hs hval
  simp [Value.cells] at e1
  subst e1
  refine ⟨A, e2, ?_⟩
  rcases e3 with ⟨_, e3⟩ | ⟨B, C, e3, e4⟩
  · rw [e3]; simp
  · simp only at e3
    have z := hz _ _ e3
    have hr : reachBytes = 140737488351232 := rfl
    rw [hb, hr] at z
    omega
end Go.Proofs.YtecmolmlojehgaaGreat.T
