/- For every input the law FnExactChangedSystems returns true, and each argument reads behind the call as it read before; no string or slice is beyond the machine's memory (the statement's own bound on sizes). -/
import Derived.Test.YtecmolmlojehgaaGreatRows
import Derived.Test.YtecmolmlojehgaaGreatMN
import Derived.Test.YtecmolmlojehgaaGreatMO
import Derived.WalkKit
import Derived.ProofKit
import Derived.OpenShut
import Derived.ShutString
import Derived.ChangeOld
import Derived.Below
import Derived.SizedLaws
namespace Go.Proofs.YtecmolmlojehgaaGreat.fnExactChangedSystems
open Go Go.ChangeShapes Go.WideShapes Go.ChangeAt Go.RowKit Go.Proofs.YtecmolmlojehgaaGreat.T
open Go.ChangeMaps (open_string shut_string)
theorem own : ownKnob Go.Proofs.Tryz.prog.godebug = none := by kernel_rfl
theorem laidOut : laidOutB Go.Proofs.Tryz.prog = true := by kernel_rfl
theorem entT : EntT Go.Proofs.Tryz.prog 97 :=
  ⟨_, _, _, 3, 9, 25, 49, 99, 135, 50, Go.Proofs.Tryz.underlying97, by kernel_rfl, rfl, Go.Proofs.Tryz.underlying9, by kernel_rfl, Go.Proofs.Tryz.underlying3, by kernel_rfl, Go.Proofs.Tryz.underlying25, by kernel_rfl, Go.Proofs.Tryz.underlying50, by kernel_rfl, rfl, Go.Proofs.Tryz.underlying49, by kernel_rfl, Go.Proofs.Tryz.underlying99, by kernel_rfl, Go.Proofs.Tryz.underlying135, by kernel_rfl, rfl⟩
theorem law_sat (a b : Entries) (hla : a.es.length ≤ 140737488355328) (hlb : b.es.length ≤ 140737488355328) : Sat ids Go.Proofs.Tryz.prog 6 [arg (cE a), arg (cE b)] (resB true) :=
  L_sat (f := n_laws_FnExactChangedSystems) (L_law9 a b hla hlb)
set_option maxRecDepth 100000 in
theorem lifted (os : Os) (started : os.Started) (H : Type) (enc : TypeId × Value → H) :
    ReturnsInHanded {} Go.Proofs.Tryz.checked os 6 .any (Rows.fnExactChangedSystemsSpec.pre6 enc Go.Proofs.Tryz.prog Go.Proofs.Tryz.f6 Rows.fnExactChangedSystemsRow.domain false) (Rows.fnExactChangedSystemsSpec.post enc Go.Proofs.Tryz.prog Go.Proofs.Tryz.f6 false true false false) := by
  refine returnsInHanded_of_change_sized (C := Go.Proofs.Tryz.checked) own started (by kernel_rfl) Go.Proofs.Tryz.func6
    (ChangeSpec.witness6 (enc := enc) (C := Go.Proofs.Tryz.checked) false ⟨#[], #[.slice none 0 0, .slice none 0 0], []⟩ 8 (by kernel_rfl) (by kernel_rfl) (by kernel_rfl) (by kernel_rfl)) ?_
  intro W base args ds gs before hval0 hW hcnd hsz0 _
  have hsz : (DataW.weightsEach Go.Proofs.Tryz.prog (Go.Proofs.Tryz.f6.params.toList ++ Rows.fnExactChangedSystemsSpec.plain.varTypes Go.Proofs.Tryz.prog) (ds ++ gs)).all (· ≤ reachBytes) = true := hsz0
  have hval : ∀ (j : Nat) t v, Go.Proofs.Tryz.f6.params[j]? = some t → args[j]? = some v → Value.okWide Go.Proofs.Tryz.prog W .any base t v := hval0
  have hW' := hW
  obtain ⟨p, q, hA0, hV, rfl, hfz, hnd⟩ := hW
  have hA : DataW.TrodAll enc Go.Proofs.Tryz.prog W 0 (fun _ => true) true Go.Proofs.Tryz.f6.params.toList args.toList ds p := hA0
  rw [Go.Proofs.Tryz.params6] at hA hval hsz
  obtain ⟨v0, vs0, d0, ds0, p0, q0, hargs, rfl, rfl, h0, r0⟩ := trodAll_cons hA
  obtain ⟨v1, vs1, d1, ds1, p1, q1, rfl, rfl, rfl, h1, r1⟩ := trodAll_cons r0
  obtain ⟨rfl, rfl, rfl⟩ := trodAll_nil r1
  obtain rfl : args = #[v0, v1] := by cases args; simp_all
  obtain ⟨rfl, rfl⟩ := trodVars_none hV
  have k0 := h0
  have k1 := h1
  have lt0 : ∀ x ∈ p0, x.block < W.heap.size := by obtain ⟨m, hm⟩ := k0; exact DataW.trod_lt m _ _ _ hm
  have lt1 : ∀ x ∈ p1, x.block < W.heap.size := by obtain ⟨m, hm⟩ := k1; exact DataW.trod_lt m _ _ _ hm
  have hb : Go.Proofs.Tryz.prog.bytesOf 97 = 120 := by kernel_rfl
  obtain ⟨A, hA1, hA2⟩ := open_entries Go.Proofs.Tryz.underlying48 entT hb (hval 0 48 v0 rfl rfl) h0 (fun el sp e => by
    subst e; exact sized_slice hsz (j := 0) (t := 48) rfl rfl Go.Proofs.Tryz.underlying48)
  obtain ⟨B, hB1, hB2⟩ := open_entries Go.Proofs.Tryz.underlying48 entT hb (hval 1 48 v1 rfl rfl) h1 (fun el sp e => by
    subst e; exact sized_slice hsz (j := 1) (t := 48) rfl rfl Go.Proofs.Tryz.underlying48)
  clear hA0 hval0 hsz0 hsz
  have hc := sat_bool (w := W) Go.Proofs.Tryz.func6 (by kernel_rfl) (by kernel_rfl) (law_sat A B (by omega) (by omega)) (by simp) (by
    intro i x hx
    match i with
    | 0 => simp at hx; subst hx; rfl
    | 1 => simp at hx; subst hx; rfl
    | i + 2 => simp at hx) [v0, v1] rfl (by
    intro i x v hx hv
    match i with
    | 0 => simp at hx hv; subst hx hv; exact hA1
    | 1 => simp at hx hv; subst hx hv; exact hB1
    | i + 2 => simp at hx)
  refine Calls.mono hc fun e W' ⟨he, bel⟩ => ?_
  subst he
  exact ⟨_, rfl, _, _, _, [], _, [], hW', trodAll_mk1 (shut_bool Go.Proofs.Tryz.underlying4 _), (trodAll_cons_mk (Below.trod laidOut (by kernel_rfl) (of_decide_eq_true (by kernel_rfl)) k0 bel lt0) (trodAll_cons_mk (Below.trod laidOut (by kernel_rfl) (of_decide_eq_true (by kernel_rfl)) k1 bel lt1) trodAll_mk0)), rfl, bel.frame _, fun h => by cases h⟩
theorem over : Rows.fnExactChangedSystemsRow.holds Tryz.pinned (OpenSpec.ofChange Rows.fnExactChangedSystemsSpec) :=
  OpenClaim.holds_of_wide 6 Go.Proofs.Tryz.f6 rfl rfl rfl rfl rfl rfl rfl ⟨rfl, rfl, rfl, rfl, rfl⟩ rfl rfl rfl rfl rfl (by kernel_rfl) Go.Proofs.Tryz.func6 (by kernel_rfl)
    (of_decide_eq_true (by kernel_rfl)) (by unfold Func.isWrapper; first | (rw [if_pos (by decide +kernel)]; kernel_rfl) | (rw [if_neg (by decide +kernel)]; exact ⟨rfl, rfl⟩))
    (fun os started H enc _ => lifted os started H enc)
theorem proved : Rows.FnExactChangedSystemsSaid := over
#print axioms proved
end Go.Proofs.YtecmolmlojehgaaGreat.fnExactChangedSystems
namespace Go.Proofs.YtecmolmlojehgaaGreat
/-- The row, under a short name, for the claim. -/
theorem fnExactChangedSystems_holds : Rows.FnExactChangedSystemsSaid := fnExactChangedSystems.proved
end Go.Proofs.YtecmolmlojehgaaGreat
