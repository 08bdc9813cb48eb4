/- The abstract executor without fuel: what a function gives in the end, and code with what follows it. How the abstract executor is run by rewriting. -/
import Derived.Test.YtkiklfcfdopplaaMA
namespace Go.Proofs.Ytkiklfcfdopplaa.T
open Go

abbrev Call := Nat → List Arg → Option Res
/-- What c gives, c' gives too. -/
def Call.Le (c c' : Call) : Prop := ∀ f a r, c f a = some r → c' f a = some r
/-- What c gives, all but finitely many of the row give. -/
def Call.Lim (c : Call) (cs : Nat → Call) : Prop := ∀ f a r, c f a = some r → ∃ m, ∀ k, m ≤ k → cs k f a = some r
section
variable {c c' : Call} {cs : Nat → Call}
theorem callR_lim (h : c.Lim cs) {ev : Ev} {rt : Rts} {dst f : Nat} {qs : List (Bool × Opd)} {x : AV × Rts} (hx : callR c ev rt dst f qs = some x) : ∃ m, ∀ k, m ≤ k → callR (cs k) ev rt dst f qs = some x := by
  unfold callR at hx ⊢
  split at hx
  · split at hx
    · rename_i r hr
      obtain ⟨m, hm⟩ := h _ _ _ hr
      refine ⟨m, fun k hk => ?_⟩
      simp only [hm k hk]
      exact hx
    · cases hx
  · cases hx
theorem act_lim (h : c.Lim cs) {ev : Ev} {tp : Nat → Option (List A1)} {rt : Rts} {dst : Nat} {p : PO} {x : AV × Rts} (hx : act c ev tp rt dst p = some x) : ∃ m, ∀ k, m ≤ k → act (cs k) ev tp rt dst p = some x := by
  cases p with
  | call f qs => exact callR_lim h hx
  | callv f qs =>
    simp only [act] at hx ⊢
    split at hx
    · exact callR_lim h hx
    · cases hx
  | _ => exact ⟨0, fun k _ => hx⟩
theorem exec_lim (h : c.Lim cs) {fr fr' : Fr} {o : POp} (hx : fr.exec c o = some fr') : ∃ m, ∀ k, m ≤ k → fr.exec (cs k) o = some fr' := by
  unfold Fr.exec at hx ⊢
  split at hx
  · rename_i a rt hact
    obtain ⟨m, hm⟩ := act_lim h hact
    exact ⟨m, fun k hk => by simp only [hm k hk]; exact hx⟩
  · cases hx
theorem step_lim (h : c.Lim cs) {fr fr' : Fr} {o : POp} (hx : fr.step c o = some fr') : ∃ m, ∀ k, m ≤ k → fr.step (cs k) o = some fr' := by
  unfold Fr.step at hx ⊢
  split at hx
  · exact exec_lim h hx
  · split at hx
    · split at hx
      · rename_i hb
        simp only [hb, if_true]
        exact exec_lim h hx
      · rename_i hb
        exact ⟨0, fun k _ => by simp only [hb, if_false]; exact hx⟩
    · exact ⟨0, fun k _ => hx⟩
    · cases hx
theorem steps_lim (h : c.Lim cs) : ∀ {l : List POp} {fr fr' : Fr}, fr.steps c l = some fr' → ∃ m, ∀ k, m ≤ k → fr.steps (cs k) l = some fr'
  | [], fr, fr', hx => ⟨0, fun _ _ => hx⟩
  | o :: l, fr, fr', hx => by
    simp only [Fr.steps] at hx ⊢
    split at hx
    · rename_i fr1 h1
      obtain ⟨m1, hm1⟩ := step_lim h h1
      obtain ⟨m2, hm2⟩ := steps_lim h hx
      exact ⟨max m1 m2, fun k hk => by simp only [hm1 k (by omega)]; exact hm2 k (by omega)⟩
    · cases hx
theorem execD_lim (h : c.Lim cs) {fr fr' : Fr} {o : POp} (hx : fr.execD c o = some fr') : ∃ m, ∀ k, m ≤ k → fr.execD (cs k) o = some fr' := by
  unfold Fr.execD at hx ⊢
  split at hx
  · rename_i hq
    simp only [hq, if_true]
    split at hx
    · rename_i a rt hact
      obtain ⟨m, hm⟩ := act_lim h hact
      exact ⟨m, fun k hk => by simp only [hm k hk]; exact hx⟩
    · cases hx
  · rename_i hq
    simp only [hq, if_false]
    split at hx
    · rename_i hq2
      simp only [hq2, if_true]
      split at hx
      · rename_i a rt hact
        obtain ⟨m, hm⟩ := act_lim h hact
        exact ⟨m, fun k hk => by simp only [hm k hk]; exact hx⟩
      · cases hx
    · cases hx
theorem stepD_lim (h : c.Lim cs) {fr fr' : Fr} {o : POp} (hx : fr.stepD c o = some fr') : ∃ m, ∀ k, m ≤ k → fr.stepD (cs k) o = some fr' := by
  unfold Fr.stepD at hx ⊢
  split at hx
  · exact execD_lim h hx
  · split at hx
    · split at hx
      · rename_i hb
        simp only [hb, if_true]
        exact execD_lim h hx
      · rename_i hb
        exact ⟨0, fun k _ => by simp only [hb, if_false]; exact hx⟩
    · exact ⟨0, fun k _ => hx⟩
    · cases hx
theorem stepsD_lim (h : c.Lim cs) : ∀ {l : List (Nat × POp)} {fr fr' : Fr}, fr.stepsD c l = some fr' → ∃ m, ∀ k, m ≤ k → fr.stepsD (cs k) l = some fr'
  | [], fr, fr', hx => ⟨0, fun _ _ => hx⟩
  | o :: l, fr, fr', hx => by
    simp only [Fr.stepsD] at hx ⊢
    split at hx
    · rename_i fr1 h1
      obtain ⟨m1, hm1⟩ := stepD_lim h h1
      obtain ⟨m2, hm2⟩ := stepsD_lim h hx
      exact ⟨max m1 m2, fun k hk => by simp only [hm1 k (by omega)]; exact hm2 k (by omega)⟩
    · cases hx
theorem runC_lim (h : c.Lim cs) {n : Nat} : ∀ (pc : PC) {fr : Fr} {x : Ex × Fr}, runC c n pc fr = some x → ∃ m, ∀ k, m ≤ k → ∀ n', n ≤ n' → runC (cs k) n' pc fr = some x
  | .skip, fr, x, hx => ⟨0, fun _ _ _ _ => hx⟩
  | .exit i, fr, x, hx => ⟨0, fun _ _ _ _ => hx⟩
  | .ret, fr, x, hx => ⟨0, fun _ _ _ _ => hx⟩
  | .ops l k, fr, x, hx => by
    simp only [runC, Option.map_eq_some_iff] at hx ⊢
    obtain ⟨fr1, h1, rfl⟩ := hx
    obtain ⟨m, hm⟩ := steps_lim h h1
    exact ⟨m, fun k hk _ _ => ⟨fr1, hm k hk, rfl⟩⟩
  | .dops l k, fr, x, hx => by
    simp only [runC, Option.map_eq_some_iff] at hx ⊢
    obtain ⟨fr1, h1, rfl⟩ := hx
    obtain ⟨m, hm⟩ := stepsD_lim h h1
    exact ⟨m, fun k hk _ _ => ⟨fr1, hm k hk, rfl⟩⟩
  | .seq a b, fr, x, hx => by
    simp only [runC] at hx ⊢
    split at hx
    · rename_i fr1 h1
      obtain ⟨m1, hm1⟩ := runC_lim h a h1
      obtain ⟨m2, hm2⟩ := runC_lim h b hx
      exact ⟨max m1 m2, fun k hk n' hn' => by simp only [hm1 k (by omega) n' hn']; exact hm2 k (by omega) n' hn'⟩
    · rename_i hne
      obtain ⟨m1, hm1⟩ := runC_lim h a hx
      refine ⟨m1, fun k hk n' hn' => ?_⟩
      simp only [hm1 k hk n' hn']
      obtain ⟨e, fr1⟩ := x
      cases e with
      | normal => exact absurd hx (hne fr1)
      | exit i => rfl
      | ret => rfl
  | .cond q a b, fr, x, hx => by
    simp only [runC] at hx ⊢
    split at hx
    · rename_i t ht
      cases t with
      | true => exact runC_lim h a (by simpa using hx)
      | false => exact runC_lim h b (by simpa using hx)
    · cases hx
  | .block id a, fr, x, hx => by
    simp only [runC] at hx ⊢
    split at hx
    · rename_i j fr1 h1
      obtain ⟨m1, hm1⟩ := runC_lim h a h1
      exact ⟨m1, fun k hk n' hn' => by simp only [hm1 k hk n' hn']; exact hx⟩
    · rename_i hne
      obtain ⟨m1, hm1⟩ := runC_lim h a hx
      refine ⟨m1, fun k hk n' hn' => ?_⟩
      simp only [hm1 k hk n' hn']
      obtain ⟨e, fr1⟩ := x
      cases e with
      | normal => rfl
      | exit i => exact absurd hx (hne i fr1)
      | ret => rfl
  | .loop live a, fr, x, hx => by
    simp only [runC] at hx ⊢
    have key : ∀ (j : Nat) (fr : Fr), j ≤ n → iter (fun fr => runC c n a (fr.canon live)) j fr = some x → ∃ m, ∀ k, m ≤ k → ∀ n', n ≤ n' → iter (fun fr => runC (cs k) n' a (fr.canon live)) (n' - (n - j)) fr = some x := by
      intro j
      induction j with
      | zero => intro fr _ hx; cases hx
      | succ j ih =>
        intro fr hj hx
        simp only [iter] at hx
        split at hx
        · rename_i fr1 h1
          obtain ⟨m1, hm1⟩ := runC_lim h a h1
          obtain ⟨m2, hm2⟩ := ih fr1 (by omega) hx
          refine ⟨max m1 m2, fun k hk n' hn' => ?_⟩
          obtain ⟨i, hi⟩ : ∃ i, n' - (n - (j + 1)) = i + 1 := ⟨n' - (n - (j + 1)) - 1, by omega⟩
          rw [hi]
          simp only [iter, hm1 k (by omega) n' hn']
          have := hm2 k (by omega) n' hn'
          rw [show n' - (n - j) = i by omega] at this
          exact this
        · rename_i hne
          obtain ⟨m1, hm1⟩ := runC_lim h a hx
          refine ⟨m1, fun k hk n' hn' => ?_⟩
          obtain ⟨i, hi⟩ : ∃ i, n' - (n - (j + 1)) = i + 1 := ⟨n' - (n - (j + 1)) - 1, by omega⟩
          rw [hi]
          simp only [iter, hm1 k hk n' hn']
          obtain ⟨e, fr1⟩ := x
          cases e with
          | normal => exact absurd hx (hne fr1)
          | exit i => rfl
          | ret => rfl
    obtain ⟨m, hm⟩ := key n fr (Nat.le_refl _) hx
    exact ⟨m, fun k hk n' hn' => by
      have := hm k hk n' hn'
      rw [Nat.sub_self, Nat.sub_zero] at this
      exact this⟩
theorem runF_lim (h : c.Lim cs) {n : Nat} {pf : PFunc} {args : List Arg} {r : Res} (hx : runF c n pf args = some r) : ∃ m, ∀ k, m ≤ k → ∀ n', n ≤ n' → runF (cs k) n' pf args = some r := by
  unfold runF at hx ⊢
  split at hx
  · rename_i hl
    simp only [hl, if_true]
    split at hx
    · rename_i fr1 h1
      obtain ⟨m1, hm1⟩ := runC_lim h _ h1
      exact ⟨m1, fun k hk n' hn' => by simp only [hm1 k hk n' hn']; exact hx⟩
    · rename_i fr1 h1
      obtain ⟨m1, hm1⟩ := runC_lim h _ h1
      exact ⟨m1, fun k hk n' hn' => by simp only [hm1 k hk n' hn']; exact hx⟩
    · cases hx
  · cases hx
end

/-! ### What a function gives in the end -/
def Den (pp : PP) (f : Nat) (args : List Arg) (r : Res) : Prop := ∃ m, ∀ k, m ≤ k → den pp k f args = some r
open Classical in
noncomputable def L (pp : PP) : Call := fun f args => if h : ∃ r, Den pp f args r then some (Classical.choose h) else none
section
variable {pp : PP} {f : Nat} {args : List Arg} {r : Res}
theorem L_den : L pp f args = some r ↔ Den pp f args r := by
  unfold L
  constructor
  · intro h
    split at h
    · rename_i hh
      injection h with h
      rw [← h]
      exact Classical.choose_spec hh
    · cases h
  · intro h
    have hh : ∃ r, Den pp f args r := ⟨r, h⟩
    rw [dif_pos hh]
    obtain ⟨m1, h1⟩ := Classical.choose_spec hh
    obtain ⟨m2, h2⟩ := h
    have e1 := h1 (max m1 m2) (by omega)
    have e2 := h2 (max m1 m2) (by omega)
    exact e1.symm.trans e2
theorem L_lim : (L pp).Lim (den pp) := fun _ _ _ h => L_den.1 h
/-- A function's code, run on what the others give in the end. -/
theorem L_code {pf : PFunc} (hc : pp.code f = some pf) (n : Nat) (h : runF (L pp) n pf args = some r) : L pp f args = some r := by
  rw [L_den]
  obtain ⟨m, hm⟩ := runF_lim L_lim h
  refine ⟨max m n + 1, fun k hk => ?_⟩
  obtain ⟨j, rfl⟩ : ∃ j, k = j + 1 := ⟨k - 1, by omega⟩
  simp only [den, hc]
  exact hm j (by omega) j (by omega)
theorem L_hand (hc : pp.code f = none) (h : pp.hand f args = some r) : L pp f args = some r := by
  rw [L_den]
  refine ⟨1, fun k hk => ?_⟩
  obtain ⟨j, rfl⟩ : ∃ j, k = j + 1 := ⟨k - 1, by omega⟩
  simp only [den, hc]
  exact h
end

/-! ### Code, and what follows it -/
abbrev Kont := Ex → Fr → Option Res
def kSeq (k : Fr → Option Res) (K : Kont) : Kont
  | .normal, fr => k fr
  | .exit i, fr => K (.exit i) fr
  | .ret, fr => K .ret fr
def kBlock (id : Nat) (K : Kont) : Kont
  | .normal, fr => K .normal fr
  | .exit i, fr => if i = id then K .normal fr else K (.exit i) fr
  | .ret, fr => K .ret fr
def iterK (f : Kont → Fr → Option Res) (K : Kont) : Nat → Fr → Option Res
  | 0, _ => none
  | n + 1, fr => f (kSeq (iterK f K n) K) fr
def runK (call : Call) (n : Nat) : PC → Kont → Fr → Option Res
  | .skip, K, fr => K .normal fr
  | .ops l keep, K, fr => (fr.steps call l).bind (fun fr => K .normal (fr.keep keep))
  | .dops l keep, K, fr => (fr.stepsD call l).bind (fun fr => K .normal (fr.keep keep))
  | .seq a b, K, fr => runK call n a (kSeq (runK call n b K) K) fr
  | .cond c a b, K, fr =>
    match evV fr.ev c with
    | some (.bool t) => if t = true then runK call n a K fr else runK call n b K fr
    | _ => none
  | .block id c, K, fr => runK call n c (kBlock id K) fr
  | .loop live c, K, fr => iterK (fun K fr => runK call n c K (fr.canon live)) K n fr
  | .exit id, K, fr => K (.exit id) fr
  | .ret, K, fr => K .ret fr
theorem runK_eq {call : Call} {n : Nat} : ∀ (pc : PC) (K : Kont) (fr : Fr), runK call n pc K fr = (runC call n pc fr).bind (fun x => K x.1 x.2)
  | .skip, K, fr => rfl
  | .exit i, K, fr => rfl
  | .ret, K, fr => rfl
  | .ops l k, K, fr => by simp only [runK, runC, Option.bind_map]; rfl
  | .dops l k, K, fr => by simp only [runK, runC, Option.bind_map]; rfl
  | .seq a b, K, fr => by
    simp only [runK, runC, runK_eq a]
    cases h : runC call n a fr with
    | none => rfl
    | some x =>
      obtain ⟨e, fr1⟩ := x
      cases e with
      | normal => exact runK_eq b K fr1
      | exit i => rfl
      | ret => rfl
  | .cond c a b, K, fr => by
    simp only [runK, runC]
    cases evV fr.ev c with
    | none => rfl
    | some v =>
      cases v with
      | bool t =>
        cases t with
        | true => exact runK_eq a K fr
        | false => exact runK_eq b K fr
      | _ => rfl
  | .block id c, K, fr => by
    simp only [runK, runC, runK_eq c]
    cases h : runC call n c fr with
    | none => rfl
    | some x =>
      obtain ⟨e, fr1⟩ := x
      cases e with
      | normal => rfl
      | exit i =>
        simp only [Option.bind_some, kBlock]
        split <;> rfl
      | ret => rfl
  | .loop live c, K, fr => by
    simp only [runK, runC]
    generalize hm : n = m
    have key : ∀ (j : Nat) (fr : Fr), iterK (fun K fr => runK call m c K (fr.canon live)) K j fr = (iter (fun fr => runC call m c (fr.canon live)) j fr).bind (fun x => K x.1 x.2) := by
      intro j
      induction j with
      | zero => intro fr; rfl
      | succ j ih =>
        intro fr
        simp only [iterK, iter]
        rw [← hm, runK_eq c, hm]
        cases h : runC call m c (fr.canon live) with
        | none => rfl
        | some x =>
          obtain ⟨e, fr1⟩ := x
          cases e with
          | normal => exact ih fr1
          | exit i => rfl
          | ret => rfl
    exact key m fr
def kFin (pf : PFunc) : Kont
  | .normal, fr => finish pf fr
  | .ret, fr => finish pf fr
  | .exit _, _ => none
theorem runF_K {call : Call} {n : Nat} {pf : PFunc} {args : List Arg} (h : args.length = pf.np) : runF call n pf args = runK call n pf.body (kFin pf) (initFr args) := by
  rw [runK_eq]
  unfold runF
  rw [if_pos h]
  cases hr : runC call n pf.body (initFr args) with
  | none => rfl
  | some x =>
    obtain ⟨e, fr⟩ := x
    cases e <;> rfl
/-- A function's code, run on what the others give in the end. -/
theorem L_run {pp : PP} {f : Nat} {pf : PFunc} {args : List Arg} {r : Res} (hc : pp.code f = some pf) (hl : args.length = pf.np) (n : Nat) (h : runK (L pp) n pf.body (kFin pf) (initFr args) = some r) : L pp f args = some r :=
  L_code hc n (by rw [runF_K hl]; exact h)
end Go.Proofs.Ytkiklfcfdopplaa.T
namespace Go.Proofs.Ytkiklfcfdopplaa.T
open Go
section
variable {α : Type}
theorem upd_at (f : Nat → Option α) (k : Nat) (v : α) (i : Nat) : upd f k v i = if i = k then some v else f i := rfl
theorem asl_nil (i : Nat) : asl ([] : List (Nat × α)) i = none := rfl
theorem asl_cons (k : Nat) (v : α) (l : List (Nat × α)) (i : Nat) : asl ((k, v) :: l) i = if i = k then some v else asl l i := by
  simp only [asl, List.lookup_cons]
  by_cases h : i = k
  · subst h; simp
  · rw [if_neg h]
    have : (i == k) = false := by simpa using h
    rw [this]
end
/-! ### Without functions under binders -/
def pres (rt : Rts) : List Nat → Bool
  | [] => true
  | i :: l => (rt i).isSome && pres rt l
theorem pres_eq (rt : Rts) (l : List Nat) : l.all (fun i => (rt i).isSome) = pres rt l := by
  induction l with
  | nil => rfl
  | cons i l ih => simp only [List.all_cons, ih, pres]
def doneP (fr : Fr) (d : Nat) : Option (AV × Rts) → Option Fr
  | some (a, rt) => if pres rt a.ids = true then some ⟨upd fr.sl d a, rt, fr.ps⟩ else none
  | none => none
def doneU (fr : Fr) : Option (AV × Rts) → Option Fr
  | some (_, rt) => some ⟨fr.sl, rt, fr.ps⟩
  | none => none
def idsIn (sl : Nat → Option AV) : List Nat → List Nat
  | [] => []
  | s :: l =>
    match sl s with
    | some a => a.ids ++ idsIn sl l
    | none => idsIn sl l
def tidySl (rt : Rts) (sl : Nat → Option AV) : List Nat → List (Nat × AV)
  | [] => []
  | s :: l =>
    match sl s with
    | some a => (s, a.tidy rt) :: tidySl rt sl l
    | none => tidySl rt sl l
def tidyRt (rt rt0 : Rts) : List Nat → List (Nat × Root)
  | [] => []
  | i :: l =>
    match rt0 i with
    | some r =>
      match r.tidy rt with
      | some r => (i, r) :: tidyRt rt rt0 l
      | none => tidyRt rt rt0 l
    | none => tidyRt rt rt0 l
def renSl (rt : Rts) (m : List Nat) (sl : Nat → Option AV) : List Nat → List (Nat × AV)
  | [] => []
  | s :: l =>
    match sl s with
    | some a => (s, (a.tidy rt).ren m) :: renSl rt m sl l
    | none => renSl rt m sl l
def renRtF (rt : Rts) (m : List Nat) (rt0 : Rts) : List Nat → List (Nat × Root)
  | [] => []
  | i :: l =>
    match rt0 i with
    | some r =>
      match r.tidy rt with
      | some r => ((renId m i).getD 0, r.ren m) :: renRtF rt m rt0 l
      | none => renRtF rt m rt0 l
    | none => renRtF rt m rt0 l
def idsRt (rt : Rts) : List Nat → List Nat
  | [] => []
  | i :: l =>
    match rt i with
    | some r => r.ids ++ idsRt rt l
    | none => idsRt rt l
def cutL (rt : Rts) (m : List Nat) (i : Nat) : Option Root := if m.contains i = true then rt i else none
def meetsF (sl : Nat → Option AV) (rt : Rts) (ps live : List Nat) : List Nat :=
  let a := addIds ps (idsIn sl live)
  let b := addIds a (idsRt rt a)
  addIds b (idsRt rt b)
def keepF (sl : Nat → Option AV) (rt : Rts) (ps live m : List Nat) : Fr := ⟨asl (tidySl (cutL rt m) sl live), asl (tidyRt (cutL rt m) (cutL rt m) m), ps⟩
def canonF (sl : Nat → Option AV) (rt : Rts) (ps live m : List Nat) : Fr := ⟨asl (renSl (cutL rt m) m sl live), asl (renRtF (cutL rt m) m (cutL rt m) m), ps⟩
theorem idsIn_eq (sl : Nat → Option AV) (l : List Nat) : l.flatMap (fun s => match sl s with | some a => a.ids | none => []) = idsIn sl l := by
  induction l with
  | nil => rfl
  | cons s l ih =>
    simp only [List.flatMap_cons, ih, idsIn]
    cases sl s <;> rfl
theorem idsRt_eq (rt : Rts) (l : List Nat) : l.flatMap (idsOf rt) = idsRt rt l := by
  induction l with
  | nil => rfl
  | cons s l ih =>
    simp only [List.flatMap_cons, ih, idsRt, idsOf]
    cases rt s <;> rfl
theorem meets_eq (fr : Fr) (live : List Nat) : fr.meets live = meetsF fr.sl fr.rt fr.ps live := by
  unfold Fr.meets meetsF
  simp only [reach, idsRt_eq]
  rw [← idsIn_eq]
  rfl
theorem cut_eq (rt : Rts) (m : List Nat) : cut rt m = cutL rt m := by
  funext i; rfl
theorem tidySl_eq (rt : Rts) (sl : Nat → Option AV) (l : List Nat) : l.filterMap (fun s => (sl s).map (fun a => (s, a.tidy rt))) = tidySl rt sl l := by
  induction l with
  | nil => rfl
  | cons s l ih =>
    rw [List.filterMap_cons, ih]
    simp only [tidySl]
    cases sl s <;> rfl
theorem renSl_eq (rt : Rts) (m : List Nat) (sl : Nat → Option AV) (l : List Nat) : l.filterMap (fun s => (sl s).map (fun a => (s, (a.tidy rt).ren m))) = renSl rt m sl l := by
  induction l with
  | nil => rfl
  | cons s l ih =>
    rw [List.filterMap_cons, ih]
    simp only [renSl]
    cases sl s <;> rfl
theorem tidyRt_eq (rt rt0 : Rts) (l : List Nat) : l.filterMap (fun i => ((rt0 i).bind (·.tidy rt)).map (fun r => (i, r))) = tidyRt rt rt0 l := by
  induction l with
  | nil => rfl
  | cons s l ih =>
    rw [List.filterMap_cons, ih]
    simp only [tidyRt]
    cases rt0 s with
    | none => rfl
    | some r =>
      simp only [Option.bind_some]
      cases r.tidy rt <;> rfl
theorem renRt_eq (rt : Rts) (m : List Nat) (rt0 : Rts) (l : List Nat) : l.filterMap (fun i => ((rt0 i).bind (·.tidy rt)).map (fun r => ((renId m i).getD 0, r.ren m))) = renRtF rt m rt0 l := by
  induction l with
  | nil => rfl
  | cons s l ih =>
    rw [List.filterMap_cons, ih]
    simp only [renRtF]
    cases rt0 s with
    | none => rfl
    | some r =>
      simp only [Option.bind_some]
      cases r.tidy rt <;> rfl
theorem keep_mk (sl : Nat → Option AV) (rt : Rts) (ps live : List Nat) : Fr.keep ⟨sl, rt, ps⟩ live = keepF sl rt ps live (meetsF sl rt ps live) := by
  unfold Fr.keep keepF
  simp only [meets_eq, cut_eq, tidySl_eq, tidyRt_eq]
theorem canon_mk (sl : Nat → Option AV) (rt : Rts) (ps live : List Nat) : Fr.canon ⟨sl, rt, ps⟩ live = canonF sl rt ps live (meetsF sl rt ps live) := by
  unfold Fr.canon canonF
  simp only [meets_eq, cut_eq, renSl_eq, renRt_eq]

/-! ### Regions with what follows -/
/-- The rest of a region, and what follows. -/
inductive Rest where
  | mk (keep : List Nat) (K : Kont) (l : List POp)
inductive RestD where
  | mk (keep : List Nat) (K : Kont) (l : List (Nat × POp))
def goOps (call : Call) (keep : List Nat) (K : Kont) : List POp → Fr → Option Res
  | [], fr => K .normal (fr.keep keep)
  | p :: l, fr =>
    match fr.step call p with
    | some fr => goOps call keep K l fr
    | none => none
def goDops (call : Call) (keep : List Nat) (K : Kont) : List (Nat × POp) → Fr → Option Res
  | [], fr => K .normal (fr.keep keep)
  | p :: l, fr =>
    match fr.stepD call p.2 with
    | some fr => goDops call keep K l fr
    | none => none
def opsK (call : Call) (r : Rest) (fr : Fr) : Option Res :=
  match r with
  | .mk keep K l => goOps call keep K l fr
def dopsK (call : Call) (r : RestD) (fr : Fr) : Option Res :=
  match r with
  | .mk keep K l => goDops call keep K l fr
def thenP (call : Call) (r : Rest) : Option Fr → Option Res
  | some fr => opsK call r fr
  | none => none
def thenD (call : Call) (r : RestD) : Option Fr → Option Res
  | some fr => dopsK call r fr
  | none => none
theorem opsK_nil (call : Call) (keep : List Nat) (K : Kont) (fr : Fr) : opsK call (.mk keep K []) fr = K .normal (fr.keep keep) := rfl
theorem opsK_cons (call : Call) (keep : List Nat) (K : Kont) (p : POp) (l : List POp) (fr : Fr) : opsK call (.mk keep K (p :: l)) fr = thenP call (.mk keep K l) (fr.step call p) := by
  simp only [opsK, goOps]
  cases fr.step call p <;> rfl
theorem dopsK_nil (call : Call) (keep : List Nat) (K : Kont) (fr : Fr) : dopsK call (.mk keep K []) fr = K .normal (fr.keep keep) := rfl
theorem dopsK_cons (call : Call) (keep : List Nat) (K : Kont) (i : Nat) (p : POp) (l : List (Nat × POp)) (fr : Fr) : dopsK call (.mk keep K ((i, p) :: l)) fr = thenD call (.mk keep K l) (fr.stepD call p) := by
  simp only [dopsK, goDops]
  cases fr.stepD call p <;> rfl
theorem thenP_some (call : Call) (r : Rest) (fr : Fr) : thenP call r (some fr) = opsK call r fr := rfl
theorem thenP_none (call : Call) (r : Rest) : thenP call r none = none := rfl
theorem thenD_some (call : Call) (r : RestD) (fr : Fr) : thenD call r (some fr) = dopsK call r fr := rfl
theorem thenD_none (call : Call) (r : RestD) : thenD call r none = none := rfl
theorem thenP_ite (call : Call) (r : Rest) {c : Prop} [Decidable c] (p q : Option Fr) : thenP call r (if c then p else q) = if c then thenP call r p else thenP call r q := by split <;> rfl
theorem thenD_ite (call : Call) (r : RestD) {c : Prop} [Decidable c] (p q : Option Fr) : thenD call r (if c then p else q) = if c then thenD call r p else thenD call r q := by split <;> rfl
section
variable {call : Call} {n : Nat}
theorem K_ops (l : List POp) (keep : List Nat) (K : Kont) (fr : Fr) : runK call n (.ops l keep) K fr = opsK call (.mk keep K l) fr := by
  simp only [runK, opsK]
  induction l generalizing fr with
  | nil => rfl
  | cons p l ih =>
    simp only [Fr.steps, goOps]
    cases h : fr.step call p with
    | none => rfl
    | some fr1 => exact ih fr1
theorem K_dops (l : List (Nat × POp)) (keep : List Nat) (K : Kont) (fr : Fr) : runK call n (.dops l keep) K fr = dopsK call (.mk keep K l) fr := by
  simp only [runK, dopsK]
  induction l generalizing fr with
  | nil => rfl
  | cons p l ih =>
    simp only [Fr.stepsD, goDops]
    cases h : fr.stepD call p.2 with
    | none => rfl
    | some fr1 => exact ih fr1
theorem K_seq (a b : PC) (K : Kont) (fr : Fr) : runK call n (.seq a b) K fr = runK call n a (kSeq (runK call n b K) K) fr := rfl
theorem K_block (id : Nat) (c : PC) (K : Kont) (fr : Fr) : runK call n (.block id c) K fr = runK call n c (kBlock id K) fr := rfl
theorem K_exit (id : Nat) (K : Kont) (fr : Fr) : runK call n (.exit id) K fr = K (.exit id) fr := rfl
theorem K_ret (K : Kont) (fr : Fr) : runK call n .ret K fr = K .ret fr := rfl
theorem K_skip (K : Kont) (fr : Fr) : runK call n .skip K fr = K .normal fr := rfl
def condK (a b : Option Res) : Option Value → Option Res
  | some (.bool t) => if t = true then a else b
  | _ => none
theorem K_cond (c : Opd) (a b : PC) (K : Kont) (fr : Fr) : runK call n (.cond c a b) K fr = condK (runK call n a K fr) (runK call n b K fr) (evV fr.ev c) := by
  simp only [runK]
  cases evV fr.ev c with
  | none => rfl
  | some v => cases v <;> rfl
theorem step_o (fr : Fr) (d : Nat) (p : PO) : fr.step call (o d p) = doneP fr d (act call fr.ev fr.tup fr.rt d p) := by
  show fr.exec call (o d p) = _
  unfold Fr.exec
  simp only [o, mask, merge, Option.getD_some, Hide.hid, Bool.not_false, Bool.and_true]
  cases act call fr.ev fr.tup fr.rt d p with
  | none => rfl
  | some x =>
    obtain ⟨a, rt⟩ := x
    simp only [doneP, pres_eq]
    rfl
theorem act_undef {ev : Ev} {tp : Nat → Option (List A1)} {rt : Rts} {m : Nat} {a y : Opd} {d : Nat} {av : AV} {rt1 : Rts} (h : act call ev tp rt d (.st m a y) = some (av, rt1)) : av = .undef := by
  simp only [act] at h
  split at h
  · split at h
    · rw [Option.map_eq_some_iff] at h
      obtain ⟨_, _, h⟩ := h
      injection h with h
      exact h.symm
    · cases h
  · cases h
theorem step_u (fr : Fr) (m : Nat) (a y : Opd) : fr.step call (u (.st m a y)) = doneU fr (act call fr.ev fr.tup fr.rt 0 (.st m a y)) := by
  show fr.exec call (u (.st m a y)) = _
  unfold Fr.exec
  simp only [u, mask, merge, Option.getD_none, Hide.hid, Bool.not_false, Bool.and_true]
  cases h : act call fr.ev fr.tup fr.rt 0 (.st m a y) with
  | none => rfl
  | some x =>
    obtain ⟨av, rt⟩ := x
    have := act_undef h
    subst this
    rfl
def guardP (go skip : Option Fr) (want : Bool) : Option AV → Option Fr
  | some (.v (.s (.c (.val (.bool b))))) => if b = want then go else skip
  | some .undef => skip
  | _ => none
theorem step_g (fr : Fr) (d : Nat) (p : PO) (s : Nat) (w : Bool) : fr.step call ⟨some d, some (s, w), .no, .no, [], [], p⟩ = guardP (doneP fr d (act call fr.ev fr.tup fr.rt d p)) (some ⟨upd fr.sl d .undef, fr.rt, fr.ps⟩) w (fr.sl s) := by
  have h := step_o (call := call) fr d p
  have e : fr.exec call ⟨some d, some (s, w), .no, .no, [], [], p⟩ = fr.step call (o d p) := rfl
  unfold Fr.step
  simp only [e, h]
  cases fr.sl s with
  | none => rfl
  | some a =>
    cases a with
    | undef => rfl
    | tup as => rfl
    | v a =>
      cases a with
      | agg _ => rfl
      | fn _ _ => rfl
      | s x =>
        cases x with
        | c c =>
          cases c with
          | val v => cases v <;> rfl
          | _ => rfl
        | _ => rfl
/-- Slots that may be seen. -/
def seeS (b : List Nat) (sl : Nat → Option AV) (t : Nat) : Option AV := if b.contains t = true then none else sl t
def evS1 (sl : Nat → Option AV) : Opd → Option A1
  | .t n =>
    match sl n with
    | some (.v a) => some a
    | _ => none
  | .k a => some a
theorem ev_mk (sl : Nat → Option AV) (rt : Rts) (ps : List Nat) : Fr.ev ⟨sl, rt, ps⟩ = evS1 sl := by
  funext x; cases x <;> rfl
def tpS (sl : Nat → Option AV) (t : Nat) : Option (List A1) :=
  match sl t with
  | some (.tup as) => some as
  | _ => none
theorem tup_mk (sl : Nat → Option AV) (rt : Rts) (ps : List Nat) : Fr.tup ⟨sl, rt, ps⟩ = tpS sl := by
  funext x; rfl
theorem see_sl (fr : Fr) (b : List Nat) : (fr.see b).sl = seeS b fr.sl := by
  funext t; rfl
def doneQ (fr : Fr) (d : Nat) : Option (AV × Rts) → Option Fr
  | some (a, _) => if pres fr.rt a.ids = true then some ⟨upd fr.sl d a, fr.rt, fr.ps⟩ else none
  | none => none
/-- Quiet operations of drawn regions. -/
theorem stepD_q (fr : Fr) (d : Nat) (p : PO) (h m : Hide) (anc bl : List Nat) (hq : p.quiet = true) : fr.stepD call ⟨some d, none, h, m, anc, bl, p⟩ = doneQ fr d (act call (evS1 (seeS bl fr.sl)) (tpS (seeS bl fr.sl)) (mask h fr.rt) d p) := by
  show fr.execD call ⟨some d, none, h, m, anc, bl, p⟩ = _
  unfold Fr.execD
  rw [if_pos hq]
  have e1 : (fr.see bl).ev = evS1 (seeS bl fr.sl) := by rw [← see_sl]; exact ev_mk _ _ _
  have e2 : (fr.see bl).tup = tpS (seeS bl fr.sl) := by rw [← see_sl]; exact tup_mk _ _ _
  simp only [e1, e2, Option.getD_some]
  cases act call (evS1 (seeS bl fr.sl)) (tpS (seeS bl fr.sl)) (mask h fr.rt) d p with
  | none => rfl
  | some x =>
    obtain ⟨a, rt⟩ := x
    simp only [doneQ, pres_eq]
    rfl
def hidAll (h : Hide) : List Nat → Bool
  | [] => true
  | i :: l => h.hid i && hidAll h l
theorem hidAll_eq (h : Hide) (l : List Nat) : l.all (fun i => h.hid i) = hidAll h l := by
  induction l with
  | nil => rfl
  | cons i l ih => simp only [List.all_cons, ih, hidAll]
theorem hidAll_all (l : List Nat) : hidAll .all l = true := by
  induction l with
  | nil => rfl
  | cons i l ih => simp only [hidAll, ih]; rfl
/-- Loud ones. -/
theorem stepD_l (fr : Fr) (d : Nat) (p : PO) (h m : Hide) (anc bl : List Nat) (hq : p.quiet = false) : fr.stepD call ⟨some d, none, h, m, anc, bl, p⟩ = if hidAll m (touch (evS1 (seeS bl fr.sl)) p) = true then doneP fr d (act call (evS1 (seeS bl fr.sl)) (tpS (seeS bl fr.sl)) fr.rt d p) else none := by
  show fr.execD call ⟨some d, none, h, m, anc, bl, p⟩ = _
  unfold Fr.execD
  simp only [hq, Bool.false_eq_true, if_false]
  have e1 : (fr.see bl).ev = evS1 (seeS bl fr.sl) := by rw [← see_sl]; exact ev_mk _ _ _
  have e2 : (fr.see bl).tup = tpS (seeS bl fr.sl) := by rw [← see_sl]; exact tup_mk _ _ _
  simp only [e1, e2, Option.getD_some, hidAll_eq]
  split
  · cases act call (evS1 (seeS bl fr.sl)) (tpS (seeS bl fr.sl)) fr.rt d p with
    | none => rfl
    | some x =>
      obtain ⟨a, rt⟩ := x
      simp only [doneP, pres_eq]
      rfl
  · rfl
theorem stepD_mk (fr : Fr) (d : Nat) (p : PO) (h m : Hide) (anc bl : List Nat) : fr.stepD call ⟨some d, none, h, m, anc, bl, p⟩ =
    if p.quiet = true then doneQ fr d (act call (evS1 (seeS bl fr.sl)) (tpS (seeS bl fr.sl)) (mask h fr.rt) d p)
    else if hidAll m (touch (evS1 (seeS bl fr.sl)) p) = true then doneP fr d (act call (evS1 (seeS bl fr.sl)) (tpS (seeS bl fr.sl)) fr.rt d p) else none := by
  cases hq : p.quiet with
  | true => rw [if_pos rfl, stepD_q _ _ _ _ _ _ _ hq]
  | false => rw [if_neg (by simp), stepD_l _ _ _ _ _ _ _ hq]
def guardD (go skip : Option Fr) (want : Bool) : Option AV → Option Fr
  | some (.v (.s (.c (.val (.bool b))))) => if b = want then go else skip
  | some .undef => skip
  | _ => none
theorem stepD_g (fr : Fr) (d : Nat) (p : PO) (s : Nat) (w : Bool) (h m : Hide) (anc bl : List Nat) : fr.stepD call ⟨some d, some (s, w), h, m, anc, bl, p⟩ = guardP (fr.stepD call ⟨some d, none, h, m, anc, bl, p⟩) (some ⟨upd fr.sl d .undef, fr.rt, fr.ps⟩) w (seeS bl fr.sl s) := by
  have e : fr.execD call ⟨some d, some (s, w), h, m, anc, bl, p⟩ = fr.stepD call ⟨some d, none, h, m, anc, bl, p⟩ := rfl
  unfold Fr.stepD
  simp only [e, see_sl]
  cases seeS bl fr.sl s with
  | none => rfl
  | some a =>
    cases a with
    | undef => rfl
    | tup as => rfl
    | v a =>
      cases a with
      | agg _ => rfl
      | fn _ _ => rfl
      | s x =>
        cases x with
        | c c =>
          cases c with
          | val v => cases v <;> rfl
          | _ => rfl
        | _ => rfl
theorem stepD_u (fr : Fr) (x : Nat) (a y : Opd) (h m : Hide) (anc bl : List Nat) : fr.stepD call ⟨none, none, h, m, anc, bl, .st x a y⟩ = if hidAll m (touch (evS1 (seeS bl fr.sl)) (.st x a y)) = true then doneU fr (act call (evS1 (seeS bl fr.sl)) (tpS (seeS bl fr.sl)) fr.rt 0 (.st x a y)) else none := by
  show fr.execD call ⟨none, none, h, m, anc, bl, .st x a y⟩ = _
  unfold Fr.execD
  simp only [PO.quiet, Bool.false_eq_true, if_false]
  have e1 : (fr.see bl).ev = evS1 (seeS bl fr.sl) := by rw [← see_sl]; exact ev_mk _ _ _
  have e2 : (fr.see bl).tup = tpS (seeS bl fr.sl) := by rw [← see_sl]; exact tup_mk _ _ _
  simp only [e1, e2, Option.getD_none, hidAll_eq]
  split
  · cases hact : act call (evS1 (seeS bl fr.sl)) (tpS (seeS bl fr.sl)) fr.rt 0 (.st x a y) with
    | none => rfl
    | some z =>
      obtain ⟨av, rt⟩ := z
      have := act_undef hact
      subst this
      rfl
  · rfl

/-! ### Loops -/
theorem K_start {live : List Nat} {c : PC} {K : Kont} {fr fr' : Fr} (h : fr.canon live = fr'.canon live) : runK call n (.loop live c) K fr = runK call n (.loop live c) K fr' := by
  show iterK _ K n fr = iterK _ K n fr'
  cases n with
  | zero => rfl
  | succ n => simp only [iterK, h]
theorem K_loop {σ : Type} (F : σ → Fr) (G : σ → Option Res) (m : σ → Nat) (I : σ → Prop) {live : List Nat} {c : PC} {K : Kont}
    (h : ∀ s, I s → ∀ k : Fr → Option Res, (∀ s', I s' → m s' < m s → k (F s') = G s') → runK call n c (kSeq k K) ((F s).canon live) = G s) :
    ∀ s, I s → m s < n → runK call n (.loop live c) K (F s) = G s := by
  have key : ∀ (j : Nat) (s : σ), I s → m s < j → iterK (fun K fr => runK call n c K (fr.canon live)) K j (F s) = G s := by
    intro j
    induction j with
    | zero => intro s _ h; omega
    | succ j ih =>
      intro s hs hj
      exact h s hs _ (fun s' hs' hlt => ih s' hs' (by omega))
  exact fun s hs hn => key n s hs hn
/-- A loop that counts. -/
theorem K_for (F : Nat → Fr) (lo hi : Nat) {live : List Nat} {c : PC} {K : Kont} {R : Option Res} (hle : lo ≤ hi) (hf : hi - lo < n)
    (hbody : ∀ i, lo ≤ i → i < hi → ∀ K, runK call n c K ((F i).canon live) = K .normal (F (i + 1)))
    (hend : ∀ k, runK call n c (kSeq k K) ((F hi).canon live) = R) : runK call n (.loop live c) K (F lo) = R := by
  refine K_loop F (fun _ => R) (fun i => hi - i) (fun i => lo ≤ i ∧ i ≤ hi) ?_ lo ⟨Nat.le_refl _, hle⟩ hf
  intro i ⟨h1, h2⟩ k hk
  by_cases h : i < hi
  · rw [hbody i h1 h]
    exact hk (i + 1) ⟨by omega, by omega⟩ (by omega)
  · have : i = hi := by omega
    subst this
    exact hend k
/-- The same, where what is owned gets another number on the way. -/
theorem K_for2 (F F' : Nat → Fr) (lo hi : Nat) {live : List Nat} {c : PC} {K : Kont} {R : Option Res} (hle : lo ≤ hi) (hf : hi - lo < n)
    (hcan : ∀ i, lo < i → i ≤ hi → (F' i).canon live = (F i).canon live)
    (hbody : ∀ i, lo ≤ i → i < hi → ∀ K, runK call n c K ((F i).canon live) = K .normal (F' (i + 1)))
    (hend : ∀ k, runK call n c (kSeq k K) ((F hi).canon live) = R) : runK call n (.loop live c) K (F lo) = R := by
  refine K_loop (fun s : Bool × Nat => if s.1 then F' s.2 else F s.2) (fun _ => R) (fun s => hi - s.2) (fun s => lo ≤ s.2 ∧ s.2 ≤ hi ∧ (s.1 = true → lo < s.2)) ?_ (false, lo) ⟨Nat.le_refl _, hle, fun h => by cases h⟩ hf
  rintro ⟨b, i⟩ ⟨h1, h2, h3⟩ k hk
  have hc : (if b then F' i else F i).canon live = (F i).canon live := by
    cases b with
    | false => rfl
    | true => exact hcan i (h3 rfl) h2
  show runK call n c (kSeq k K) ((if b then F' i else F i).canon live) = R
  rw [hc]
  simp only at h1 h2
  by_cases h : i < hi
  · rw [hbody i h1 h]
    exact hk (true, i + 1) ⟨by simp; omega, by simp; omega, fun _ => by simp; omega⟩ (by simp; omega)
  · have : i = hi := by omega
    subst this
    exact hend k
end
section
variable (k : Fr → Option Res) (K : Kont) (fr : Fr) (d : Nat) (a : AV) (rt : Rts) (x y : Option Res) (b w : Bool) (go skip : Option Fr) (i id : Nat)
theorem doneP_some : doneP fr d (some (a, rt)) = if pres rt a.ids = true then some ⟨upd fr.sl d a, rt, fr.ps⟩ else none := rfl
theorem doneU_some : doneU fr (some (a, rt)) = some ⟨fr.sl, rt, fr.ps⟩ := rfl
theorem doneQ_some : doneQ fr d (some (a, rt)) = if pres fr.rt a.ids = true then some ⟨upd fr.sl d a, fr.rt, fr.ps⟩ else none := rfl
theorem guardP_b : guardP go skip w (some (.v (.s (.c (.val (.bool b)))))) = if b = w then go else skip := rfl
theorem guardP_u : guardP go skip w (some .undef) = skip := rfl
theorem condK_b : condK x y (some (.bool b)) = if b = true then x else y := rfl
theorem kSeq_n : kSeq k K .normal fr = k fr := rfl
theorem kSeq_e : kSeq k K (.exit i) fr = K (.exit i) fr := rfl
theorem kSeq_r : kSeq k K .ret fr = K .ret fr := rfl
theorem kBlock_n : kBlock id K .normal fr = K .normal fr := rfl
theorem kBlock_e : kBlock id K (.exit i) fr = if i = id then K .normal fr else K (.exit i) fr := rfl
theorem kBlock_r : kBlock id K .ret fr = K .ret fr := rfl
end
theorem q_mv (x : Opd) : (PO.mv x).quiet = true := rfl
theorem q_mvt (x : Nat) : (PO.mvt x).quiet = true := rfl
theorem q_pick (x y z : Opd) : (PO.pick x y z).quiet = true := rfl
theorem q_build (z : List SV) (p : List (Nat × Nat × Opd)) : (PO.build z p).quiet = true := rfl
theorem q_ld (g : Bool) (n : Nat) (x : Opd) : (PO.ld g n x).quiet = true := rfl
theorem q_nchk (x : Opd) : (PO.nchk x).quiet = true := rfl
theorem q_bin (p : BinOp) (x y : Opd) : (PO.bin p x y).quiet = true := rfl
theorem q_eqb (g : Bool) (x y : Opd) : (PO.eqb g x y).quiet = true := rfl
theorem q_eqs (g : Bool) (ks : List Nat) (x y : Opd) : (PO.eqs g ks x y).quiet = true := rfl
theorem q_un (p : UnOp) (x : Opd) : (PO.un p x).quiet = true := rfl
theorem q_conv (p : IntKind) (x : Opd) : (PO.conv p x).quiet = true := rfl
theorem q_b2s (x : Opd) : (PO.b2s x).quiet = true := rfl
theorem q_fa (n : Nat) (x : Opd) : (PO.fa n x).quiet = true := rfl
theorem q_ia (n : Nat) (x y : Opd) : (PO.ia n x y).quiet = true := rfl
theorem q_iap (m n : Nat) (x y : Opd) : (PO.iap m n x y).quiet = true := rfl
theorem q_ixs (x y : Opd) : (PO.ixs x y).quiet = true := rfl
theorem q_ixa (g : Bool) (m n : Nat) (x y : Opd) : (PO.ixa g m n x y).quiet = true := rfl
theorem q_fld (g : Bool) (m n : Nat) (x : Opd) : (PO.fld g m n x).quiet = true := rfl
theorem q_slc (n : Nat) (x : Opd) (l h : Option Opd) : (PO.slc n x l h).quiet = true := rfl
theorem q_slcs (x : Opd) (l h : Option Opd) : (PO.slcs x l h).quiet = true := rfl
theorem q_ext (m n : Nat) : (PO.ext m n).quiet = true := rfl
theorem q_len (g : Bool) (x : Opd) : (PO.len g x).quiet = true := rfl
theorem q_mm (g : Bool) (x : List Opd) : (PO.mm g x).quiet = true := rfl
theorem q_mkf (n : Nat) (x : List Opd) : (PO.mkf n x).quiet = true := rfl
theorem q_mkn (k : K) : (PO.mkn k).quiet = false := rfl
theorem q_box (x : Opd) : (PO.box x).quiet = false := rfl
theorem q_alloc (z : List SV) : (PO.alloc z).quiet = false := rfl
theorem q_bs (k : K) (x : List Opd) : (PO.bs k x).quiet = false := rfl
theorem q_st (n : Nat) (x y : Opd) : (PO.st n x y).quiet = false := rfl
theorem q_app (k : K) (n : Nat) (x y : Opd) : (PO.app k n x y).quiet = false := rfl
theorem q_call (n : Nat) (q : List (Bool × Opd)) : (PO.call n q).quiet = false := rfl
theorem q_mks (k : K) (n : Nat) (z : List C) (x y : Opd) : (PO.mks k n z x y).quiet = false := rfl
attribute [simp] upd_at asl_nil asl_cons pres idsIn tidySl tidyRt renSl renRtF idsRt cutL meetsF keepF canonF keep_mk canon_mk opsK_nil opsK_cons dopsK_nil dopsK_cons K_ops K_dops K_seq K_block K_exit K_ret K_skip K_cond step_o step_u step_g seeS evS1 ev_mk tpS tup_mk stepD_mk stepD_g stepD_u hidAll hidAll_all
  thenP_some thenP_none thenD_some thenD_none doneP_some doneU_some doneQ_some guardP_b guardP_u condK_b kSeq_n kSeq_e kSeq_r kBlock_n kBlock_e kBlock_r thenP_ite thenD_ite
  q_mv q_mvt q_pick q_build q_ld q_nchk q_bin q_eqb q_eqs q_un q_conv q_b2s q_fa q_ia q_iap q_ixs q_ixa q_fld q_slc q_slcs q_ext q_len q_mm q_mkf q_mkn q_box q_alloc q_bs q_st q_app q_call q_mks
  evS evV evI evC A1.cells act mask merge Hide.hid touch idsS idsC SV.ids A1.ids AV.ids Root.ids mapO addIds renId SV.tidy A1.tidy AV.tidy Root.tidy SV.ren A1.ren AV.ren Root.ren initFr initSl initRt initArg finish resAt takesR take1 take Root.fin
  binS unS eqCell cont C.shape C.flat C.get C.elem C.sub C.all C.isVal C.isSlice rowAt K.empty K.sz load seg mkAgg index slice cellSV cellSVs C.set C.setElem setSeg store takes okDeep vals fillC bsEs takesL append takeSl source cellsRes mmS eqCells SV.isVal SV.lenOf SV.addOff newRt nid SV.isPtr
  argOf callR snap1 snap snapC valsRes valRes cellRes retAV RV.n RC.free RV.free mfree back apartB argHas
end Go.Proofs.Ytkiklfcfdopplaa.T
