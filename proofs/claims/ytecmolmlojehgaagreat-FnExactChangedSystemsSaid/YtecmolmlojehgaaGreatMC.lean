/- The abstract executor without fuel: what a function gives in the end, and code with what follows it. What a tree says of memory: who owns which block, and what stays true while others' blocks change. The steps of which operations are made: taking, making anew, exchanging. -/
import Derived.Test.YtecmolmlojehgaaGreatMA
import Derived.Calls
import Derived.LoopN
import Derived.Orders
import Derived.Below
import Derived.Laws.Append
namespace Go.Proofs.YtecmolmlojehgaaGreat.T
open Go

abbrev Call := Nat → List Arg → Option Res
/-- What c gives, c' gives too. -/
def Call.Le (c c' : Call) : Prop := ∀ f a r, c f a = some r → c' f a = some r
/-- What c gives, all but finitely many of the row give. -/
def Call.Lim (c : Call) (cs : Nat → Call) : Prop := ∀ f a r, c f a = some r → ∃ m, ∀ k, m ≤ k → cs k f a = some r
section
variable {c c' : Call} {cs : Nat → Call}
theorem callR_lim (h : c.Lim cs) {ev : Ev} {rt : Rts} {dst f : Nat} {qs : List (Bool × Opd)} {x : AV × Rts} (hx : callR c ev rt dst f qs = some x) : ∃ m, ∀ k, m ≤ k → callR (cs k) ev rt dst f qs = some x := by
  unfold callR at hx ⊢
  split at hx
  · split at hx
    · rename_i r hr
      obtain ⟨m, hm⟩ := h _ _ _ hr
      refine ⟨m, fun k hk => ?_⟩
      simp only [hm k hk]
      exact hx
    · cases hx
  · cases hx
theorem act_lim (h : c.Lim cs) {ev : Ev} {tp : Nat → Option (List A1)} {rt : Rts} {dst : Nat} {p : PO} {x : AV × Rts} (hx : act c ev tp rt dst p = some x) : ∃ m, ∀ k, m ≤ k → act (cs k) ev tp rt dst p = some x := by
  cases p with
  | call f qs => exact callR_lim h hx
  | callv f qs =>
    simp only [act] at hx ⊢
    split at hx
    · unfold callvR at hx ⊢
      split at hx
      · split at hx
        · rename_i hc
          simp only [hc, if_true]
          exact callR_lim h hx
        · cases hx
      · cases hx
    · cases hx
  | _ => exact ⟨0, fun k _ => hx⟩
theorem exec_lim (h : c.Lim cs) {fr fr' : Fr} {o : POp} (hx : fr.exec c o = some fr') : ∃ m, ∀ k, m ≤ k → fr.exec (cs k) o = some fr' := by
  unfold Fr.exec at hx ⊢
  split at hx
  · rename_i a rt hact
    obtain ⟨m, hm⟩ := act_lim h hact
    exact ⟨m, fun k hk => by simp only [hm k hk]; exact hx⟩
  · cases hx
theorem step_lim (h : c.Lim cs) {fr fr' : Fr} {o : POp} (hx : fr.step c o = some fr') : ∃ m, ∀ k, m ≤ k → fr.step (cs k) o = some fr' := by
  unfold Fr.step at hx ⊢
  split at hx
  · exact exec_lim h hx
  · split at hx
    · split at hx
      · rename_i hb
        simp only [hb, if_true]
        exact exec_lim h hx
      · rename_i hb
        exact ⟨0, fun k _ => by simp only [hb, if_false]; exact hx⟩
    · exact ⟨0, fun k _ => hx⟩
    · cases hx
theorem steps_lim (h : c.Lim cs) : ∀ {l : List POp} {fr fr' : Fr}, fr.steps c l = some fr' → ∃ m, ∀ k, m ≤ k → fr.steps (cs k) l = some fr'
  | [], fr, fr', hx => ⟨0, fun _ _ => hx⟩
  | o :: l, fr, fr', hx => by
    simp only [Fr.steps] at hx ⊢
    split at hx
    · rename_i fr1 h1
      obtain ⟨m1, hm1⟩ := step_lim h h1
      obtain ⟨m2, hm2⟩ := steps_lim h hx
      exact ⟨max m1 m2, fun k hk => by simp only [hm1 k (by omega)]; exact hm2 k (by omega)⟩
    · cases hx
theorem execD_lim (h : c.Lim cs) {fr fr' : Fr} {o : POp} (hx : fr.execD c o = some fr') : ∃ m, ∀ k, m ≤ k → fr.execD (cs k) o = some fr' := by
  unfold Fr.execD at hx ⊢
  split at hx
  · rename_i hq
    simp only [hq, if_true]
    split at hx
    · rename_i a rt hact
      obtain ⟨m, hm⟩ := act_lim h hact
      exact ⟨m, fun k hk => by simp only [hm k hk]; exact hx⟩
    · cases hx
  · rename_i hq
    simp only [hq, if_false]
    split at hx
    · rename_i hq2
      simp only [hq2, if_true]
      split at hx
      · rename_i a rt hact
        obtain ⟨m, hm⟩ := act_lim h hact
        exact ⟨m, fun k hk => by simp only [hm k hk]; exact hx⟩
      · cases hx
    · cases hx
theorem stepD_lim (h : c.Lim cs) {fr fr' : Fr} {o : POp} (hx : fr.stepD c o = some fr') : ∃ m, ∀ k, m ≤ k → fr.stepD (cs k) o = some fr' := by
  unfold Fr.stepD at hx ⊢
  split at hx
  · exact execD_lim h hx
  · split at hx
    · split at hx
      · rename_i hb
        simp only [hb, if_true]
        exact execD_lim h hx
      · rename_i hb
        exact ⟨0, fun k _ => by simp only [hb, if_false]; exact hx⟩
    · exact ⟨0, fun k _ => hx⟩
    · cases hx
theorem stepsD_lim (h : c.Lim cs) : ∀ {l : List (Nat × POp)} {fr fr' : Fr}, fr.stepsD c l = some fr' → ∃ m, ∀ k, m ≤ k → fr.stepsD (cs k) l = some fr'
  | [], fr, fr', hx => ⟨0, fun _ _ => hx⟩
  | o :: l, fr, fr', hx => by
    simp only [Fr.stepsD] at hx ⊢
    split at hx
    · rename_i fr1 h1
      obtain ⟨m1, hm1⟩ := stepD_lim h h1
      obtain ⟨m2, hm2⟩ := stepsD_lim h hx
      exact ⟨max m1 m2, fun k hk => by simp only [hm1 k (by omega)]; exact hm2 k (by omega)⟩
    · cases hx
theorem runC_lim (h : c.Lim cs) {n : Nat} : ∀ (pc : PC) {fr : Fr} {x : Ex × Fr}, runC c n pc fr = some x → ∃ m, ∀ k, m ≤ k → ∀ n', n ≤ n' → runC (cs k) n' pc fr = some x
  | .skip, fr, x, hx => ⟨0, fun _ _ _ _ => hx⟩
  | .exit i, fr, x, hx => ⟨0, fun _ _ _ _ => hx⟩
  | .ret, fr, x, hx => ⟨0, fun _ _ _ _ => hx⟩
  | .ops l k, fr, x, hx => by
    simp only [runC, Option.map_eq_some_iff] at hx ⊢
    obtain ⟨fr1, h1, rfl⟩ := hx
    obtain ⟨m, hm⟩ := steps_lim h h1
    exact ⟨m, fun k hk _ _ => ⟨fr1, hm k hk, rfl⟩⟩
  | .dops l k, fr, x, hx => by
    simp only [runC, Option.map_eq_some_iff] at hx ⊢
    obtain ⟨fr1, h1, rfl⟩ := hx
    obtain ⟨m, hm⟩ := stepsD_lim h h1
    exact ⟨m, fun k hk _ _ => ⟨fr1, hm k hk, rfl⟩⟩
  | .seq a b, fr, x, hx => by
    simp only [runC] at hx ⊢
    split at hx
    · rename_i fr1 h1
      obtain ⟨m1, hm1⟩ := runC_lim h a h1
      obtain ⟨m2, hm2⟩ := runC_lim h b hx
      exact ⟨max m1 m2, fun k hk n' hn' => by simp only [hm1 k (by omega) n' hn']; exact hm2 k (by omega) n' hn'⟩
    · rename_i hne
      obtain ⟨m1, hm1⟩ := runC_lim h a hx
      refine ⟨m1, fun k hk n' hn' => ?_⟩
      simp only [hm1 k hk n' hn']
      obtain ⟨e, fr1⟩ := x
      cases e with
      | normal => exact absurd hx (hne fr1)
      | exit i => rfl
      | ret => rfl
  | .cond q a b, fr, x, hx => by
    simp only [runC] at hx ⊢
    split at hx
    · rename_i t ht
      cases t with
      | true => exact runC_lim h a (by simpa using hx)
      | false => exact runC_lim h b (by simpa using hx)
    · cases hx
  | .block id a, fr, x, hx => by
    simp only [runC] at hx ⊢
    split at hx
    · rename_i j fr1 h1
      obtain ⟨m1, hm1⟩ := runC_lim h a h1
      exact ⟨m1, fun k hk n' hn' => by simp only [hm1 k hk n' hn']; exact hx⟩
    · rename_i hne
      obtain ⟨m1, hm1⟩ := runC_lim h a hx
      refine ⟨m1, fun k hk n' hn' => ?_⟩
      simp only [hm1 k hk n' hn']
      obtain ⟨e, fr1⟩ := x
      cases e with
      | normal => rfl
      | exit i => exact absurd hx (hne i fr1)
      | ret => rfl
  | .loop live a, fr, x, hx => by
    simp only [runC] at hx ⊢
    have key : ∀ (j : Nat) (fr : Fr), j ≤ n → iter (fun fr => runC c n a (fr.canon live)) j fr = some x → ∃ m, ∀ k, m ≤ k → ∀ n', n ≤ n' → iter (fun fr => runC (cs k) n' a (fr.canon live)) (n' - (n - j)) fr = some x := by
      intro j
      induction j with
      | zero => intro fr _ hx; cases hx
      | succ j ih =>
        intro fr hj hx
        simp only [iter] at hx
        split at hx
        · rename_i fr1 h1
          obtain ⟨m1, hm1⟩ := runC_lim h a h1
          obtain ⟨m2, hm2⟩ := ih fr1 (by omega) hx
          refine ⟨max m1 m2, fun k hk n' hn' => ?_⟩
          obtain ⟨i, hi⟩ : ∃ i, n' - (n - (j + 1)) = i + 1 := ⟨n' - (n - (j + 1)) - 1, by omega⟩
          rw [hi]
          simp only [iter, hm1 k (by omega) n' hn']
          have := hm2 k (by omega) n' hn'
          rw [show n' - (n - j) = i by omega] at this
          exact this
        · rename_i hne
          obtain ⟨m1, hm1⟩ := runC_lim h a hx
          refine ⟨m1, fun k hk n' hn' => ?_⟩
          obtain ⟨i, hi⟩ : ∃ i, n' - (n - (j + 1)) = i + 1 := ⟨n' - (n - (j + 1)) - 1, by omega⟩
          rw [hi]
          simp only [iter, hm1 k hk n' hn']
          obtain ⟨e, fr1⟩ := x
          cases e with
          | normal => exact absurd hx (hne fr1)
          | exit i => rfl
          | ret => rfl
    obtain ⟨m, hm⟩ := key n fr (Nat.le_refl _) hx
    exact ⟨m, fun k hk n' hn' => by
      have := hm k hk n' hn'
      rw [Nat.sub_self, Nat.sub_zero] at this
      exact this⟩
theorem runG_lim (h : c.Lim cs) {n : Nat} {g : List Nat} {pf : PFunc} {args : List Arg} {r : Res} (hx : runG c n g pf args = some r) : ∃ m, ∀ k, m ≤ k → ∀ n', n ≤ n' → runG (cs k) n' g pf args = some r := by
  unfold runG at hx ⊢
  split at hx
  · rename_i as has
    split at hx
    · rename_i hl
      simp only [hl, if_true]
      split at hx
      · rename_i fr1 h1
        obtain ⟨m1, hm1⟩ := runC_lim h _ h1
        exact ⟨m1, fun k hk n' hn' => by simp only [hm1 k hk n' hn']; exact hx⟩
      · rename_i fr1 h1
        obtain ⟨m1, hm1⟩ := runC_lim h _ h1
        exact ⟨m1, fun k hk n' hn' => by simp only [hm1 k hk n' hn']; exact hx⟩
      · cases hx
    · cases hx
  · cases hx
theorem runF_lim (h : c.Lim cs) {n : Nat} {pf : PFunc} {args : List Arg} {r : Res} (hx : runF c n pf args = some r) : ∃ m, ∀ k, m ≤ k → ∀ n', n ≤ n' → runF (cs k) n' pf args = some r := by
  unfold runF at hx ⊢
  split at hx
  · rename_i hl
    simp only [hl, if_true]
    split at hx
    · rename_i fr1 h1
      obtain ⟨m1, hm1⟩ := runC_lim h _ h1
      exact ⟨m1, fun k hk n' hn' => by simp only [hm1 k hk n' hn']; exact hx⟩
    · rename_i fr1 h1
      obtain ⟨m1, hm1⟩ := runC_lim h _ h1
      exact ⟨m1, fun k hk n' hn' => by simp only [hm1 k hk n' hn']; exact hx⟩
    · cases hx
  · cases hx
end

/-! ### What a function gives in the end -/
def Den (pp : PP) (f : Nat) (args : List Arg) (r : Res) : Prop := ∃ m, ∀ k, m ≤ k → den pp k f args = some r
open Classical in
noncomputable def L (pp : PP) : Call := fun f args => if h : ∃ r, Den pp f args r then some (Classical.choose h) else none
section
variable {pp : PP} {f : Nat} {args : List Arg} {r : Res}
theorem L_den : L pp f args = some r ↔ Den pp f args r := by
  unfold L
  constructor
  · intro h
    split at h
    · rename_i hh
      injection h with h
      rw [← h]
      exact Classical.choose_spec hh
    · cases h
  · intro h
    have hh : ∃ r, Den pp f args r := ⟨r, h⟩
    rw [dif_pos hh]
    obtain ⟨m1, h1⟩ := Classical.choose_spec hh
    obtain ⟨m2, h2⟩ := h
    have e1 := h1 (max m1 m2) (by omega)
    have e2 := h2 (max m1 m2) (by omega)
    exact e1.symm.trans e2
theorem L_lim : (L pp).Lim (den pp) := fun _ _ _ h => L_den.1 h
/-- A function's code, run on what the others give in the end. -/
theorem L_code {pf : PFunc} (hc : pp.code f = some pf) (hs : (shapeOf f).isEmpty = true) (n : Nat) (h : runF (L pp) n pf args = some r) : L pp f args = some r := by
  rw [L_den]
  obtain ⟨m, hm⟩ := runF_lim L_lim h
  refine ⟨max m n + 1, fun k hk => ?_⟩
  obtain ⟨j, rfl⟩ : ∃ j, k = j + 1 := ⟨k - 1, by omega⟩
  simp only [den, hc, hs, if_true]
  exact hm j (by omega) j (by omega)
theorem L_codeG {pf : PFunc} (hc : pp.code f = some pf) (hs : (shapeOf f).isEmpty = false) (n : Nat) (h : runG (L pp) n (shapeOf f) pf args = some r) : L pp f args = some r := by
  rw [L_den]
  obtain ⟨m, hm⟩ := runG_lim L_lim h
  refine ⟨max m n + 1, fun k hk => ?_⟩
  obtain ⟨j, rfl⟩ : ∃ j, k = j + 1 := ⟨k - 1, by omega⟩
  simp only [den, hc, hs, Bool.false_eq_true, if_false]
  exact hm j (by omega) j (by omega)
theorem L_hand (hc : pp.code f = none) (h : pp.hand f args = some r) : L pp f args = some r := by
  rw [L_den]
  refine ⟨1, fun k hk => ?_⟩
  obtain ⟨j, rfl⟩ : ∃ j, k = j + 1 := ⟨k - 1, by omega⟩
  simp only [den, hc]
  exact h
end

/-! ### Code, and what follows it -/
abbrev Kont := Ex → Fr → Option Res
def kSeq (k : Fr → Option Res) (K : Kont) : Kont
  | .normal, fr => k fr
  | .exit i, fr => K (.exit i) fr
  | .ret, fr => K .ret fr
def kBlock (id : Nat) (K : Kont) : Kont
  | .normal, fr => K .normal fr
  | .exit i, fr => if i = id then K .normal fr else K (.exit i) fr
  | .ret, fr => K .ret fr
def iterK (f : Kont → Fr → Option Res) (K : Kont) : Nat → Fr → Option Res
  | 0, _ => none
  | n + 1, fr => f (kSeq (iterK f K n) K) fr
def runK (call : Call) (n : Nat) : PC → Kont → Fr → Option Res
  | .skip, K, fr => K .normal fr
  | .ops l keep, K, fr => (fr.steps call l).bind (fun fr => K .normal (fr.keep keep))
  | .dops l keep, K, fr => (fr.stepsD call l).bind (fun fr => K .normal (fr.keep keep))
  | .seq a b, K, fr => runK call n a (kSeq (runK call n b K) K) fr
  | .cond c a b, K, fr =>
    match evV fr.ev c with
    | some (.bool t) => if t = true then runK call n a K fr else runK call n b K fr
    | _ => none
  | .block id c, K, fr => runK call n c (kBlock id K) fr
  | .loop live c, K, fr => iterK (fun K fr => runK call n c K (fr.canon live)) K n fr
  | .exit id, K, fr => K (.exit id) fr
  | .ret, K, fr => K .ret fr
theorem runK_eq {call : Call} {n : Nat} : ∀ (pc : PC) (K : Kont) (fr : Fr), runK call n pc K fr = (runC call n pc fr).bind (fun x => K x.1 x.2)
  | .skip, K, fr => rfl
  | .exit i, K, fr => rfl
  | .ret, K, fr => rfl
  | .ops l k, K, fr => by simp only [runK, runC, Option.bind_map]; rfl
  | .dops l k, K, fr => by simp only [runK, runC, Option.bind_map]; rfl
  | .seq a b, K, fr => by
    simp only [runK, runC, runK_eq a]
    cases h : runC call n a fr with
    | none => rfl
    | some x =>
      obtain ⟨e, fr1⟩ := x
      cases e with
      | normal => exact runK_eq b K fr1
      | exit i => rfl
      | ret => rfl
  | .cond c a b, K, fr => by
    simp only [runK, runC]
    cases evV fr.ev c with
    | none => rfl
    | some v =>
      cases v with
      | bool t =>
        cases t with
        | true => exact runK_eq a K fr
        | false => exact runK_eq b K fr
      | _ => rfl
  | .block id c, K, fr => by
    simp only [runK, runC, runK_eq c]
    cases h : runC call n c fr with
    | none => rfl
    | some x =>
      obtain ⟨e, fr1⟩ := x
      cases e with
      | normal => rfl
      | exit i =>
        simp only [Option.bind_some, kBlock]
        split <;> rfl
      | ret => rfl
  | .loop live c, K, fr => by
    simp only [runK, runC]
    generalize hm : n = m
    have key : ∀ (j : Nat) (fr : Fr), iterK (fun K fr => runK call m c K (fr.canon live)) K j fr = (iter (fun fr => runC call m c (fr.canon live)) j fr).bind (fun x => K x.1 x.2) := by
      intro j
      induction j with
      | zero => intro fr; rfl
      | succ j ih =>
        intro fr
        simp only [iterK, iter]
        rw [← hm, runK_eq c, hm]
        cases h : runC call m c (fr.canon live) with
        | none => rfl
        | some x =>
          obtain ⟨e, fr1⟩ := x
          cases e with
          | normal => exact ih fr1
          | exit i => rfl
          | ret => rfl
    exact key m fr
def kFin (pf : PFunc) : Kont
  | .normal, fr => finish pf fr
  | .ret, fr => finish pf fr
  | .exit _, _ => none
theorem runF_K {call : Call} {n : Nat} {pf : PFunc} {args : List Arg} (h : args.length = pf.np) : runF call n pf args = runK call n pf.body (kFin pf) (initFr args) := by
  rw [runK_eq]
  unfold runF
  rw [if_pos h]
  cases hr : runC call n pf.body (initFr args) with
  | none => rfl
  | some x =>
    obtain ⟨e, fr⟩ := x
    cases e <;> rfl
theorem runG_K {call : Call} {n : Nat} {g : List Nat} {pf : PFunc} {args : List Arg} {as : List A1} (hg : grpA g (initA 0 args) = some as) (h : as.length = pf.np) : runG call n g pf args = runK call n pf.body (kFin pf) (initFrG args as) := by
  rw [runK_eq]
  unfold runG
  rw [hg]
  simp only
  rw [if_pos h]
  cases hr : runC call n pf.body (initFrG args as) with
  | none => rfl
  | some x =>
    obtain ⟨e, fr⟩ := x
    cases e <;> rfl
/-- A function's code, run on what the others give in the end. -/
theorem L_run {pp : PP} {f : Nat} {pf : PFunc} {args : List Arg} {r : Res} (hc : pp.code f = some pf) (hl : args.length = pf.np) (n : Nat) (h : runK (L pp) n pf.body (kFin pf) (initFr args) = some r) (hs : (shapeOf f).isEmpty = true) : L pp f args = some r :=
  L_code hc hs n (by rw [runF_K hl]; exact h)
theorem L_runG {pp : PP} {f : Nat} {pf : PFunc} {args : List Arg} {as : List A1} {r : Res} (hc : pp.code f = some pf) (hs : (shapeOf f).isEmpty = false) (hg : grpA (shapeOf f) (initA 0 args) = some as) (hl : as.length = pf.np) (n : Nat) (h : runK (L pp) n pf.body (kFin pf) (initFrG args as) = some r) : L pp f args = some r :=
  L_codeG hc hs n (by rw [runG_K hg hl]; exact h)
end Go.Proofs.YtecmolmlojehgaaGreat.T
namespace Go.Proofs.YtecmolmlojehgaaGreat.T
open Go

/-- A root, or what was taken and is not yet put anywhere, or what is another's. -/
inductive Lb where
  | r (id : Nat)
  | t (k : Nat)
  | x
  deriving DecidableEq
abbrev Home := Nat → Option (Lb × Path)
/-- How a tree's blocks are held: by nobody, by a path of a root with all below, by a root alone. -/
inductive Tg where
  | imm
  | own (l : Lb) (p : Path)
  | top (l : Lb)
def Tg.lab : Tg → Option (Lb × Path)
  | .imm => none
  | .own l p => some (l, p)
  | .top l => some (l, [])
def Tg.ext : Tg → Nat → Nat → Tg
  | .own l p, i, j => .own l (p ++ [(i, j)])
  | _, _, _ => .imm
def Tg.exts : Tg → Path → Tg
  | t, [] => t
  | t, (i, j) :: p => (t.ext i j).exts p
theorem Tg.exts_imm (p : Path) : Tg.imm.exts p = .imm := by induction p with
  | nil => rfl
  | cons x p ih => obtain ⟨i, j⟩ := x; exact ih
theorem Tg.exts_own (l : Lb) (p q : Path) : (Tg.own l p).exts q = .own l (p ++ q) := by
  induction q generalizing p with
  | nil => simp [Tg.exts]
  | cons x q ih => obtain ⟨i, j⟩ := x; simp [Tg.exts, Tg.ext, ih]
theorem Tg.exts_top (l : Lb) (x : Nat × Nat) (q : Path) : (Tg.top l).exts (x :: q) = .imm := by
  obtain ⟨i, j⟩ := x; exact Tg.exts_imm q
theorem Tg.exts_ext (t : Tg) (i j : Nat) (q : Path) : (t.ext i j).exts q = t.exts ((i, j) :: q) := rfl

/-- What a slice's value says: its elements' cells are vs. -/
def Hdr (w : World) (home : Home) (t : Tg) (u : Value) (len tot sz : Nat) (vs : Nat → Nat → Value) : Prop :=
  0 < sz ∧ len ≤ tot ∧ ∃ a cap, u = .slice a len cap ∧ tot ≤ cap ∧ cap ≤ maxLen ∧
    match t.lab with
    | none => ∀ i j, i < tot → j < sz → ∃ b o, a = some ⟨b, o, none⟩ ∧ home b = none ∧ w.cell? ⟨b, o + (i * sz + j), none⟩ = some (vs i j)
    | some l => cap = 0 ∨ ∃ b cur e, a = some ⟨b, 0, none⟩ ∧ home b = some l ∧ w.heap[b]? = some (.cells cur e (0, 0)) ∧ cur.size = cap * sz ∧
        ∀ i j, i < tot → j < sz → cur[i * sz + j]? = some (vs i j)

theorem cell_block {w w' : World} {b o : Nat} (h : w'.heap[b]? = w.heap[b]?) : w'.cell? ⟨b, o, none⟩ = w.cell? ⟨b, o, none⟩ :=
  World.cell?_of_block (a := ⟨b, o, none⟩) h
theorem cell_row {w : World} {b o e : Nat} {cur : Array Value} {fz : Nat × Nat} (h : w.heap[b]? = some (.cells cur e fz)) : w.cell? ⟨b, o, none⟩ = cur[o]? := by
  simp [World.cell?, h]
theorem cell_lt {w : World} {b o : Nat} {v : Value} (h : w.cell? ⟨b, o, none⟩ = some v) : b < w.heap.size := World.block_lt_of_cell? w _ h
theorem heap_lt {w : World} {b : Nat} {o : Obj} (h : w.heap[b]? = some o) : b < w.heap.size := (Array.getElem?_eq_some_iff.1 h).1

theorem Hdr.move {w w' : World} {home home' : Home} {t t' : Tg} {u : Value} {len tot sz : Nat} {vs : Nat → Nat → Value} (h : Hdr w home t u len tot sz vs)
    (hm : ∀ b, b < w.heap.size → home b = t.lab → w'.heap[b]? = w.heap[b]? ∧ home' b = t'.lab) (ok : t.lab = none → t'.lab = none) : Hdr w' home' t' u len tot sz vs := by
  obtain ⟨h0, h1, a, cap, hu, ht, hc, h⟩ := h
  refine ⟨h0, h1, a, cap, hu, ht, hc, ?_⟩
  cases hl : t.lab with
  | none =>
    rw [hl] at h hm
    have hl' := ok hl
    rw [hl'] at hm ⊢
    intro i j hi hj
    obtain ⟨b, o, ha, hb, hv⟩ := h i j hi hj
    obtain ⟨e1, e2⟩ := hm b (cell_lt hv) hb
    exact ⟨b, o, ha, e2, (cell_block e1).trans hv⟩
  | some l =>
    rw [hl] at h hm
    simp only at h
    rcases h with h | ⟨b, cur, e, ha, hb, hg, hs, hv⟩
    · subst h
      have : tot = 0 := by omega
      subst this
      cases hl' : t'.lab with
      | none => intro i j hi; omega
      | some l' => exact Or.inl rfl
    · obtain ⟨e1, e2⟩ := hm b (heap_lt hg) hb
      cases hl' : t'.lab with
      | none =>
        rw [hl'] at e2
        intro i j hi hj
        exact ⟨b, 0, ha, e2, by rw [cell_row (e1.trans hg), Nat.zero_add]; exact hv i j hi hj⟩
      | some l' =>
        rw [hl'] at e2
        exact Or.inr ⟨b, cur, e, ha, e2, e1.trans hg, hs, hv⟩

/-- The tree c says what the value u is and leads to. -/
inductive CR (w : World) (home : Home) : Tg → C → Value → Prop
  | val {t : Tg} {v : Value} : v.oneCell' = true → CR w home t (.val v) v
  | fl {t : Tg} {sz : Nat} {es sp : List (List Value)} {u : Value} : (∀ e ∈ es ++ sp, e.length = sz ∧ ∀ v ∈ e, v.oneCell' = true) →
      Hdr w home t u es.length (es.length + sp.length) sz (fun i j => ((es ++ sp).getD i []).getD j undef) → CR w home t (.fl sz es sp) u
  | sl {t : Tg} {sz : Nat} {es sp : List (List C)} {u : Value} (vs : Nat → Nat → Value) : (∀ e ∈ es ++ sp, e.length = sz) →
      Hdr w home t u es.length (es.length + sp.length) sz vs → (∀ i j e c, (es ++ sp)[i]? = some e → e[j]? = some c → CR w home (t.ext i j) c (vs i j)) → CR w home t (.sl sz es sp) u
  | hole {t : Tg} {u : Value} : u.oneCell' = true → CR w home t .hole u

theorem CR.one {w : World} {home : Home} {t : Tg} {c : C} {u : Value} (h : CR w home t c u) : u.oneCell' = true := by
  cases h with
  | val h => exact h
  | fl _ h => obtain ⟨_, _, a, cap, rfl, _⟩ := h; rfl
  | sl _ _ h _ => obtain ⟨_, _, a, cap, rfl, _⟩ := h; rfl
  | hole h => exact h

/-- What a tree is told by stays, or goes over to another owner. -/
def Mv (w : World) (home : Home) (w' : World) (home' : Home) (t t' : Tg) : Prop :=
  ∀ q b, b < w.heap.size → home b = (t.exts q).lab → w'.heap[b]? = w.heap[b]? ∧ home' b = (t'.exts q).lab
def Ok (t t' : Tg) : Prop := ∀ q, (t.exts q).lab = none → (t'.exts q).lab = none
theorem Ok.refl (t : Tg) : Ok t t := fun _ h => h
theorem Ok.imm (t : Tg) : Ok t .imm := fun q _ => by rw [Tg.exts_imm]; rfl
theorem Ok.own (l : Lb) (p : Path) (t : Tg) : Ok (.own l p) t := fun q h => by rw [Tg.exts_own] at h; cases h
theorem Ok.top (l l' : Lb) : Ok (.top l) (.top l') := fun q h => by
  cases q with
  | nil => cases h
  | cons x q => rw [Tg.exts_top]; rfl
theorem CR.move {w : World} {home : Home} {t : Tg} {c : C} {u : Value} (h : CR w home t c u) : ∀ {w' : World} {home' : Home} {t' : Tg}, Mv w home w' home' t t' → Ok t t' → CR w' home' t' c u := by
  induction h with
  | val h => intro w' home' t' _ _; exact .val h
  | hole h => intro w' home' t' _ _; exact .hole h
  | fl he hh => intro w' home' t' hm ok; exact .fl he (hh.move (fun b hb hl => hm [] b hb hl) (ok []))
  | sl vs he hh _ ih =>
    intro w' home' t' hm ok
    exact .sl vs he (hh.move (fun b hb hl => hm [] b hb hl) (ok [])) (fun i j e c h1 h2 => ih i j e c h1 h2 (fun q b hb hl => hm ((i, j) :: q) b hb hl) (fun q hq => ok ((i, j) :: q) hq))

/-! ### A slice's elements -/
/-- Element i of all that is known. -/
def C.elemA : C → Nat → Option (List C)
  | .fl _ es sp, i => ((es ++ sp)[i]?).map (·.map .val)
  | .sl _ es sp, i => (es ++ sp)[i]?
  | _, _ => none
theorem C.elem_elemA {c : C} {i : Nat} {e : List C} (h : c.elem i = some e) : c.elemA i = some e := by
  cases c with
  | fl sz es sp =>
    simp only [C.elem, C.elemA, Option.map_eq_some_iff] at h ⊢
    obtain ⟨x, hx, rfl⟩ := h
    exact ⟨x, by rw [List.getElem?_append_left (List.getElem?_eq_some_iff.1 hx).1]; exact hx, rfl⟩
  | sl sz es sp =>
    simp only [C.elem, C.elemA] at h ⊢
    rw [List.getElem?_append_left (List.getElem?_eq_some_iff.1 h).1]; exact h
  | val v => cases h
  | hole => cases h
theorem C.elem_lt {c : C} {i : Nat} {e : List C} (h : c.elem i = some e) {sz n tot : Nat} (hs : c.shape = some (sz, n, tot)) : i < n := by
  cases c with
  | fl sz es sp =>
    simp only [C.elem, C.shape, Option.map_eq_some_iff, Option.some.injEq, Prod.mk.injEq] at h hs
    obtain ⟨x, hx, rfl⟩ := h
    obtain ⟨_, rfl, _⟩ := hs
    exact (List.getElem?_eq_some_iff.1 hx).1
  | sl sz es sp =>
    simp only [C.elem, C.shape, Option.some.injEq, Prod.mk.injEq] at h hs
    obtain ⟨_, rfl, _⟩ := hs
    exact (List.getElem?_eq_some_iff.1 h).1
  | val v => cases h
  | hole => cases h
theorem CR.open {w : World} {home : Home} {t : Tg} {c : C} {u : Value} (h : CR w home t c u) {sz n tot : Nat} (hs : c.shape = some (sz, n, tot)) :
    ∃ vs, Hdr w home t u n tot sz vs ∧ ∀ i e, c.elemA i = some e → i < tot ∧ e.length = sz ∧ ∀ j d, e[j]? = some d → CR w home (t.ext i j) d (vs i j) := by
  cases h with
  | val h => cases hs
  | hole h => cases hs
  | @fl _ sz' es sp _ he hh =>
    simp only [C.shape, Option.some.injEq, Prod.mk.injEq] at hs
    obtain ⟨rfl, rfl, rfl⟩ := hs
    refine ⟨_, hh, fun i e h => ?_⟩
    simp only [C.elemA, Option.map_eq_some_iff] at h
    obtain ⟨x, hx, rfl⟩ := h
    have hm := List.mem_of_getElem? hx
    refine ⟨by have := (List.getElem?_eq_some_iff.1 hx).1; rw [List.length_append] at this; exact this, by rw [List.length_map]; exact (he x hm).1, fun j d hd => ?_⟩
    rw [List.getElem?_map, Option.map_eq_some_iff] at hd
    obtain ⟨v, hv, rfl⟩ := hd
    have : ((es ++ sp).getD i []).getD j undef = v := by simp [List.getD_eq_getElem?_getD, hx, hv]
    simp only [this]
    exact .val ((he x hm).2 v (List.mem_of_getElem? hv))
  | @sl _ sz' es sp _ vs he hh hc =>
    simp only [C.shape, Option.some.injEq, Prod.mk.injEq] at hs
    obtain ⟨rfl, rfl, rfl⟩ := hs
    refine ⟨vs, hh, fun i e h => ?_⟩
    simp only [C.elemA] at h
    exact ⟨by have := (List.getElem?_eq_some_iff.1 h).1; rw [List.length_append] at this; exact this, he e (List.mem_of_getElem? h), fun j d hd => hc i j e d h hd⟩

/-! ### Paths -/
/-- The value that is met at a path. -/
def hdAt (w : World) : C → Value → Path → Option Value
  | _, u, [] => some u
  | .sl sz es _, u, (i, j) :: p =>
    match u, es[i]? with
    | .slice (some a) _ _, some e =>
      match e[j]?, w.cell? ⟨a.block, a.off + (i * sz + j), none⟩ with
      | some c, some u' => hdAt w c u' p
      | _, _ => none
    | _, _ => none
  | _, _, _ :: _ => none
theorem Hdr.cell {w : World} {home : Home} {t : Tg} {u : Value} {len tot sz : Nat} {vs : Nat → Nat → Value} (h : Hdr w home t u len tot sz vs) {i j : Nat} (hi : i < tot) (hj : j < sz) :
    ∃ b o cap, u = .slice (some ⟨b, o, none⟩) len cap ∧ home b = t.lab ∧ (t.lab ≠ none → o = 0) ∧ w.cell? ⟨b, o + (i * sz + j), none⟩ = some (vs i j) := by
  obtain ⟨h0, h1, a, cap, hu, ht, hc, h⟩ := h
  cases hl : t.lab with
  | none =>
    rw [hl] at h
    obtain ⟨b, o, ha, hb, hv⟩ := h i j hi hj
    exact ⟨b, o, cap, by rw [hu, ha], hb, fun e => absurd rfl e, hv⟩
  | some l =>
    rw [hl] at h
    simp only at h
    rcases h with h | ⟨b, cur, e, ha, hb, hg, hs, hv⟩
    · omega
    · exact ⟨b, 0, cap, by rw [hu, ha], hb, fun _ => rfl, by rw [cell_row hg, Nat.zero_add]; exact hv i j hi hj⟩
theorem CR.at {w : World} {home : Home} : ∀ (p : Path) {t : Tg} {c : C} {u : Value}, CR w home t c u → ∀ {c' : C}, c.get p = some c' → ∃ u', hdAt w c u p = some u' ∧ CR w home (t.exts p) c' u'
  | [], t, c, u, h, c', hg => by
    simp only [C.get, Option.some.injEq] at hg
    subst hg
    exact ⟨u, by cases c <;> rfl, h⟩
  | (i, j) :: p, t, c, u, h, c', hg => by
    cases h with
    | val h => cases hg
    | hole h => cases hg
    | fl he hh => cases hg
    | @sl _ sz es sp _ vs he hh hc =>
      simp only [C.get] at hg
      cases hi : es[i]? with
      | none => simp only [hi] at hg; cases hg
      | some e =>
        simp only [hi] at hg
        cases hj : e[j]? with
        | none => simp only [hj] at hg; cases hg
        | some d =>
          simp only [hj] at hg
          have hi' : (es ++ sp)[i]? = some e := by rw [List.getElem?_append_left (List.getElem?_eq_some_iff.1 hi).1]; exact hi
          have hlt : i < es.length + sp.length := by have := (List.getElem?_eq_some_iff.1 hi).1; omega
          have hjl : j < sz := by rw [← he e (List.mem_of_getElem? hi')]; exact (List.getElem?_eq_some_iff.1 hj).1
          obtain ⟨b, o, cap, hu, _, _, hv⟩ := hh.cell hlt hjl
          obtain ⟨u', h1, h2⟩ := CR.at p (hc i j e d hi' hj) hg
          exact ⟨u', by subst hu; simp only [hdAt, hi, hj, hv]; exact h1, h2⟩


/-- The same value with another length, as far as its room goes. -/
def relen (u : Value) (n : Nat) : Value :=
  match u with
  | .slice a _ cap => .slice a n cap
  | v => v
theorem Hdr.relen {w : World} {home : Home} {t : Tg} {u : Value} {len tot sz : Nat} {vs : Nat → Nat → Value} (h : Hdr w home t u len tot sz vs) {n : Nat} (hn : n ≤ tot) : Hdr w home t (relen u n) n tot sz vs := by
  obtain ⟨h0, h1, a, cap, rfl, ht, hc, h⟩ := h
  exact ⟨h0, hn, a, cap, rfl, ht, hc, h⟩
theorem C.sub_zero_all (c : C) (n : Nat) : (∃ sz es sp, c = .fl sz es sp ∧ c.sub 0 n = .fl sz ((es ++ sp).take n) ((es ++ sp).drop n)) ∨ (∃ sz es sp, c = .sl sz es sp ∧ c.sub 0 n = .sl sz ((es ++ sp).take n) ((es ++ sp).drop n)) ∨ c.shape = none := by
  cases c with
  | fl sz es sp => exact Or.inl ⟨sz, es, sp, rfl, by simp [C.sub]⟩
  | sl sz es sp => exact Or.inr (Or.inl ⟨sz, es, sp, rfl, by simp [C.sub]⟩)
  | val v => exact Or.inr (Or.inr rfl)
  | hole => exact Or.inr (Or.inr rfl)
theorem C.sub_shape {c : C} {sz m tot : Nat} (hs : c.shape = some (sz, m, tot)) {lo n : Nat} (hn : lo + n ≤ tot) : (c.sub lo n).shape = some (sz, n, tot - lo) := by
  cases c with
  | val v => cases hs
  | hole => cases hs
  | fl sz es sp =>
    simp only [C.shape, Option.some.injEq, Prod.mk.injEq] at hs
    obtain ⟨rfl, rfl, rfl⟩ := hs
    simp only [C.sub, C.shape, Option.some.injEq, Prod.mk.injEq, List.length_take, List.length_drop, List.length_append, true_and]
    omega
  | sl sz es sp =>
    simp only [C.shape, Option.some.injEq, Prod.mk.injEq] at hs
    obtain ⟨rfl, rfl, rfl⟩ := hs
    simp only [C.sub, C.shape, Option.some.injEq, Prod.mk.injEq, List.length_take, List.length_drop, List.length_append, true_and]
    omega
theorem C.all_shape {c : C} {sz m tot : Nat} (hs : c.shape = some (sz, m, tot)) : c.all.shape = some (sz, tot, tot) := by
  cases c with
  | val v => cases hs
  | hole => cases hs
  | fl sz es sp =>
    simp only [C.shape, Option.some.injEq, Prod.mk.injEq] at hs
    obtain ⟨rfl, rfl, rfl⟩ := hs
    simp [C.all, C.shape]
  | sl sz es sp =>
    simp only [C.shape, Option.some.injEq, Prod.mk.injEq] at hs
    obtain ⟨rfl, rfl, rfl⟩ := hs
    simp [C.all, C.shape]
theorem CR.sub0 {w : World} {home : Home} {t : Tg} {c : C} {u : Value} (h : CR w home t c u) {sz m tot n : Nat} (hs : c.shape = some (sz, m, tot)) (hn : n ≤ tot) : CR w home t (c.sub 0 n) (relen u n) := by
  cases h with
  | val h => cases hs
  | hole h => cases hs
  | @fl _ sz' es sp _ he hh =>
    simp only [C.shape, Option.some.injEq, Prod.mk.injEq] at hs
    obtain ⟨rfl, rfl, rfl⟩ := hs
    simp only [C.sub, List.drop_zero, Nat.zero_add]
    have hl : ((es ++ sp).take n).length = n := by rw [List.length_take, List.length_append]; omega
    have ht : ((es ++ sp).take n).length + ((es ++ sp).drop n).length = es.length + sp.length := by rw [hl, List.length_drop, List.length_append]; omega
    refine .fl (by rw [List.take_append_drop]; exact he) ?_
    rw [hl, List.take_append_drop]
    have : n + ((es ++ sp).drop n).length = es.length + sp.length := by rw [hl] at ht; exact ht
    rw [this]
    exact hh.relen hn
  | @sl _ sz' es sp _ vs he hh hc =>
    simp only [C.shape, Option.some.injEq, Prod.mk.injEq] at hs
    obtain ⟨rfl, rfl, rfl⟩ := hs
    simp only [C.sub, List.drop_zero, Nat.zero_add]
    have hl : ((es ++ sp).take n).length = n := by rw [List.length_take, List.length_append]; omega
    have ht : n + ((es ++ sp).drop n).length = es.length + sp.length := by rw [List.length_drop, List.length_append]; omega
    refine .sl vs (by rw [List.take_append_drop]; exact he) ?_ (by rw [List.take_append_drop]; exact hc)
    rw [hl, ht]
    exact hh.relen hn
theorem CR.all {w : World} {home : Home} {t : Tg} {c : C} {u : Value} (h : CR w home t c u) {sz m tot : Nat} (hs : c.shape = some (sz, m, tot)) : CR w home t c.all (Go.Proofs.YtecmolmlojehgaaGreat.T.relen u tot) := by
  cases h with
  | val h => cases hs
  | hole h => cases hs
  | @fl _ sz' es sp _ he hh =>
    simp only [C.shape, Option.some.injEq, Prod.mk.injEq] at hs
    obtain ⟨rfl, rfl, rfl⟩ := hs
    refine .fl (by rw [List.append_nil]; exact he) ?_
    rw [List.append_nil, List.length_append, List.length_nil, Nat.add_zero]
    exact hh.relen (Nat.le_refl _)
  | @sl _ sz' es sp _ vs he hh hc =>
    simp only [C.shape, Option.some.injEq, Prod.mk.injEq] at hs
    obtain ⟨rfl, rfl, rfl⟩ := hs
    refine .sl vs (by rw [List.append_nil]; exact he) ?_ (by rw [List.append_nil]; exact hc)
    rw [List.length_append, List.length_nil, Nat.add_zero]
    exact hh.relen (Nat.le_refl _)

/-! ### A part of a slice -/
/-- v is u from element off on, n elements long, as Go's slicing leaves it. -/
def Part (u v : Value) (sz off n : Nat) : Prop :=
  ∃ a m cap a', u = .slice a m cap ∧ off + n ≤ cap ∧ v = .slice a' n (cap - off) ∧ (off < cap → a' = a.map (fun x => x.add (off * sz)))
theorem Part.self {a : Option Addr} {n m cap : Nat} (sz : Nat) (h : n ≤ cap) : Part (.slice a m cap) (.slice a n cap) sz 0 n := by
  refine ⟨a, m, cap, a, rfl, by omega, rfl, fun _ => ?_⟩
  cases a <;> simp [Addr.add]
theorem addr_add (b o k : Nat) : (⟨b, o, none⟩ : Addr).add k = ⟨b, o + k, none⟩ := by
  unfold Addr.add; split
  · simp_all
  · rfl
theorem Hdr.part {w : World} {home : Home} {u v : Value} {len tot sz off n : Nat} {vs : Nat → Nat → Value} (h : Hdr w home .imm u len tot sz vs) (hp : Part u v sz off n) (hn : off + n ≤ tot) :
    Hdr w home .imm v n (tot - off) sz (fun i j => vs (off + i) j) := by
  obtain ⟨h0, h1, a, cap, rfl, ht, hc, h⟩ := h
  obtain ⟨a1, m, cap1, a', e, hle, rfl, ha⟩ := hp
  injection e with e1 e2 e3
  subst e1 e3
  refine ⟨h0, by omega, a', cap - off, rfl, by omega, by omega, ?_⟩
  simp only [Tg.lab] at h ⊢
  intro i j hi hj
  obtain ⟨b, o, rfl, hb, hv⟩ := h (off + i) j (by omega) hj
  refine ⟨b, o + off * sz, ?_, hb, ?_⟩
  · rw [ha (by omega), Option.map_some, addr_add]
  · rw [← hv]; congr 2; rw [Nat.add_mul]; omega
theorem CR.part {w : World} {home : Home} {c : C} {u v : Value} (h : CR w home .imm c u) {sz m tot off n : Nat} (hs : c.shape = some (sz, m, tot)) (hp : Part u v sz off n) (hn : off + n ≤ tot) : CR w home .imm (c.sub off n) v := by
  cases h with
  | val h => cases hs
  | hole h => cases hs
  | @fl _ sz' es sp _ he hh =>
    simp only [C.shape, Option.some.injEq, Prod.mk.injEq] at hs
    obtain ⟨rfl, rfl, rfl⟩ := hs
    have hall : ((es ++ sp).drop off).take n ++ (es ++ sp).drop (off + n) = (es ++ sp).drop off := by rw [← List.drop_drop, List.take_append_drop]
    have hl : (((es ++ sp).drop off).take n).length = n := by rw [List.length_take, List.length_drop, List.length_append]; omega
    have ht : n + ((es ++ sp).drop (off + n)).length = es.length + sp.length - off := by rw [List.length_drop, List.length_append]; omega
    simp only [C.sub]
    refine .fl (fun e hem => he e ?_) ?_
    · rw [hall] at hem; exact List.mem_of_mem_drop hem
    · rw [hl, ht, hall]
      have := hh.part hp hn
      simpa [List.getD_eq_getElem?_getD, List.getElem?_drop] using this
  | @sl _ sz' es sp _ vs he hh hc =>
    simp only [C.shape, Option.some.injEq, Prod.mk.injEq] at hs
    obtain ⟨rfl, rfl, rfl⟩ := hs
    have hall : ((es ++ sp).drop off).take n ++ (es ++ sp).drop (off + n) = (es ++ sp).drop off := by rw [← List.drop_drop, List.take_append_drop]
    have hl : (((es ++ sp).drop off).take n).length = n := by rw [List.length_take, List.length_drop, List.length_append]; omega
    have ht : n + ((es ++ sp).drop (off + n)).length = es.length + sp.length - off := by rw [List.length_drop, List.length_append]; omega
    simp only [C.sub]
    refine .sl (fun i j => vs (off + i) j) (fun e hem => he e ?_) ?_ (fun i j e c h1 h2 => ?_)
    · rw [hall] at hem; exact List.mem_of_mem_drop hem
    · rw [hl, ht]; exact hh.part hp hn
    · rw [hall, List.getElem?_drop] at h1
      exact hc (off + i) j e c h1 h2

/-! ### Slots and roots -/
def F2 {α β : Type} (R : α → β → Prop) (xs : List α) (ys : List β) : Prop := xs.length = ys.length ∧ ∀ (i : Nat) x y, xs[i]? = some x → ys[i]? = some y → R x y
def ext (rt : Rts) (F : Nat → Option Root) : Lb → Option Root
  | .r i => rt i
  | .t k => F k
  | .x => some (.box [])
variable (ids : Nat → FuncId) in
section
def SVR (w : World) (home : Home) (hd : Lb → Value) (rt : Rts) : SV → Value → Prop
  | .c c, v => CR w home .imm c v
  | .nil k, v => v = .slice none 0 0 ∧ 0 < k.sz
  | .ref id p off n, v => (∃ a cap, v = .slice a n cap) ∧ ∀ d t c, rt id = some (.arr d t c) → (p = [] ∨ t = false) → ∀ c' u, c.get p = some c' → hdAt w c (hd (.r id)) p = some u →
      ∀ sz m tot, c'.shape = some (sz, m, tot) → Part u v sz off n
  | .pb id off, v => (∃ ad, v = .pointer (some ad)) ∧ ∀ xs, rt id = some (.box xs) → ∃ b, hd (.r id) = .pointer (some ⟨b, 0, none⟩) ∧ v = .pointer (some ⟨b, off, none⟩)
  | .pe id p i off, v => (∃ ad, v = .pointer (some ad)) ∧ ∀ d t c, rt id = some (.arr d t c) → (p = [] ∨ t = false) → ∀ c' u, c.get p = some c' → hdAt w c (hd (.r id)) p = some u →
      ∀ sz m tot, c'.shape = some (sz, m, tot) → i < m → ∃ b o k cap, u = .slice (some ⟨b, o, none⟩) k cap ∧ v = .pointer (some ⟨b, o + (i * sz + off), none⟩)
  | .pm cs off, v => ∃ b o, v = .pointer (some ⟨b, o + off, none⟩) ∧ ∀ j c, cs[j]? = some c → home b = none ∧ ∃ u, w.cell? ⟨b, o + j, none⟩ = some u ∧ CR w home .imm c u
def A1R (w : World) (home : Home) (hd : Lb → Value) (rt : Rts) : A1 → Value → Prop
  | .s x, v => SVR w home hd rt x v
  | .agg xs, v => ∃ vs : List Value, v = .agg vs.toArray ∧ F2 (SVR w home hd rt) xs vs
  | .fn f xs, v => ∃ vs : List Value, v = .func (.func (ids f)) #[] vs.toArray ∧ F2 (SVR w home hd rt) xs vs
def AVR (w : World) (home : Home) (hd : Lb → Value) (rt : Rts) : AV → Value → Prop
  | .v a, v => A1R ids w home hd rt a v
  | .tup as, v => ∃ vs : List Value, v = .tuple vs.toArray ∧ F2 (A1R ids w home hd rt) as vs
  | .undef, v => v = undef
end
theorem SVR.one {w : World} {home : Home} {hd : Lb → Value} {rt : Rts} {x : SV} {v : Value} (h : SVR w home hd rt x v) : v.oneCell' = true := by
  cases x with
  | c c => exact CR.one h
  | nil k => obtain ⟨rfl, _⟩ := h; rfl
  | ref id p off n => obtain ⟨a, cap, rfl⟩ := h.1; rfl
  | pb id off => obtain ⟨ad, rfl⟩ := h.1; rfl
  | pe id p i off => obtain ⟨ad, rfl⟩ := h.1; rfl
  | pm cs off => obtain ⟨b, o, rfl, _⟩ := h; rfl
def arrTg (d : Bool) (l : Lb) : Tg := if d then .own l [] else .top l
def RR (w : World) (home : Home) (hd : Lb → Value) (rt : Rts) (l : Lb) : Root → Prop
  | .arr d _ c => CR w home (arrTg d l) c (hd l)
  | .box xs => l = .x ∨ ∃ b cur e, hd l = .pointer (some ⟨b, 0, none⟩) ∧ home b = some (l, []) ∧ w.heap[b]? = some (.cells cur e (0, 0)) ∧ F2 (SVR w home hd rt) xs cur.toList
  | .gone => True
theorem RR.box {w : World} {home : Home} {hd : Lb → Value} {rt : Rts} {id : Nat} {xs : List SV} (h : RR w home hd rt (.r id) (.box xs)) :
    ∃ b cur e, hd (.r id) = .pointer (some ⟨b, 0, none⟩) ∧ home b = some (.r id, []) ∧ w.heap[b]? = some (.cells cur e (0, 0)) ∧ F2 (SVR w home hd rt) xs cur.toList := by
  rcases h with h | h
  · cases h
  · exact h
/-- All that is owned. F: what was taken and lies nowhere yet. -/
structure RtR (w : World) (home : Home) (hd : Lb → Value) (rt : Rts) (F : Nat → Option Root) : Prop where
  root : ∀ l r, ext rt F l = some r → RR w home hd rt l r
  lab : ∀ b l p, home b = some (l, p) → b < w.heap.size ∧ ∃ r, ext rt F l = some r ∧ r ≠ .gone
  wf : ∀ l r, ext rt F l = some r → ∀ i ∈ r.ids, (rt i).isSome = true

/-- What a step leaves: what was held is held; what nobody of the frame owns is as it was. -/
structure Step (w : World) (home : Home) (hd : Lb → Value) (rt : Rts) (F : Nat → Option Root) (w' : World) (home' : Home) (hd' : Lb → Value) (rt' : Rts) (F' : Nat → Option Root) : Prop where
  rel : RtR w' home' hd' rt' F'
  st : ∀ x v, (∀ i ∈ x.ids, (rt i).isSome = true) → SVR w home hd rt x v → SVR w' home' hd' rt' x v
  pres : ∀ i, (rt i).isSome = true → (rt' i).isSome = true
  os : w'.os = w.os
  tape : w'.tape = w.tape
  output : w'.output = w.output
  size : w.heap.size ≤ w'.heap.size
  blk : ∀ b, b < w.heap.size → home b = none → w'.heap[b]? = w.heap[b]? ∧ home' b = none
  oth : ∀ b q, b < w.heap.size → home b = some (.x, q) → w'.heap[b]? = w.heap[b]? ∧ home' b = some (.x, q)
  pin : ∀ i, i < 64000 → ∀ r, rt' i = some r → r ≠ .gone → hd' (.r i) = hd (.r i) ∧ ∃ r0, rt i = some r0 ∧ r0 ≠ .gone

section
variable {w w' w2 : World} {home home' home2 : Home} {hd hd' hd2 : Lb → Value} {rt rt' rt2 : Rts} {F F' F2' : Nat → Option Root}
theorem Step.refl (h : RtR w home hd rt F) : Step w home hd rt F w home hd rt F :=
  ⟨h, fun _ _ _ h => h, fun _ h => h, rfl, rfl, rfl, Nat.le_refl _, fun _ _ h => ⟨rfl, h⟩, fun _ _ _ h => ⟨rfl, h⟩, fun i _ r hr hne => ⟨rfl, r, hr, hne⟩⟩
theorem Step.trans (h : Step w home hd rt F w' home' hd' rt' F') (k : Step w' home' hd' rt' F' w2 home2 hd2 rt2 F2') : Step w home hd rt F w2 home2 hd2 rt2 F2' :=
  ⟨k.rel, fun x v hx hv => k.st x v (fun i hi => h.pres i (hx i hi)) (h.st x v hx hv), fun i hi => k.pres i (h.pres i hi), k.os.trans h.os, k.tape.trans h.tape, k.output.trans h.output, Nat.le_trans h.size k.size,
    fun b hb hn => by
      obtain ⟨e1, e2⟩ := h.blk b hb hn
      obtain ⟨e3, e4⟩ := k.blk b (Nat.lt_of_lt_of_le hb h.size) e2
      exact ⟨e3.trans e1, e4⟩,
    fun b q hb hn => by
      obtain ⟨e1, e2⟩ := h.oth b q hb hn
      obtain ⟨e3, e4⟩ := k.oth b q (Nat.lt_of_lt_of_le hb h.size) e2
      exact ⟨e3.trans e1, e4⟩,
    fun i hi r hr hne => by
      obtain ⟨e1, r1, h1, n1⟩ := k.pin i hi r hr hne
      obtain ⟨e2, r2, h2, n2⟩ := h.pin i hi r1 h1 n1
      exact ⟨e1.trans e2, r2, h2, n2⟩⟩
end

end Go.Proofs.YtecmolmlojehgaaGreat.T
namespace Go.Proofs.YtecmolmlojehgaaGreat.T
open Go

theorem hdAt_same {w w' : World} {home : Home} : ∀ (p : Path) {t : Tg} {c : C} {u : Value}, CR w home t c u → (∀ q b, b < w.heap.size → home b = (t.exts q).lab → w'.heap[b]? = w.heap[b]?) → ∀ {c' : C}, c.get p = some c' → hdAt w' c u p = hdAt w c u p
  | [], t, c, u, _, _, c', _ => by cases c <;> rfl
  | (i, j) :: p, t, c, u, h, hm, c', hg => by
    cases h with
    | val h => cases hg
    | hole h => cases hg
    | fl he hh => cases hg
    | @sl _ sz es sp _ vs he hh hc =>
      simp only [C.get] at hg
      cases hi : es[i]? with
      | none => simp only [hi] at hg; cases hg
      | some e =>
        simp only [hi] at hg
        cases hj : e[j]? with
        | none => simp only [hj] at hg; cases hg
        | some d =>
          simp only [hj] at hg
          have hi' : (es ++ sp)[i]? = some e := by rw [List.getElem?_append_left (List.getElem?_eq_some_iff.1 hi).1]; exact hi
          have hlt : i < es.length + sp.length := by have := (List.getElem?_eq_some_iff.1 hi).1; omega
          have hjl : j < sz := by rw [← he e (List.mem_of_getElem? hi')]; exact (List.getElem?_eq_some_iff.1 hj).1
          obtain ⟨b, o, cap, hu, hb, _, hv⟩ := hh.cell hlt hjl
          have e1 := hm [] b (cell_lt hv) hb
          subst hu
          simp only [hdAt, hi, hj, cell_block e1, hv]
          exact hdAt_same p (hc i j e d hi' hj) (fun q b hb hl => hm ((i, j) :: q) b hb hl) hg

theorem arrTg_exts (d : Bool) (l : Lb) (q : Path) : ((arrTg d l).exts q).lab = none ∨ ((arrTg d l).exts q).lab = some (l, q) := by
  cases d with
  | true => exact Or.inr (by simp [arrTg, Tg.exts_own, Tg.lab])
  | false =>
    cases q with
    | nil => exact Or.inr rfl
    | cons x q => exact Or.inl (by simp [arrTg, Tg.exts_top, Tg.lab])

section
variable {w w' : World} {home home' : Home} {hd hd' : Lb → Value} {rt rt' : Rts} {F F' : Nat → Option Root}

theorem SVR.same {x : SV} {v : Value} (h : SVR w home hd rt x v) (old : RtR w home hd rt F)
    (imm : ∀ b, b < w.heap.size → home b = none → w'.heap[b]? = w.heap[b]? ∧ home' b = none)
    (hid : ∀ i ∈ x.ids, rt' i = rt i ∧ hd' (.r i) = hd (.r i) ∧ ∀ b q, b < w.heap.size → home b = some (.r i, q) → w'.heap[b]? = w.heap[b]?) : SVR w' home' hd' rt' x v := by
  have himm : ∀ {c : C} {u : Value}, CR w home .imm c u → CR w' home' .imm c u := fun hc => hc.move (fun q b hb hl => by rw [Tg.exts_imm] at hl ⊢; exact imm b hb hl) (Ok.imm _)
  have hat : ∀ id, (rt' id = rt id ∧ hd' (.r id) = hd (.r id) ∧ ∀ b q, b < w.heap.size → home b = some (.r id, q) → w'.heap[b]? = w.heap[b]?) → ∀ d t c, rt' id = some (.arr d t c) → ∀ p c', c.get p = some c' → hdAt w' c (hd' (.r id)) p = hdAt w c (hd (.r id)) p := by
    intro id ⟨e1, e2, e3⟩ d t c hr p c' hg
    rw [e2]
    have hroot : CR w home (arrTg d (.r id)) c (hd (.r id)) := old.root (.r id) (.arr d t c) (by show rt id = _; rw [← e1]; exact hr)
    refine hdAt_same p hroot (fun q b hb hl => ?_) hg
    rcases arrTg_exts d (.r id) q with h1 | h1
    · exact (imm b hb (hl.trans h1)).1
    · exact e3 b q hb (hl.trans h1)
  cases x with
  | c c => exact himm h
  | nil k => exact h
  | ref id p off n =>
    have hid' := hid id (by simp [SV.ids])
    refine ⟨h.1, fun d t c hr ht c' u hg hu sz m tot hs => ?_⟩
    rw [hat id hid' d t c hr p c' hg] at hu
    exact h.2 d t c (by rw [← hid'.1]; exact hr) ht c' u hg hu sz m tot hs
  | pb id off =>
    have hid' := hid id (by simp [SV.ids])
    refine ⟨h.1, fun xs hr => ?_⟩
    rw [hid'.2.1]
    exact h.2 xs (by rw [← hid'.1]; exact hr)
  | pe id p i off =>
    have hid' := hid id (by simp [SV.ids])
    refine ⟨h.1, fun d t c hr ht c' u hg hu sz m tot hs hi => ?_⟩
    rw [hat id hid' d t c hr p c' hg] at hu
    exact h.2 d t c (by rw [← hid'.1]; exact hr) ht c' u hg hu sz m tot hs hi
  | pm cs off =>
    obtain ⟨b, o, rfl, hc⟩ := h
    refine ⟨b, o, rfl, fun j c hj => ?_⟩
    obtain ⟨h1, u, h2, h3⟩ := hc j c hj
    obtain ⟨e1, e2⟩ := imm b (cell_lt h2) h1
    exact ⟨e2, u, (cell_block e1).trans h2, himm h3⟩

theorem SV.ids_le (x : SV) : x.ids = [] ∨ ∃ i, x.ids = [i] := by cases x <;> simp [SV.ids]

/-- A step out of what has changed: X. -/
theorem Step.mk2 (X : Lb → Prop) (old : RtR w home hd rt F)
    (imm : ∀ b, b < w.heap.size → home b = none → w'.heap[b]? = w.heap[b]? ∧ home' b = none)
    (own : ∀ l, ¬ X l → ∀ b q, b < w.heap.size → home b = some (l, q) → w'.heap[b]? = w.heap[b]? ∧ home' b = some (l, q))
    (hdX : ∀ l, ¬ X l → hd' l = hd l)
    (rtX : ∀ l, ¬ X l → ext rt' F' l = ext rt F l)
    (stX : ∀ i, X (.r i) → ∀ x v, x.ids = [i] → (rt i).isSome = true → SVR w home hd rt x v → SVR w' home' hd' rt' x v)
    (rrX : (∀ x v, (∀ i ∈ x.ids, (rt i).isSome = true) → SVR w home hd rt x v → SVR w' home' hd' rt' x v) → ∀ l r, X l → ext rt' F' l = some r → RR w' home' hd' rt' l r)
    (labN : ∀ b l p, ¬ X l → home' b = some (l, p) → b < w.heap.size ∧ home b = some (l, p))
    (labX : ∀ b l p, X l → home' b = some (l, p) → b < w'.heap.size ∧ ∃ r, ext rt' F' l = some r ∧ r ≠ .gone)
    (wfX : ∀ l r, X l → ext rt' F' l = some r → ∀ i ∈ r.ids, (rt' i).isSome = true)
    (pres : ∀ i, (rt i).isSome = true → (rt' i).isSome = true)
    (os : w'.os = w.os) (tape : w'.tape = w.tape) (output : w'.output = w.output) (size : w.heap.size ≤ w'.heap.size)
    (pin : ∀ i, i < 64000 → X (.r i) → ∀ r, rt' i = some r → r ≠ .gone → hd' (.r i) = hd (.r i) ∧ ∃ r0, rt i = some r0 ∧ r0 ≠ .gone) (hXx : ¬ X .x := by simp) :
    Step w home hd rt F w' home' hd' rt' F' := by
  have st : ∀ x v, (∀ i ∈ x.ids, (rt i).isSome = true) → SVR w home hd rt x v → SVR w' home' hd' rt' x v := by
    intro x v hx h
    rcases SV.ids_le x with hi | ⟨i, hi⟩
    · exact h.same old imm (fun i hm => by rw [hi] at hm; cases hm)
    · by_cases hX : X (.r i)
      · exact stX i hX x v hi (hx i (by rw [hi]; exact List.mem_singleton.2 rfl)) h
      · refine h.same old imm (fun i' hm => ?_)
        rw [hi, List.mem_singleton] at hm
        subst hm
        exact ⟨rtX (.r i') hX, hdX _ hX, fun b q hb hl => (own _ hX b q hb hl).1⟩
  refine ⟨⟨fun l r hr => ?_, fun b l p hl => ?_, fun l r hr => ?_⟩, st, pres, os, tape, output, size, imm, fun b q hb h => own .x hXx b q hb h, fun i hi r hr hne => ?_⟩
  · by_cases hX : X l
    · exact rrX st l r hX hr
    · have hr' : ext rt F l = some r := (rtX l hX).symm.trans hr
      have hold := old.root l r hr'
      cases r with
      | gone => trivial
      | arr d t c =>
        show CR w' home' (arrTg d l) c (hd' l)
        rw [hdX l hX]
        refine CR.move hold (fun q b hb hl => ?_) (Ok.refl _)
        rcases arrTg_exts d l q with h1 | h1
        · rw [h1]; exact imm b hb (hl.trans h1)
        · rw [h1]; exact own l hX b q hb (hl.trans h1)
      | box xs =>
        rcases hold with hx | ⟨b, cur, e, h1, h2, h3, h4⟩
        · exact Or.inl hx
        obtain ⟨e1, e2⟩ := own l hX b [] (heap_lt h3) h2
        exact Or.inr ⟨b, cur, e, (hdX l hX).trans h1, e2, e1.trans h3, h4.1, fun i x y hx hy => st x y (fun i' hi' => old.wf l _ hr' i' (by
          simp only [Root.ids, List.mem_flatMap]; exact ⟨x, List.mem_of_getElem? hx, hi'⟩)) (h4.2 i x y hx hy)⟩
  · by_cases hX : X l
    · exact labX b l p hX hl
    · obtain ⟨h1, h2⟩ := labN b l p hX hl
      obtain ⟨_, r, h3, h4⟩ := old.lab b l p h2
      exact ⟨Nat.lt_of_lt_of_le h1 size, r, (rtX l hX).trans h3, h4⟩
  · by_cases hX : X l
    · exact wfX l r hX hr
    · exact fun i hi => pres i (old.wf l r ((rtX l hX).symm.trans hr) i hi)
  · by_cases hX : X (.r i)
    · exact pin i hi hX r hr hne
    · exact ⟨hdX _ hX, r, (rtX (.r i) hX).symm.trans hr, hne⟩
end


/-! ### Taking -/
/-- What was taken: read by whoever holds it, or lying at k. -/
def Held (w : World) (home : Home) (hd : Lb → Value) (F : Nat → Option Root) (k : Nat) (o : Ow) (c : C) (v : Value) : Prop :=
  (o = .imm ∧ CR w home .imm c v) ∨ (o ≠ .imm ∧ F k = some (.arr (decide (o = .deep)) false c) ∧ hd (.t k) = v ∧ v.oneCell' = true)
theorem updF_same {α : Type} (f : Nat → Option α) (k : Nat) (v : α) : upd f k v k = some v := if_pos rfl
theorem updF_ne {α : Type} (f : Nat → Option α) {k i : Nat} (v : α) (h : i ≠ k) : upd f k v i = f i := if_neg h
theorem CR.readdr {w : World} {home : Home} {t : Tg} {c : C} {a a' : Option Addr} {n cap : Nat} (h : CR w home t c (.slice a n cap)) (hs : c.shape ≠ none) (ha : 0 < cap → a' = a) : CR w home t c (.slice a' n cap) := by
  by_cases h0 : 0 < cap
  · rw [ha h0]; exact h
  · have hdr : ∀ {len tot sz : Nat} {vs : Nat → Nat → Value}, Hdr w home t (.slice a n cap) len tot sz vs → Hdr w home t (.slice a' n cap) len tot sz vs := by
      intro len tot sz vs hh
      obtain ⟨g0, g1, a1, cap1, e, g2, g3, g4⟩ := hh
      injection e with e1 e2 e3
      subst e1 e2 e3
      refine ⟨g0, g1, a', cap, rfl, g2, g3, ?_⟩
      cases hl : t.lab with
      | none => intro i j hi; omega
      | some l => exact Or.inl (by omega)
    generalize hu : Value.slice a n cap = u at h
    cases h with
    | val h => exact absurd rfl hs
    | hole h => exact .hole rfl
    | fl he hh => subst hu; exact .fl he (hdr hh)
    | sl vs he hh hc => subst hu; exact .sl vs he (hdr hh) hc
theorem CR.kempty {w : World} {home : Home} {t : Tg} {k : K} (h : 0 < k.sz) : CR w home t k.empty (.slice none 0 0) := by
  have hdr : ∀ (sz : Nat) (vs : Nat → Nat → Value), 0 < sz → Hdr w home t (.slice none 0 0) 0 0 sz vs := by
    intro sz vs h
    refine ⟨h, Nat.le_refl _, none, 0, rfl, Nat.le_refl _, by unfold maxLen; omega, ?_⟩
    cases t.lab with
    | none => intro i j hi; omega
    | some l => exact Or.inl rfl
  cases k with
  | fl sz => exact .fl (fun e he => by cases he) (hdr sz _ h)
  | sl sz => exact .sl (fun _ _ => undef) (fun e he => by cases he) (hdr sz _ h) (fun i j e c h1 => by cases h1)


theorem C.set_hole : ∀ (p : Path) {c : C} {q : Path} {c3 : C} {s : Nat × Nat × Nat}, (c.set p .hole).get q = some c3 → c3.shape = some s →
    ∃ c4, c.get q = some c4 ∧ c4.shape = some s ∧ ∀ w u, hdAt w (c.set p .hole) u q = hdAt w c u q
  | [], c, q, c3, s, hg, hs => by
    have e : c.set [] .hole = .hole := by cases c <;> rfl
    rw [e] at hg
    cases q with
    | nil => simp only [C.get, Option.some.injEq] at hg; subst hg; cases hs
    | cons x q => obtain ⟨i, j⟩ := x; cases hg
  | (i, j) :: p, c, q, c3, s, hg, hs => by
    cases c with
    | val v => exact ⟨c3, hg, hs, fun w u => rfl⟩
    | hole => exact ⟨c3, hg, hs, fun w u => rfl⟩
    | fl sz es sp => exact ⟨c3, hg, hs, fun w u => rfl⟩
    | sl sz es sp =>
      cases hi : es[i]? with
      | none => simp only [C.set, hi] at hg ⊢; exact ⟨c3, hg, hs, fun w u => trivial⟩
      | some e =>
        cases hj : e[j]? with
        | none => simp only [C.set, hi, hj] at hg ⊢; exact ⟨c3, hg, hs, fun w u => trivial⟩
        | some d =>
          simp only [C.set, hi, hj] at hg ⊢
          cases q with
          | nil =>
            simp only [C.get, Option.some.injEq] at hg
            subst hg
            refine ⟨.sl sz es sp, rfl, ?_, fun w u => rfl⟩
            rw [← hs]
            simp [C.shape]
          | cons x q =>
            obtain ⟨i', j'⟩ := x
            by_cases hii : i' = i
            · subst hii
              have hlt := (List.getElem?_eq_some_iff.1 hi).1
              by_cases hjj : j' = j
              · subst hjj
                have hjl := (List.getElem?_eq_some_iff.1 hj).1
                simp only [C.get, List.getElem?_set_self hlt, List.getElem?_set_self hjl] at hg
                obtain ⟨c4, h1, h2, h3⟩ := C.set_hole p hg hs
                refine ⟨c4, by simp only [C.get, hi, hj]; exact h1, h2, fun w u => ?_⟩
                cases u <;> try rfl
                rename_i a m cap
                cases a with
                | none => rfl
                | some a =>
                  simp only [hdAt, hi, hj, List.getElem?_set_self hlt, List.getElem?_set_self hjl]
                  cases w.cell? { block := a.block, off := a.off + (i' * sz + j') } with
                  | none => rfl
                  | some u' => exact h3 w u'
              · simp only [C.get, List.getElem?_set_self hlt, List.getElem?_set_ne (Ne.symm hjj)] at hg
                refine ⟨c3, by simp only [C.get, hi]; exact hg, hs, fun w u => ?_⟩
                cases u <;> try rfl
                rename_i a m cap
                cases a <;> simp [hdAt, hi, List.getElem?_set_self hlt, List.getElem?_set_ne (Ne.symm hjj)]
            · simp only [C.get, List.getElem?_set_ne (Ne.symm hii)] at hg
              refine ⟨c3, hg, hs, fun w u => ?_⟩
              cases u <;> try rfl
              rename_i a m cap
              cases a <;> simp [hdAt, List.getElem?_set_ne (Ne.symm hii)]

theorem CR.set {w w' : World} {home home' : Home} : ∀ (p : Path) {t : Tg} {c : C} {u : Value}, CR w home t c u → ∀ {c1 c2 : C} {u1 : Value}, c.get p = some c1 → hdAt w c u p = some u1 →
    (∀ q b, b < w.heap.size → home b = (t.exts q).lab → ¬ (p <+: q) → w'.heap[b]? = w.heap[b]? ∧ home' b = (t.exts q).lab) → CR w' home' (t.exts p) c2 u1 → CR w' home' t (c.set p c2) u
  | [], t, c, u, _, c1, c2, u1, _, hu, _, h2 => by
    have e1 : hdAt w c u [] = some u := by cases c <;> rfl
    rw [e1] at hu
    injection hu with hu
    subst hu
    have e : c.set [] c2 = c2 := by cases c <;> rfl
    rw [e]; exact h2
  | (i, j) :: p, t, c, u, h, c1, c2, u1, hg, hu, hm, h2 => by
    cases h with
    | val h => cases hg
    | hole h => cases hg
    | fl he hh => cases hg
    | @sl _ sz es sp _ vs he hh hc =>
      simp only [C.get] at hg
      cases hi : es[i]? with
      | none => simp only [hi] at hg; cases hg
      | some e =>
        simp only [hi] at hg
        cases hj : e[j]? with
        | none => simp only [hj] at hg; cases hg
        | some d =>
          simp only [hj] at hg
          have hlt := (List.getElem?_eq_some_iff.1 hi).1
          have hjl := (List.getElem?_eq_some_iff.1 hj).1
          have hi' : (es ++ sp)[i]? = some e := by rw [List.getElem?_append_left hlt]; exact hi
          have hsz : e.length = sz := he e (List.mem_of_getElem? hi')
          obtain ⟨b, o, cap, hu', _, _, hv⟩ := hh.cell (i := i) (j := j) (by omega) (by omega)
          have hu2 : hdAt w d (vs i j) p = some u1 := by
            subst hu'
            simp only [hdAt, hi, hj, hv] at hu
            exact hu
          simp only [C.set, hi, hj]
          have hl : ((es.set i (e.set j (d.set p c2))) ++ sp).length = (es ++ sp).length := by simp
          refine .sl vs (fun e' he' => ?_) ?_ (fun i' j' e' c' h1 h3 => ?_)
          · obtain ⟨n, hn⟩ := List.getElem?_of_mem he'
            rw [← List.set_append_left _ _ hlt, List.getElem?_set] at hn
            split at hn
            · split at hn
              · injection hn with hn; subst hn; rw [List.length_set]; exact hsz
              · cases hn
            · exact he e' (List.mem_of_getElem? hn)
          · rw [List.length_set]
            exact hh.move (fun b hb hl => hm [] b hb hl (by simp)) (fun h => h)
          · rw [← List.set_append_left _ _ hlt, List.getElem?_set] at h1
            split at h1
            · rename_i hii
              subst hii
              split at h1
              · injection h1 with h1
                subst h1
                rw [List.getElem?_set] at h3
                split at h3
                · rename_i hjj
                  subst hjj
                  · injection h3 with h3
                    subst h3
                    refine CR.set p (hc i j e d hi' hj) hg hu2 (fun q b hb hl hq => hm ((i, j) :: q) b hb hl (fun hp => hq ?_)) h2
                    exact (List.prefix_cons_inj (i, j)).1 hp
                · rename_i hjj
                  refine (hc i j' e c' hi' h3).move (fun q b hb hl => hm ((i, j') :: q) b hb hl (fun hp => ?_)) (Ok.refl _)
                  obtain ⟨r, hr⟩ := hp
                  simp only [List.cons_append, List.cons.injEq, Prod.mk.injEq] at hr
                  exact hjj hr.1.2
              · cases h1
            · rename_i hii
              refine (hc i' j' e' c' h1 h3).move (fun q b hb hl => hm ((i', j') :: q) b hb hl (fun hp => ?_)) (Ok.refl _)
              obtain ⟨r, hr⟩ := hp
              simp only [List.cons_append, List.cons.injEq, Prod.mk.injEq] at hr
              exact hii hr.1.1


section
variable {w : World} {home : Home} {hd : Lb → Value} {rt : Rts} {F : Nat → Option Root}
def updL {α : Type} (f : Lb → α) (l : Lb) (v : α) : Lb → α := fun m => if m = l then v else f m
theorem updL_same {α : Type} (f : Lb → α) (l : Lb) (v : α) : updL f l v l = v := if_pos rfl
theorem updL_ne {α : Type} (f : Lb → α) {l m : Lb} (v : α) (h : m ≠ l) : updL f l v m = f m := if_neg h
theorem Part.zero {u v : Value} {sz n : Nat} (h : Part u v sz 0 n) : ∃ a m cap a', u = .slice a m cap ∧ n ≤ cap ∧ v = .slice a' n cap ∧ (0 < cap → a' = a) := by
  obtain ⟨a, m, cap, a', e1, e2, e3, e4⟩ := h
  refine ⟨a, m, cap, a', e1, by omega, by simpa using e3, fun h0 => ?_⟩
  rw [e4 h0]
  cases a <;> simp [Addr.add]
/-- What lies at k is one more root. -/
theorem RtR.tag (h : RtR w home hd rt F) {d : Bool} {t : Bool} {l : Lb} {c : C} (hl : ext rt F l = some (.arr d t c)) : CR w home (arrTg d l) c (hd l) := h.root l _ hl

/-- A row is taken whole. -/
theorem take_whole (old : RtR w home hd rt F) {id k : Nat} {d t : Bool} {c : C} (hr : rt id = some (.arr d t c)) (hk : F k = none) {sz m tot n : Nat} (hs : c.shape = some (sz, m, tot)) (hn : n ≤ tot)
    {v : Value} (hp : Part (hd (.r id)) v sz 0 n) :
    ∃ home' hd', Step w home hd rt F w home' hd' (upd rt id .gone) (upd F k (.arr d false (c.sub 0 n))) ∧ (∀ l, l ≠ .t k → hd' l = hd l) ∧ hd' (.t k) = v := by
  obtain ⟨a, m', cap, a', hu, hcap, rfl, ha⟩ := hp.zero
  have hX : CR w home (arrTg d (.r id)) c (hd (.r id)) := old.root (.r id) _ hr
  let g : Lb → Lb := fun l => if l = .r id then .t k else l
  let home' : Home := fun b => (home b).map (fun q => (g q.1, q.2))
  have hnone : ∀ b, home b = none → home' b = none := fun b h => by simp [home', h]
  have hr' : ∀ b q, home b = some (.r id, q) → home' b = some (.t k, q) := fun b q h => by simp [home', h, g]
  have hother : ∀ b l q, l ≠ .r id → home b = some (l, q) → home' b = some (l, q) := fun b l q hl h => by simp [home', h, g, hl]
  have hnok : ∀ b q, home b ≠ some (.t k, q) := fun b q h => by
    obtain ⟨_, r, h1, _⟩ := old.lab b _ q h
    simp only [ext, hk] at h1
    cases h1
  have hnew : CR w home' (arrTg d (.t k)) (c.sub 0 n) (.slice a' n cap) := by
    have h1 : CR w home (arrTg d (.r id)) (c.sub 0 n) (relen (hd (.r id)) n) := hX.sub0 hs hn
    rw [hu] at h1
    have h2 := h1.readdr (a' := a') (by rw [C.sub_shape hs (by omega)]; simp) ha
    refine h2.move (fun q b hb hl => ⟨rfl, ?_⟩) ?_
    · rcases arrTg_exts d (.r id) q with h3 | h3
      · have h4 : ((arrTg d (.t k)).exts q).lab = none := by
          cases d with
          | true => simp [arrTg, Tg.exts_own, Tg.lab] at h3
          | false => cases q with
            | nil => simp [arrTg, Tg.exts, Tg.lab] at h3
            | cons x q => simp [arrTg, Tg.exts_top, Tg.lab]
        rw [h4]; exact hnone b (hl.trans h3)
      · have h4 : ((arrTg d (.t k)).exts q).lab = some (.t k, q) := by
          cases d with
          | true => simp [arrTg, Tg.exts_own, Tg.lab]
          | false => cases q with
            | nil => simp [arrTg, Tg.exts, Tg.lab]
            | cons x q => simp [arrTg, Tg.exts_top, Tg.lab] at h3
        rw [h4]; exact hr' b q (hl.trans h3)
    · cases d with
      | true => exact Ok.own _ _ _
      | false => exact Ok.top _ _
  refine ⟨home', updL hd (.t k) (.slice a' n cap), Step.mk2 (fun l => l = .r id ∨ l = .t k) old (fun b _ h => ⟨rfl, hnone b h⟩) (fun l hl b q _ h => ⟨rfl, hother b l q (fun e => hl (Or.inl e)) h⟩)
    (fun l hl => updL_ne _ _ (fun e => hl (Or.inr e))) (fun l hl => ?_) ?_ ?_ ?_ ?_ ?_ ?_ rfl rfl rfl (Nat.le_refl _) ?_, fun l hl => updL_ne _ _ hl, updL_same _ _ _⟩
  · cases l with
    | x => rfl
    | r i => exact updF_ne _ _ (fun e => hl (Or.inl (by rw [e])))
    | t i => exact updF_ne _ _ (fun e => hl (Or.inr (by rw [e])))
  · intro i hi x v' hx _ hv'
    have hi : i = id := by rcases hi with e | e <;> cases e; rfl
    subst hi
    have hg : upd rt i .gone i = some .gone := updF_same _ _ _
    cases x with
    | c c => cases hx
    | nil k => cases hx
    | pm cs off => cases hx
    | ref j p off len =>
      simp only [SV.ids, List.cons.injEq, and_true] at hx; subst hx
      exact ⟨hv'.1, fun d t c hr => by rw [hg] at hr; cases hr⟩
    | pb j off =>
      simp only [SV.ids, List.cons.injEq, and_true] at hx; subst hx
      exact ⟨hv'.1, fun xs hr => by rw [hg] at hr; cases hr⟩
    | pe j p i' off =>
      simp only [SV.ids, List.cons.injEq, and_true] at hx; subst hx
      exact ⟨hv'.1, fun d t c hr => by rw [hg] at hr; cases hr⟩
  · intro _ l r hl hr
    rcases hl with rfl | rfl
    · simp only [ext, updF_same, Option.some.injEq] at hr; subst hr; trivial
    · simp only [ext, updF_same, Option.some.injEq] at hr; subst hr
      show CR w home' (arrTg d (.t k)) (c.sub 0 n) (updL hd (.t k) _ (.t k))
      rw [updL_same]; exact hnew
  · intro b l p hl h
    simp only [home', Option.map_eq_some_iff] at h
    obtain ⟨⟨l0, q⟩, h1, h2⟩ := h
    simp only [Prod.mk.injEq] at h2
    obtain ⟨h2, rfl⟩ := h2
    simp only [g] at h2
    split at h2
    · exact absurd (Or.inr h2.symm) hl
    · subst h2; exact ⟨(old.lab b _ _ h1).1, h1⟩
  · intro b l p hl h
    simp only [home', Option.map_eq_some_iff] at h
    obtain ⟨⟨l0, q⟩, h1, h2⟩ := h
    refine ⟨(old.lab b _ _ h1).1, ?_⟩
    simp only [Prod.mk.injEq] at h2
    obtain ⟨h2, rfl⟩ := h2
    simp only [g] at h2
    split at h2
    · subst h2; exact ⟨.arr d false (c.sub 0 n), by simp only [ext, updF_same], by simp⟩
    · rename_i hne
      subst h2
      rcases hl with e | e
      · exact absurd e hne
      · subst e; exact absurd h1 (hnok b q)
  · intro l r hl hr
    rcases hl with rfl | rfl
    · simp only [ext, updF_same, Option.some.injEq] at hr; subst hr; intro i hi; cases hi
    · simp only [ext, updF_same, Option.some.injEq] at hr; subst hr; intro i hi; cases hi
  · intro i hi
    by_cases e : i = id
    · subst e; rw [updF_same]; rfl
    · rw [updF_ne _ _ e]; exact hi
  · intro i _ hX r hr hne
    rcases hX with e | e
    · injection e with e; subst e; rw [updF_same] at hr; injection hr with hr; exact absurd hr.symm hne
    · cases e
end


section
variable {w : World} {home : Home} {hd : Lb → Value} {rt : Rts} {F : Nat → Option Root}
/-- An inner row is taken out of a root all of which is owned. -/
theorem take_inner (old : RtR w home hd rt F) {id k : Nat} {c c' : C} {p : Path} (hr : rt id = some (.arr true false c)) (hk : F k = none) (hg : c.get p = some c') {sz m tot n : Nat} (hs : c'.shape = some (sz, m, tot)) (hn : n ≤ tot)
    {u v : Value} (hu : hdAt w c (hd (.r id)) p = some u) (hp : Part u v sz 0 n) :
    ∃ home' hd', Step w home hd rt F w home' hd' (upd rt id (.arr true false (c.set p .hole))) (upd F k (.arr true false (c'.sub 0 n))) ∧ (∀ l, l ≠ .t k → hd' l = hd l) ∧ hd' (.t k) = v := by
  obtain ⟨a, m', cap, a', rfl, hcap, rfl, ha⟩ := hp.zero
  have hX : CR w home (.own (.r id) []) c (hd (.r id)) := old.root (.r id) _ hr
  obtain ⟨u', hu1, hc'⟩ := CR.at p hX hg
  rw [hu] at hu1; injection hu1 with hu1; subst hu1
  rw [Tg.exts_own, List.nil_append] at hc'
  let g : Lb × Path → Lb × Path := fun q => if q.1 = .r id ∧ p <+: q.2 then (.t k, q.2.drop p.length) else q
  let home' : Home := fun b => (home b).map g
  have hnone : ∀ b, home b = none → home' b = none := fun b h => by simp [home', h]
  have hin : ∀ b q, home b = some (.r id, p ++ q) → home' b = some (.t k, q) := fun b q h => by simp [home', h, g]
  have hout : ∀ b l q, ¬ (l = .r id ∧ p <+: q) → home b = some (l, q) → home' b = some (l, q) := fun b l q hl h => by simp only [home', h, Option.map_some, g]; rw [if_neg hl]
  have hnok : ∀ b q, home b ≠ some (.t k, q) := fun b q h => by
    obtain ⟨_, r, h1, _⟩ := old.lab b _ q h
    simp only [ext, hk] at h1
    cases h1
  have hnew : CR w home' (.own (.t k) []) (c'.sub 0 n) (.slice a' n cap) := by
    have h1 := hc'.sub0 hs hn
    have h2 := h1.readdr (a' := a') (by rw [C.sub_shape hs (by omega)]; simp) ha
    refine h2.move (fun q b hb hl => ⟨rfl, ?_⟩) (Ok.own _ _ _)
    rw [Tg.exts_own] at hl ⊢
    simp only [Tg.lab, List.nil_append] at hl ⊢
    exact hin b q hl
  have hrest : CR w home' (.own (.r id) []) (c.set p .hole) (hd (.r id)) := by
    refine CR.set p hX hg hu (fun q b hb hl hq => ⟨rfl, ?_⟩) (.hole rfl)
    rw [Tg.exts_own, List.nil_append] at hl ⊢
    exact hout b _ q (fun h => hq h.2) hl
  refine ⟨home', updL hd (.t k) (.slice a' n cap), Step.mk2 (fun l => l = .r id ∨ l = .t k) old (fun b _ h => ⟨rfl, hnone b h⟩) (fun l hl b q _ h => ⟨rfl, hout b l q (fun e => hl (Or.inl e.1)) h⟩)
    (fun l hl => updL_ne _ _ (fun e => hl (Or.inr e))) (fun l hl => ?_) ?_ ?_ ?_ ?_ ?_ ?_ rfl rfl rfl (Nat.le_refl _) ?_, fun l hl => updL_ne _ _ hl, updL_same _ _ _⟩
  · cases l with
    | x => rfl
    | r i => exact updF_ne _ _ (fun e => hl (Or.inl (by rw [e])))
    | t i => exact updF_ne _ _ (fun e => hl (Or.inr (by rw [e])))
  · intro i hi x v' hx _ hv'
    have hi : i = id := by rcases hi with e | e <;> cases e; rfl
    subst hi
    have hgi : upd rt i (.arr true false (c.set p .hole)) i = some (.arr true false (c.set p .hole)) := updF_same _ _ _
    have hhd : updL hd (.t k) (.slice a' n cap) (.r i) = hd (.r i) := updL_ne _ _ (by simp)
    cases x with
    | c c => cases hx
    | nil k => cases hx
    | pm cs off => cases hx
    | ref j p' off len =>
      simp only [SV.ids, List.cons.injEq, and_true] at hx; subst hx
      refine ⟨hv'.1, fun d t c2 hr2 ht c3 u3 hg3 hu3 sz3 m3 tot3 hs3 => ?_⟩
      rw [hgi] at hr2
      injection hr2 with hr2
      injection hr2 with e1 e2 e3
      subst e1 e2 e3
      obtain ⟨c4, h1, h2, h3⟩ := C.set_hole p hg3 hs3
      rw [hhd, h3] at hu3
      exact hv'.2 true false c hr (Or.inr rfl) c4 u3 h1 hu3 sz3 m3 tot3 h2
    | pb j off =>
      simp only [SV.ids, List.cons.injEq, and_true] at hx; subst hx
      exact ⟨hv'.1, fun xs hr => by rw [hgi] at hr; cases hr⟩
    | pe j p' i' off =>
      simp only [SV.ids, List.cons.injEq, and_true] at hx; subst hx
      refine ⟨hv'.1, fun d t c2 hr2 ht c3 u3 hg3 hu3 sz3 m3 tot3 hs3 hi3 => ?_⟩
      rw [hgi] at hr2
      injection hr2 with hr2
      injection hr2 with e1 e2 e3
      subst e1 e2 e3
      obtain ⟨c4, h1, h2, h3⟩ := C.set_hole p hg3 hs3
      rw [hhd, h3] at hu3
      exact hv'.2 true false c hr (Or.inr rfl) c4 u3 h1 hu3 sz3 m3 tot3 h2 hi3
  · intro _ l r hl hr2
    rcases hl with rfl | rfl
    · simp only [ext, updF_same, Option.some.injEq] at hr2; subst hr2
      show CR w home' (.own (.r id) []) (c.set p .hole) (updL hd (.t k) _ (.r id))
      rw [updL_ne _ _ (by simp)]; exact hrest
    · simp only [ext, updF_same, Option.some.injEq] at hr2; subst hr2
      show CR w home' (.own (.t k) []) (c'.sub 0 n) (updL hd (.t k) _ (.t k))
      rw [updL_same]; exact hnew
  · intro b l q hl h
    simp only [home', Option.map_eq_some_iff] at h
    obtain ⟨⟨l0, q0⟩, h1, h2⟩ := h
    simp only [g] at h2
    split at h2
    · injection h2 with h2 _; exact absurd (Or.inr h2.symm) hl
    · injection h2 with h2 h3; subst h2 h3; exact ⟨(old.lab b _ _ h1).1, h1⟩
  · intro b l q hl h
    simp only [home', Option.map_eq_some_iff] at h
    obtain ⟨⟨l0, q0⟩, h1, h2⟩ := h
    refine ⟨(old.lab b _ _ h1).1, ?_⟩
    simp only [g] at h2
    split at h2
    · injection h2 with h2 _; subst h2; exact ⟨.arr true false (c'.sub 0 n), by simp only [ext, updF_same], by simp⟩
    · injection h2 with h2 h3; subst h2 h3
      rcases hl with e | e
      · subst e; exact ⟨.arr true false (c.set p .hole), by simp only [ext, updF_same], by simp⟩
      · subst e; exact absurd h1 (hnok b _)
  · intro l r hl hr2
    rcases hl with rfl | rfl
    · simp only [ext, updF_same, Option.some.injEq] at hr2; subst hr2; intro i hi; cases hi
    · simp only [ext, updF_same, Option.some.injEq] at hr2; subst hr2; intro i hi; cases hi
  · intro i hi
    by_cases e : i = id
    · subst e; rw [updF_same]; rfl
    · rw [updF_ne _ _ e]; exact hi
  · intro i _ hX2 r hr2 hne
    rcases hX2 with e | e
    · injection e with e; subst e; exact ⟨updL_ne _ _ (by simp), _, hr, by simp⟩
    · cases e

/-- Something new lies at k: nobody owned it. -/
theorem put_new (old : RtR w home hd rt F) {k : Nat} (hk : F k = none) {d : Bool} {c : C} {v : Value} (hc : CR w home (arrTg d (.t k)) c v) :
    ∃ hd', Step w home hd rt F w home hd' rt (upd F k (.arr d false c)) ∧ (∀ l, l ≠ .t k → hd' l = hd l) ∧ hd' (.t k) = v := by
  refine ⟨updL hd (.t k) v, Step.mk2 (fun l => l = .t k) old (fun b _ h => ⟨rfl, h⟩) (fun l hl b q _ h => ⟨rfl, h⟩)
    (fun l hl => updL_ne _ _ hl) (fun l hl => ?_) ?_ ?_ ?_ ?_ ?_ (fun i h => h) rfl rfl rfl (Nat.le_refl _) ?_, fun l hl => updL_ne _ _ hl, updL_same _ _ _⟩
  · cases l with
    | x => rfl
    | r i => rfl
    | t i => exact updF_ne _ _ (fun e => hl (by rw [e]))
  · intro i hi; cases hi
  · intro _ l r hl hr2
    subst hl
    simp only [ext, updF_same, Option.some.injEq] at hr2; subst hr2
    show CR w home (arrTg d (.t k)) c (updL hd (.t k) v (.t k))
    rw [updL_same]; exact hc
  · intro b l q hl h; exact ⟨(old.lab b _ _ h).1, h⟩
  · intro b l q hl h
    subst hl
    exact ⟨(old.lab b _ _ h).1, .arr d false c, by simp only [ext, updF_same], by simp⟩
  · intro l r hl hr2
    subst hl
    simp only [ext, updF_same, Option.some.injEq] at hr2; subst hr2; intro i hi; cases hi
  · intro i _ hX; cases hX

theorem take_step (old : RtR w home hd rt F) {x : SV} {v : Value} (hv : SVR w home hd rt x v) {k : Nat} (hk : F k = none) {o : Ow} {c : C} {rt' : Rts} (h : take rt x = some (o, c, rt')) :
    ∃ home' hd' F', Step w home hd rt F w home' hd' rt' F' ∧ (∀ j, j ≠ k → F' j = F j) ∧ (∀ l, l ≠ .t k → hd' l = hd l) ∧ Held w home' hd' F' k o c v ∧ (o ≠ .imm → c.shape ≠ none) ∧ (o = .imm → F' = F) := by
  cases x with
  | c c0 =>
    simp only [take, Option.some.injEq, Prod.mk.injEq] at h
    obtain ⟨rfl, rfl, rfl⟩ := h
    exact ⟨home, hd, F, Step.refl old, fun _ _ => rfl, fun _ _ => rfl, Or.inl ⟨rfl, hv⟩, fun h => absurd rfl h, fun _ => rfl⟩
  | nil q =>
    simp only [take, Option.some.injEq, Prod.mk.injEq] at h
    obtain ⟨rfl, rfl, rfl⟩ := h
    obtain ⟨rfl, hq⟩ := hv
    obtain ⟨hd', h1, h2, h3⟩ := put_new old hk (d := true) (c := q.empty) (v := .slice none 0 0) (CR.kempty hq)
    exact ⟨home, hd', _, h1, fun j hj => updF_ne _ _ hj, h2, Or.inr ⟨by simp, by rw [updF_same]; rfl, h3, rfl⟩, fun _ => by cases q <;> simp [K.empty, C.shape], fun h => by cases h⟩
  | ref id p off len =>
    cases p with
    | nil =>
      simp only [take] at h
      split at h
      · rename_i d t c0 hr
        split at h
        · rename_i sz m tot hs
          split at h
          · rename_i hcond
            obtain ⟨rfl, hn⟩ := hcond
            simp only [Option.some.injEq, Prod.mk.injEq] at h
            obtain ⟨rfl, rfl, rfl⟩ := h
            have hp := hv.2 d t c0 hr (Or.inl rfl) c0 (hd (.r id)) (by cases c0 <;> rfl) (by cases c0 <;> rfl) sz m tot hs
            obtain ⟨home', hd', h1, h2, h3⟩ := take_whole old hr hk hs hn hp
            refine ⟨home', hd', _, h1, fun j hj => updF_ne _ _ hj, h2, Or.inr ⟨by cases d <;> simp, by rw [updF_same]; cases d <;> rfl, h3, SVR.one hv⟩, fun _ => by rw [C.sub_shape hs (by omega)]; simp, fun h => by cases d <;> cases h⟩
          · cases h
        · cases h
      · cases h
    | cons y p =>
      simp only [take] at h
      split at h
      · rename_i c0 hr
        split at h
        · rename_i c1 hg
          split at h
          · rename_i sz m tot hs
            split at h
            · rename_i hcond
              obtain ⟨rfl, hn⟩ := hcond
              simp only [Option.some.injEq, Prod.mk.injEq] at h
              obtain ⟨rfl, rfl, rfl⟩ := h
              obtain ⟨u, hu, _⟩ := CR.at (y :: p) (old.root (.r id) _ hr) hg
              have hp := hv.2 true false c0 hr (Or.inr rfl) c1 u hg hu sz m tot hs
              obtain ⟨home', hd', h1, h2, h3⟩ := take_inner old hr hk hg hs hn hu hp
              refine ⟨home', hd', _, h1, fun j hj => updF_ne _ _ hj, h2, Or.inr ⟨by simp, by rw [updF_same]; rfl, h3, SVR.one hv⟩, fun _ => by rw [C.sub_shape hs (by omega)]; simp, fun h => by cases h⟩
            · cases h
          · cases h
        · cases h
      · cases h
  | pb id off => cases h
  | pe id p i off => cases h
  | pm cs off => cases h
end


theorem Held.step {w w' : World} {home home' : Home} {hd hd' : Lb → Value} {rt rt' : Rts} {F F' : Nat → Option Root} (h : Step w home hd rt F w' home' hd' rt' F') {k : Nat} {o : Ow} {c : C} {v : Value}
    (hh : Held w home hd F k o c v) (hF : F' k = F k) (hh2 : hd' (.t k) = hd (.t k)) : Held w' home' hd' F' k o c v := by
  rcases hh with ⟨e, hc⟩ | ⟨e, h1, h2, h3⟩
  · exact Or.inl ⟨e, h.st (.c c) v (fun i hi => by cases hi) hc⟩
  · exact Or.inr ⟨e, hF.trans h1, hh2.trans h2, h3⟩
theorem takes_step {w : World} : ∀ (xs : List SV) {home : Home} {hd : Lb → Value} {rt : Rts} {F : Nat → Option Root} {vs : List Value} {k : Nat} {l : List (Ow × C)} {rt' : Rts},
    RtR w home hd rt F → F2 (SVR w home hd rt) xs vs → (∀ x ∈ xs, ∀ i ∈ x.ids, (rt i).isSome = true) → (∀ j, k ≤ j → F j = none) → takes rt xs = some (l, rt') →
    ∃ home' hd' F', Step w home hd rt F w home' hd' rt' F' ∧ (∀ j, j < k → F' j = F j) ∧ (∀ j, k + xs.length ≤ j → F' j = none) ∧ (∀ i, hd' (.r i) = hd (.r i)) ∧ (∀ j, j < k → hd' (.t j) = hd (.t j)) ∧
      l.length = xs.length ∧ ∀ m q v, l[m]? = some q → vs[m]? = some v → Held w home' hd' F' (k + m) q.1 q.2 v ∧ (q.1 ≠ .imm → q.2.shape ≠ none) ∧ (q.1 = .imm → F' (k + m) = none)
  | [], home, hd, rt, F, vs, k, l, rt', old, _, _, hF, h => by
    simp only [takes, Option.some.injEq, Prod.mk.injEq] at h
    obtain ⟨rfl, rfl⟩ := h
    exact ⟨home, hd, F, Step.refl old, fun _ _ => rfl, fun j hj => hF j (by simpa using hj), fun _ => rfl, fun _ _ => rfl, rfl, fun m q v hq => by simp at hq⟩
  | x :: xs, home, hd, rt, F, vs, k, l, rt', old, hv, hw, hF, h => by
    cases vs with
    | nil => exact absurd hv.1 (by simp)
    | cons v vs =>
      simp only [takes] at h
      cases h1 : take rt x with
      | none => simp only [h1] at h; cases h
      | some r =>
        obtain ⟨o, c, rt1⟩ := r
        simp only [h1] at h
        cases h2 : takes rt1 xs with
        | none => simp only [h2] at h; cases h
        | some r2 =>
          obtain ⟨l2, rt2⟩ := r2
          simp only [h2, Option.some.injEq, Prod.mk.injEq] at h
          obtain ⟨rfl, rfl⟩ := h
          obtain ⟨home1, hd1, F1, s1, f1, g1, held, sh, imF⟩ := take_step old (hv.2 0 x v rfl rfl) (hF k (Nat.le_refl _)) h1
          have hv1 : F2 (SVR w home1 hd1 rt1) xs vs := ⟨by have := hv.1; simpa using this, fun i x' v' hx hv' => s1.st x' v' (hw x' (List.mem_cons_of_mem _ (List.mem_of_getElem? hx))) (hv.2 (i + 1) x' v' hx hv')⟩
          obtain ⟨home2, hd2, F2', s2, f2, n2, g2, t2, len2, held2⟩ := takes_step xs (k := k + 1) s1.rel hv1 (fun x' hx i hi => s1.pres i (hw x' (List.mem_cons_of_mem _ hx) i hi))
            (fun j hj => (f1 j (by omega)).trans (hF j (by omega))) h2
          refine ⟨home2, hd2, F2', s1.trans s2, fun j hj => (f2 j (by omega)).trans (f1 j (by omega)), fun j hj => n2 j (by simp only [List.length_cons] at hj; omega), fun i => (g2 i).trans (g1 _ (by simp)),
            fun j hj => (t2 j (by omega)).trans (g1 _ (by simp; omega)), by simp [len2], fun m q v' hq hv' => ?_⟩
          cases m with
          | zero =>
            simp only [List.getElem?_cons_zero, Option.some.injEq] at hq hv'
            subst hq hv'
            exact ⟨held.step s2 (f2 k (by omega)) (t2 k (by omega)), sh, fun h => by rw [Nat.add_zero, f2 k (by omega), imF h]; exact hF k (Nat.le_refl _)⟩
          | succ m =>
            simp only [List.getElem?_cons_succ] at hq hv'
            have := held2 m q v' hq hv'
            rw [show k + 1 + m = k + (m + 1) by omega] at this
            exact this

/-! ### A new row out of what was taken -/
section
variable {w w' : World} {home : Home} {hd : Lb → Value} {rt : Rts} {F : Nat → Option Root}
/-- B is the new row's block; what lay from k0 on goes below the new row, or is let go. -/
def asmHome (home : Home) (k0 id : Nat) (B : Option Nat) (g : Nat → Path → Option Path) : Home := fun b =>
  if some b = B then some (.r id, []) else match home b with
    | some (.t m, q) => if k0 ≤ m then (g m q).map (fun p => (.r id, p)) else some (.t m, q)
    | x => x
def asmF (F : Nat → Option Root) (k0 : Nat) : Nat → Option Root := fun j => if k0 ≤ j then none else F j
theorem asmHome_none {home : Home} {k0 id : Nat} {B : Option Nat} {g : Nat → Path → Option Path} {b : Nat} (hb : some b ≠ B) (h : home b = none) : asmHome home k0 id B g b = none := by
  simp [asmHome, hb, h]
theorem asmHome_B {home : Home} {k0 id : Nat} {g : Nat → Path → Option Path} {b : Nat} : asmHome home k0 id (some b) g b = some (.r id, []) := by simp [asmHome]
theorem asmHome_r {home : Home} {k0 id : Nat} {B : Option Nat} {g : Nat → Path → Option Path} {b i : Nat} {q : Path} (hb : some b ≠ B) (h : home b = some (.r i, q)) : asmHome home k0 id B g b = some (.r i, q) := by
  simp [asmHome, hb, h]
theorem asmHome_x {home : Home} {k0 id : Nat} {B : Option Nat} {g : Nat → Path → Option Path} {b : Nat} {q : Path} (hb : some b ≠ B) (h : home b = some (.x, q)) : asmHome home k0 id B g b = some (.x, q) := by
  simp [asmHome, hb, h]
theorem asmHome_t {home : Home} {k0 id : Nat} {B : Option Nat} {g : Nat → Path → Option Path} {b m : Nat} {q : Path} (hb : some b ≠ B) (h : home b = some (.t m, q)) (hm : k0 ≤ m) : asmHome home k0 id B g b = (g m q).map (fun p => (.r id, p)) := by
  simp [asmHome, hb, h, hm]
theorem asmHome_t' {home : Home} {k0 id : Nat} {B : Option Nat} {g : Nat → Path → Option Path} {b m : Nat} {q : Path} (hb : some b ≠ B) (h : home b = some (.t m, q)) (hm : m < k0) : asmHome home k0 id B g b = some (.t m, q) := by
  simp only [asmHome, hb, h, if_false]; rw [if_neg (by omega)]
theorem asmHome_inv {home : Home} {k0 id : Nat} {B : Option Nat} {g : Nat → Path → Option Path} {b : Nat} {l : Lb} {p : Path} (h : asmHome home k0 id B g b = some (l, p)) :
    (some b = B ∧ l = .r id) ∨ (some b ≠ B ∧ home b = some (l, p) ∧ ∀ m, l = .t m → m < k0) ∨ (some b ≠ B ∧ l = .r id ∧ ∃ m q, k0 ≤ m ∧ home b = some (.t m, q)) := by
  simp only [asmHome] at h
  split at h
  · rename_i hb; injection h with h; injection h with h1 h2; exact Or.inl ⟨hb, h1.symm⟩
  · rename_i hb
    split at h
    · rename_i m q hm
      split at h
      · rename_i hk
        rw [Option.map_eq_some_iff] at h
        obtain ⟨q', _, h2⟩ := h
        injection h2 with h2 h3
        exact Or.inr (Or.inr ⟨hb, h2.symm, m, q, hk, hm⟩)
      · injection h with h; injection h with h1 h2; subst h1 h2
        rename_i hk
        exact Or.inr (Or.inl ⟨hb, hm, fun m' e => by injection e with e; subst e; omega⟩)
    · rename_i hne
      refine Or.inr (Or.inl ⟨hb, h, fun m e => ?_⟩)
      subst e
      exact absurd h (hne m p)
theorem assemble (old : RtR w home hd rt F) {k0 id : Nat} (hid : rt id = none) (h64 : 64000 ≤ id) {B : Option Nat} (g : Nat → Path → Option Path) {d : Bool} {c : C} {u : Value}
    (hB : ∀ b, B = some b → b < w'.heap.size ∧ (b < w.heap.size → ∃ m q, k0 ≤ m ∧ home b = some (.t m, q)))
    (hblk : ∀ b, b < w.heap.size → some b ≠ B → w'.heap[b]? = w.heap[b]?)
    (os : w'.os = w.os) (tape : w'.tape = w.tape) (output : w'.output = w.output) (size : w.heap.size ≤ w'.heap.size)
    (hc : CR w' (asmHome home k0 id B g) (arrTg d (.r id)) c u) :
    Step w home hd rt F w' (asmHome home k0 id B g) (updL hd (.r id) u) (upd rt id (.arr d false c)) (asmF F k0) := by
  have hnB : ∀ b, b < w.heap.size → (∀ m q, k0 ≤ m → home b ≠ some (.t m, q)) → some b ≠ B := by
    intro b hb hn e
    obtain ⟨m, q, h1, h2⟩ := (hB b e.symm).2 hb
    exact hn m q h1 h2
  have hidl : ∀ b q, home b ≠ some (.r id, q) := fun b q h => by
    obtain ⟨_, r, h1, _⟩ := old.lab b _ q h
    simp only [ext, hid] at h1
    cases h1
  refine Step.mk2 (fun l => l = .r id ∨ ∃ m, k0 ≤ m ∧ l = .t m) old (fun b hb h => ?_) (fun l hl b q hb h => ?_) (fun l hl => updL_ne _ _ (fun e => hl (Or.inl e))) (fun l hl => ?_) ?_ ?_ ?_ ?_ ?_ ?_ os tape output size ?_
  · have := hnB b hb (fun m q _ e => by rw [h] at e; cases e)
    exact ⟨hblk b hb this, asmHome_none this h⟩
  · have hb' := hnB b hb (fun m q hm e => by rw [h] at e; injection e with e; injection e with e1 e2; exact hl (Or.inr ⟨m, hm, e1⟩))
    refine ⟨hblk b hb hb', ?_⟩
    cases l with
    | x => exact asmHome_x hb' h
    | r i => exact asmHome_r hb' h
    | t m => exact asmHome_t' hb' h (by
        have : ¬ k0 ≤ m := fun hm => hl (Or.inr ⟨m, hm, rfl⟩)
        omega)
  · cases l with
    | x => rfl
    | r i => exact updF_ne _ _ (fun e => hl (Or.inl (by rw [e])))
    | t i =>
      have : ¬ k0 ≤ i := fun e => hl (Or.inr ⟨i, e, rfl⟩)
      simp [ext, asmF, this]
  · intro i hi x v hx hs _
    rcases hi with e | ⟨m, _, e⟩
    · injection e with e; subst e; rw [hid] at hs; cases hs
    · cases e
  · intro _ l r hl hr
    rcases hl with rfl | ⟨m, hm, rfl⟩
    · simp only [ext, updF_same, Option.some.injEq] at hr; subst hr
      show CR w' _ (arrTg d (.r id)) c (updL hd (.r id) u (.r id))
      rw [updL_same]; exact hc
    · simp only [ext, asmF, hm, if_true] at hr; cases hr
  · intro b l p hl h
    rcases asmHome_inv h with ⟨_, e⟩ | ⟨_, e, _⟩ | ⟨_, e, _⟩
    · exact absurd (Or.inl e) hl
    · exact ⟨(old.lab b l p e).1, e⟩
    · exact absurd (Or.inl e) hl
  · intro b l p hl h
    have hroot : ∃ r, ext (upd rt id (.arr d false c)) (asmF F k0) (.r id) = some r ∧ r ≠ .gone := ⟨.arr d false c, updF_same _ _ _, by simp⟩
    rcases asmHome_inv h with ⟨e, rfl⟩ | ⟨_, e, ht⟩ | ⟨_, rfl, m, q, _, e⟩
    · exact ⟨(hB b e.symm).1, hroot⟩
    · rcases hl with rfl | ⟨m, hm, rfl⟩
      · exact absurd e (hidl b p)
      · exact absurd (ht m rfl) (by omega)
    · exact ⟨Nat.lt_of_lt_of_le (old.lab b _ _ e).1 size, hroot⟩
  · intro l r hl hr
    rcases hl with rfl | ⟨m, hm, rfl⟩
    · simp only [ext, updF_same, Option.some.injEq] at hr; subst hr; intro i hi; cases hi
    · simp only [ext, asmF, hm, if_true] at hr; cases hr
  · intro i hi
    by_cases e : i = id
    · subst e; rw [updF_same]; rfl
    · rw [updF_ne _ _ e]; exact hi
  · intro i hi hX
    rcases hX with e | ⟨m, _, e⟩
    · injection e with e; omega
    · cases e

/-- A new variable. -/
theorem new_box (old : RtR w home hd rt F) {id : Nat} (hid : rt id = none) (h64 : 64000 ≤ id) {xs : List SV} {vs : List Value} (hx : F2 (SVR w home hd rt) xs vs) (hw : ∀ x ∈ xs, ∀ i ∈ x.ids, (rt i).isSome = true) (e : TypeId) :
    ∃ home' hd', Step w home hd rt F (w.alloc (.cells vs.toArray e)) home' hd' (upd rt id (.box xs)) F ∧ hd' (.r id) = .pointer (some ⟨w.heap.size, 0, none⟩) := by
  have hidl : ∀ b q, home b ≠ some (.r id, q) := fun b q h => by
    obtain ⟨_, r, h1, _⟩ := old.lab b _ q h
    simp only [ext, hid] at h1
    cases h1
  let home' : Home := fun b => if b = w.heap.size then some (.r id, []) else home b
  have hold : ∀ b, b < w.heap.size → home' b = home b := fun b hb => if_neg (by omega)
  have hh : ∀ b, b < w.heap.size → (w.alloc (.cells vs.toArray e)).heap[b]? = w.heap[b]? := fun b hb => heap_alloc_old w _ b hb
  refine ⟨home', updL hd (.r id) (.pointer (some ⟨w.heap.size, 0, none⟩)), Step.mk2 (fun l => l = .r id) old (fun b hb h => ⟨hh b hb, (hold b hb).trans h⟩) (fun l hl b q hb h => ⟨hh b hb, (hold b hb).trans h⟩)
    (fun l hl => updL_ne _ _ hl) (fun l hl => ?_) ?_ ?_ ?_ ?_ ?_ ?_ rfl rfl rfl (by simp) ?_, updL_same _ _ _⟩
  · cases l with
    | x => rfl
    | r i => exact updF_ne _ _ (fun e => hl (by rw [e]))
    | t i => rfl
  · intro i hi x v hx hs _
    injection hi with hi; subst hi; rw [hid] at hs; cases hs
  · intro st l r hl hr
    subst hl
    simp only [ext, updF_same, Option.some.injEq] at hr; subst hr
    refine Or.inr ⟨w.heap.size, vs.toArray, e, updL_same _ _ _, if_pos rfl, heap_alloc_new w _, by simpa using hx.1, fun i x v h1 h2 => ?_⟩
    exact st x v (hw x (List.mem_of_getElem? h1)) (hx.2 i x v h1 (by simpa using h2))
  · intro b l p hl h
    simp only [home'] at h
    split at h
    · injection h with h; injection h with h1 h2; exact absurd h1.symm hl
    · exact ⟨(old.lab b l p h).1, h⟩
  · intro b l p hl h
    subst hl
    have hr : ∃ r, ext (upd rt id (.box xs)) F (.r id) = some r ∧ r ≠ .gone := ⟨.box xs, updF_same _ _ _, by simp⟩
    simp only [home'] at h
    split at h
    · rename_i hb; subst hb; exact ⟨by simp, hr⟩
    · exact absurd h (hidl b p)
  · intro l r hl hr
    subst hl
    simp only [ext, updF_same, Option.some.injEq] at hr; subst hr
    intro i hi
    simp only [Root.ids, List.mem_flatMap] at hi
    obtain ⟨x, hx1, hx2⟩ := hi
    have := hw x hx1 i hx2
    by_cases e : i = id
    · subst e; rw [updF_same]; rfl
    · rw [updF_ne _ _ e]; exact this
  · intro i hi
    by_cases e : i = id
    · subst e; rw [updF_same]; rfl
    · rw [updF_ne _ _ e]; exact hi
  · intro i hi hX
    injection hX with e; omega
end


section
variable {w w' : World} {home : Home} {hd : Lb → Value} {rt : Rts} {F : Nat → Option Root}
/-- What lay from k0 on goes below id, or is let go. -/
def excHome (home : Home) (k0 id : Nat) (g : Nat → Path → Option Path) : Home := fun b =>
  match home b with
    | some (.t m, q) => if k0 ≤ m then (g m q).map (fun p => (.r id, p)) else some (.t m, q)
    | x => x
theorem excHome_eq {home : Home} {k0 id : Nat} {g : Nat → Path → Option Path} {b : Nat} {x : Option (Lb × Path)} (h : home b = x) (hx : ∀ m q, x = some (.t m, q) → m < k0) : excHome home k0 id g b = x := by
  subst h
  simp only [excHome]
  split
  · rename_i m q hm
    have := hx m q hm
    rw [if_neg (by omega)]; exact hm.symm
  · rfl
theorem excHome_t {home : Home} {k0 id : Nat} {g : Nat → Path → Option Path} {b m : Nat} {q : Path} (h : home b = some (.t m, q)) (hm : k0 ≤ m) : excHome home k0 id g b = (g m q).map (fun p => (.r id, p)) := by
  simp [excHome, h, hm]
theorem excHome_inv {home : Home} {k0 id : Nat} {g : Nat → Path → Option Path} {b : Nat} {l : Lb} {p : Path} (h : excHome home k0 id g b = some (l, p)) :
    (home b = some (l, p) ∧ ∀ m, l = .t m → m < k0) ∨ (l = .r id ∧ ∃ m q, k0 ≤ m ∧ home b = some (.t m, q)) := by
  simp only [excHome] at h
  split at h
  · rename_i m q hm
    split at h
    · rename_i hk
      rw [Option.map_eq_some_iff] at h
      obtain ⟨q', _, h2⟩ := h
      injection h2 with h2 h3
      exact Or.inr ⟨h2.symm, m, q, hk, hm⟩
    · injection h with h; injection h with h1 h2; subst h1 h2
      rename_i hk
      exact Or.inl ⟨hm, fun m' e => by injection e with e; subst e; omega⟩
  · rename_i hne
    exact Or.inl ⟨h, fun m e => by subst e; exact absurd h (hne m p)⟩
/-- A row's content is exchanged, in its own blocks. -/
theorem exchange (old : RtR w home hd rt F) {k0 id : Nat} {d t t' : Bool} {c c' : C} (hr : rt id = some (.arr d t c)) (g : Nat → Path → Option Path)
    (hsh : c'.shape = c.shape) (hfl : t' = false → c'.flat = true)
    (hblk : ∀ b, b < w.heap.size → (∀ q, home b ≠ some (.r id, q)) → w'.heap[b]? = w.heap[b]?)
    (os : w'.os = w.os) (tape : w'.tape = w.tape) (output : w'.output = w.output) (size : w.heap.size ≤ w'.heap.size)
    (hc : CR w' (excHome home k0 id g) (arrTg d (.r id)) c' (hd (.r id))) :
    Step w home hd rt F w' (excHome home k0 id g) hd (upd rt id (.arr d t' c')) (asmF F k0) := by
  refine Step.mk2 (fun l => l = .r id ∨ ∃ m, k0 ≤ m ∧ l = .t m) old (fun b hb h => ?_) (fun l hl b q hb h => ?_) (fun l hl => rfl) (fun l hl => ?_) ?_ ?_ ?_ ?_ ?_ ?_ os tape output size ?_
  · exact ⟨hblk b hb (fun q e => by rw [h] at e; cases e), excHome_eq h (fun m q e => by cases e)⟩
  · refine ⟨hblk b hb (fun q' e => by rw [h] at e; injection e with e; injection e with e1 e2; exact hl (Or.inl e1)), excHome_eq h (fun m q e => ?_)⟩
    injection e with e; injection e with e1 e2
    have : ¬ k0 ≤ m := fun hm => hl (Or.inr ⟨m, hm, e1⟩)
    omega
  · cases l with
    | x => rfl
    | r i => exact updF_ne _ _ (fun e => hl (Or.inl (by rw [e])))
    | t i =>
      have : ¬ k0 ≤ i := fun e => hl (Or.inr ⟨i, e, rfl⟩)
      simp [ext, asmF, this]
  · intro i hi x v hx _ hv
    have hi : i = id := by rcases hi with e | ⟨m, _, e⟩ <;> cases e; rfl
    subst hi
    have hgi : upd rt i (.arr d t' c') i = some (.arr d t' c') := updF_same _ _ _
    have hget : ∀ {p : Path} {c3 : C}, (p = [] ∨ t' = false) → c'.get p = some c3 → p = [] := by
      intro p c3 h1 h2
      rcases h1 with h1 | h1
      · exact h1
      · have := hfl h1
        cases c' with
        | fl sz es sp => cases p with
          | nil => rfl
          | cons x p => obtain ⟨_, _⟩ := x; cases h2
        | _ => cases this
    have hat : ∀ w (c : C) (u : Value), hdAt w c u [] = some u := fun w c u => by cases c <;> rfl
    have hg0 : ∀ (c : C), c.get [] = some c := fun c => by cases c <;> rfl
    cases x with
    | c c => cases hx
    | nil k => cases hx
    | pm cs off => cases hx
    | ref j p off len =>
      simp only [SV.ids, List.cons.injEq, and_true] at hx; subst hx
      refine ⟨hv.1, fun d1 t1 c1 hr1 ht1 c3 u hg hu sz m tot hs => ?_⟩
      rw [hgi] at hr1
      injection hr1 with hr1
      injection hr1 with e1 e2 e3
      subst e1 e2 e3
      obtain rfl := hget ht1 hg
      rw [hg0] at hg; injection hg with hg; subst hg
      rw [hat] at hu; injection hu with hu; subst hu
      exact hv.2 d t c hr (Or.inl rfl) c (hd (.r j)) (hg0 c) (hat _ _ _) sz m tot (by rw [← hsh]; exact hs)
    | pb j off =>
      simp only [SV.ids, List.cons.injEq, and_true] at hx; subst hx
      exact ⟨hv.1, fun xs hr => by rw [hgi] at hr; cases hr⟩
    | pe j p i' off =>
      simp only [SV.ids, List.cons.injEq, and_true] at hx; subst hx
      refine ⟨hv.1, fun d1 t1 c1 hr1 ht1 c3 u hg hu sz m tot hs hi => ?_⟩
      rw [hgi] at hr1
      injection hr1 with hr1
      injection hr1 with e1 e2 e3
      subst e1 e2 e3
      obtain rfl := hget ht1 hg
      rw [hg0] at hg; injection hg with hg; subst hg
      rw [hat] at hu; injection hu with hu; subst hu
      exact hv.2 d t c hr (Or.inl rfl) c (hd (.r j)) (hg0 c) (hat _ _ _) sz m tot (by rw [← hsh]; exact hs) hi
  · intro _ l r hl hr2
    rcases hl with rfl | ⟨m, hm, rfl⟩
    · simp only [ext, updF_same, Option.some.injEq] at hr2; subst hr2; exact hc
    · simp only [ext, asmF, hm, if_true] at hr2; cases hr2
  · intro b l p hl h
    rcases excHome_inv h with ⟨e, _⟩ | ⟨e, _⟩
    · exact ⟨(old.lab b l p e).1, e⟩
    · exact absurd (Or.inl e) hl
  · intro b l p hl h
    have hroot : ∃ r, ext (upd rt id (.arr d t' c')) (asmF F k0) (.r id) = some r ∧ r ≠ .gone := ⟨_, updF_same _ _ _, by simp⟩
    rcases excHome_inv h with ⟨e, ht⟩ | ⟨rfl, m, q, _, e⟩
    · rcases hl with rfl | ⟨m, hm, rfl⟩
      · exact ⟨Nat.lt_of_lt_of_le (old.lab b _ _ e).1 size, hroot⟩
      · exact absurd (ht m rfl) (by omega)
    · exact ⟨Nat.lt_of_lt_of_le (old.lab b _ _ e).1 size, hroot⟩
  · intro l r hl hr2
    rcases hl with rfl | ⟨m, hm, rfl⟩
    · simp only [ext, updF_same, Option.some.injEq] at hr2; subst hr2; intro i hi; cases hi
    · simp only [ext, asmF, hm, if_true] at hr2; cases hr2
  · intro i hi
    by_cases e : i = id
    · subst e; rw [updF_same]; rfl
    · rw [updF_ne _ _ e]; exact hi
  · intro i hi hX r hr2 hne
    rcases hX with e | ⟨m, _, e⟩
    · injection e with e; subst e; exact ⟨rfl, _, hr, by simp⟩
    · cases e

/-- A variable's cells are exchanged. -/
theorem exc_box (old : RtR w home hd rt F) {id : Nat} {xs zs : List SV} (hr : rt id = some (.box xs)) {b : Nat} {cur : Array Value} {e : TypeId}
    (h1 : hd (.r id) = .pointer (some ⟨b, 0, none⟩)) (h2 : home b = some (.r id, [])) (h3 : w'.heap[b]? = some (.cells cur e (0, 0))) (h4 : F2 (SVR w home hd rt) zs cur.toList)
    (hw : ∀ x ∈ zs, ∀ i ∈ x.ids, (rt i).isSome = true)
    (hblk : ∀ k, k < w.heap.size → k ≠ b → w'.heap[k]? = w.heap[k]?)
    (os : w'.os = w.os) (tape : w'.tape = w.tape) (output : w'.output = w.output) (size : w.heap.size ≤ w'.heap.size) :
    Step w home hd rt F w' home hd (upd rt id (.box zs)) F := by
  refine Step.mk2 (fun l => l = .r id) old (fun k hk h => ⟨hblk k hk (fun e => by subst e; rw [h2] at h; cases h), h⟩)
    (fun l hl k q hk h => ⟨hblk k hk (fun e => by subst e; rw [h2] at h; injection h with h; injection h with h _; exact hl h.symm), h⟩) (fun l hl => rfl) (fun l hl => ?_) ?_ ?_ ?_ ?_ ?_ ?_ os tape output size ?_
  · cases l with
    | x => rfl
    | r i => exact updF_ne _ _ (fun e => hl (by rw [e]))
    | t i => rfl
  · intro i hi x v hx _ hv
    injection hi with hi
    subst hi
    have hgi : upd rt i (.box zs) i = some (.box zs) := updF_same _ _ _
    cases x with
    | c c => cases hx
    | nil k => cases hx
    | pm cs off => cases hx
    | ref j p off len =>
      simp only [SV.ids, List.cons.injEq, and_true] at hx; subst hx
      exact ⟨hv.1, fun d t c hr1 => by rw [hgi] at hr1; cases hr1⟩
    | pb j off =>
      simp only [SV.ids, List.cons.injEq, and_true] at hx; subst hx
      exact ⟨hv.1, fun ys _ => hv.2 xs hr⟩
    | pe j p i' off =>
      simp only [SV.ids, List.cons.injEq, and_true] at hx; subst hx
      exact ⟨hv.1, fun d t c hr1 => by rw [hgi] at hr1; cases hr1⟩
  · intro st l r hl hr2
    subst hl
    simp only [ext, updF_same, Option.some.injEq] at hr2; subst hr2
    exact Or.inr ⟨b, cur, e, h1, h2, h3, h4.1, fun i x v hx hv => st x v (hw x (List.mem_of_getElem? hx)) (h4.2 i x v hx hv)⟩
  · intro k l p hl h; exact ⟨(old.lab k _ _ h).1, h⟩
  · intro k l p hl h
    subst hl
    exact ⟨Nat.lt_of_lt_of_le (old.lab k _ _ h).1 size, .box zs, updF_same _ _ _, by simp⟩
  · intro l r hl hr2
    subst hl
    simp only [ext, updF_same, Option.some.injEq] at hr2; subst hr2
    intro i hi
    simp only [Root.ids, List.mem_flatMap] at hi
    obtain ⟨x, hx1, hx2⟩ := hi
    have := hw x hx1 i hx2
    by_cases e : i = id
    · subst e; rw [updF_same]; rfl
    · rw [updF_ne _ _ e]; exact this
  · intro i hi
    by_cases e : i = id
    · subst e; rw [updF_same]; rfl
    · rw [updF_ne _ _ e]; exact hi
  · intro i hi hX r hr2 hne
    injection hX with e; subst e; exact ⟨rfl, _, hr, by simp⟩
/-- Nothing turns but counts and new blocks that nobody holds. -/
theorem same_step (old : RtR w home hd rt F) (hblk : ∀ k, k < w.heap.size → w'.heap[k]? = w.heap[k]?)
    (os : w'.os = w.os) (tape : w'.tape = w.tape) (output : w'.output = w.output) (size : w.heap.size ≤ w'.heap.size) :
    Step w home hd rt F w' home hd rt F := by
  refine Step.mk2 (fun l => False) old (fun k hk h => ⟨hblk k hk, h⟩) (fun l _ k q hk h => ⟨hblk k hk, h⟩) (fun l _ => rfl) (fun l _ => rfl) (fun i hi => hi.elim) (fun _ l r hl => hl.elim) (fun k l p _ h => ⟨(old.lab k _ _ h).1, h⟩)
    (fun k l p hl => hl.elim) (fun l r hl => hl.elim) (fun i hi => hi) os tape output size (fun i _ hX => hX.elim)
end

end Go.Proofs.YtecmolmlojehgaaGreat.T
