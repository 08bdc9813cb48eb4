/- Values of the program's types, as trees. Equality, as the laws ask for it. How much the arguments hold. Arguments, copied. What is left as it was. -/
import Derived.Test.YtkiklfcfdopplaaMG
import Derived.Test.YtkiklfcfdopplaaMF
import Derived.Laws.BitsLemmas
namespace Go.Proofs.Ytkiklfcfdopplaa.T
open Go
abbrev int (n : Int) : Value := .int .i64 n
/-- A list with what lies behind it. -/
structure Row (α : Type) where
  es : List α
  sp : List α
  ok : es.length + sp.length ≤ 9223372036854775807
abbrev arg (c : C) : Arg := .imm (.s (.c c))
abbrev argV (v : Value) : Arg := .imm (.s (.c (.val v)))
abbrev argI (n : Int) : Arg := argV (int n)
abbrev argA (cs : List C) : Arg := .imm (.agg (cs.map .c))
abbrev resV (v : Value) : Res := ⟨[.s (.mk .imm (.val v))], []⟩
abbrev resB (b : Bool) : Res := resV (.bool b)
abbrev resI (n : Int) : Res := resV (int n)
abbrev eI (n : Int) : List Value := [int n]
abbrev Ints := Row Int
abbrev cI (a : Ints) : C := .fl 1 (a.es.map eI) (a.sp.map eI)
structure TermV where
  c : Int
  x : Int
  y : Int
  z : Int
  deriving DecidableEq
abbrev eT (t : TermV) : List Value := [int t.c, int t.x, int t.y, int t.z]
abbrev Poly := Row TermV
abbrev cP (a : Poly) : C := .fl 4 (a.es.map eT) (a.sp.map eT)
abbrev Sys := Row Poly
abbrev eP (p : Poly) : List C := [cP p]
abbrev cS (s : Sys) : C := .sl 1 (s.es.map eP) (s.sp.map eP)
structure BoxV where
  k : Int
  low : Ints
  high : Ints
abbrev eB (b : BoxV) : List C := [.val (int b.k), cI b.low, cI b.high]
abbrev sT (t : TermV) : List SV := [.c (.val (int t.c)), .c (.val (int t.x)), .c (.val (int t.y)), .c (.val (int t.z))]
abbrev argT (t : TermV) : Arg := .imm (.agg (sT t))
abbrev sB (b : BoxV) : List SV := [.c (.val (int b.k)), .c (cI b.low), .c (cI b.high)]
abbrev argB (b : BoxV) : Arg := .imm (.agg (sB b))
structure EntryV where
  name : ByteArray
  nok : name.size ≤ 9223372036854775807
  system : Sys
  box : BoxV
  least : Int
  most : Int
  version : Int
abbrev eE (e : EntryV) : List C := [.val (.string e.name), cS e.system, .val (int e.box.k), cI e.box.low, cI e.box.high, .val (int e.least), .val (int e.most), .val (int e.version)]
abbrev sE (e : EntryV) : List SV := [.c (.val (.string e.name)), .c (cS e.system), .c (.val (int e.box.k)), .c (cI e.box.low), .c (cI e.box.high), .c (.val (int e.least)), .c (.val (int e.most)), .c (.val (int e.version))]
abbrev argE (e : EntryV) : Arg := .imm (.agg (sE e))
abbrev Entries := Row EntryV
abbrev cE (l : Entries) : C := .sl 8 (l.es.map eE) (l.sp.map eE)
/-! What is said of a value by what can be read of it. -/
structure PBox where
  k : Int
  low : List Int
  high : List Int
  deriving DecidableEq
structure PEntry where
  name : List UInt8
  system : List (List TermV)
  box : PBox
  least : Int
  most : Int
  version : Int
  deriving DecidableEq
def Row.v {α β : Type} (f : α → β) (a : Row α) : List β := a.es.map f
def pS (s : Sys) : List (List TermV) := s.es.map (·.es)
def pB (b : BoxV) : PBox := ⟨b.k, b.low.es, b.high.es⟩
def pE (e : EntryV) : PEntry := ⟨e.name.toList, pS e.system, pB e.box, e.least, e.most, e.version⟩
def pL (l : Entries) : List PEntry := l.es.map pE

abbrev kRes (rs : List PR) : Kont := kFin ⟨0, 0, .skip, rs⟩
theorem kRes_eq (pf : PFunc) : kFin pf = kRes pf.results := by
  funext e fr; cases e <;> rfl
theorem kFin_n (pf : PFunc) (fr : Fr) : kFin pf .normal fr = finish pf fr := rfl
theorem kFin_r (pf : PFunc) (fr : Fr) : kFin pf .ret fr = finish pf fr := rfl
theorem L_body {pp : PP} {f np nt : Nat} {b : PC} {rs : List PR} {args : List Arg} {r : Res} (hc : pp.code f = some ⟨np, nt, b, rs⟩) (hl : args.length = np) (N : Nat) (h : ∀ n, N < n → runK (L pp) n b (kRes rs) (initFr args) = some r) : L pp f args = some r :=
  L_run hc hl (N + 1) (by rw [kRes_eq]; exact h (N + 1) (Nat.lt_succ_self N))
/-- The program with what is proved by hand. -/
def prog (hand : Call) : PP := { code := tab, hand }
theorem drop_cons {α : Type} {l : List α} {i : Nat} (h : i < l.length) : l.drop i = l[i] :: l.drop (i + 1) := List.drop_eq_getElem_cons h
theorem drop_end {α : Type} {l : List α} {i : Nat} (h : ¬ i < l.length) : l.drop i = [] := List.drop_eq_nil_of_le (by omega)
theorem wrap64 {n : Int} (h1 : -9223372036854775808 ≤ n) (h2 : n < 9223372036854775808) : IntKind.i64.wrap n = n := by
  rw [IntKind.wrap_i64]; omega
theorem wrap_suc {i : Nat} (h : i < 9223372036854775807) : IntKind.i64.wrap ((i : Int) + 1) = (i : Int) + 1 := wrap64 (by omega) (by omega)
theorem wrap_succ {i : Nat} (h : i < 9223372036854775807) : IntKind.i64.wrap ((i : Int) + 1) = ((i + 1 : Nat) : Int) := by
  rw [wrap64 (by omega) (by omega)]; rfl
attribute [simp] kFin_n kFin_r Int.natCast_inj Int.ofNat_lt Int.ofNat_le
end Go.Proofs.Ytkiklfcfdopplaa.T
namespace Go.Proofs.Ytkiklfcfdopplaa.T
open Go
variable {hand : Call}
set_option maxHeartbeats 1000000
attribute [-simp] List.getElem_cons_drop List.map_drop
theorem L_eqIntS (a b : Ints) : L (prog hand) n_laws_eqIntS [arg (cI a), arg (cI b)] = some (resB (a.es == b.es)) := by
  have ha := a.ok
  refine L_body (b := b_laws_eqIntS) rfl rfl a.es.length ?_
  intro fuel hfuel
  by_cases h : a.es.length = b.es.length
  · simp [b_laws_eqIntS, h]
    refine K_loop (fun (i : Nat) => ⟨asl [(0, .sv (.c (cI a))), (1, .sv (.c (cI b))), (5, .sv (.v (int i)))], asl [], []⟩) (fun i => some (resB ((a.es.drop i) == (b.es.drop i)))) (fun i => a.es.length - i) (fun i => i ≤ a.es.length) ?_ 0 (by simp) (by simp; omega)
    intro i hi k hk
    by_cases hlt : i < a.es.length
    · have hlt2 : i < b.es.length := by omega
      simp [l1_laws_eqIntS, hlt, hlt2]
      rw [wrap_succ (by omega), drop_cons hlt, drop_cons hlt2]
      split
      · rename_i he
        rw [hk (i + 1) (by omega) (by omega)]
        simp [he]
      · rename_i he
        simp [he]
    · simp [l1_laws_eqIntS, hlt]
      rw [drop_end hlt, drop_end (by omega)]
      try rfl
  · simp [b_laws_eqIntS, h]
    try exact fun e => h (by simpa using congrArg List.length e)
theorem L_eqTerm (a b : TermV) : L (prog hand) n_laws_eqTerm [argT a, argT b] = some (resB (a == b)) := by
  refine L_body (b := b_laws_eqTerm) rfl rfl 0 ?_
  intro fuel hfuel
  obtain ⟨c, x, y, z⟩ := a
  obtain ⟨c', x', y', z'⟩ := b
  simp [b_laws_eqTerm]
  repeat' split
  all_goals simp_all
theorem L_eqTermS (a b : Poly) : L (prog hand) n_laws_eqTermS [arg (cP a), arg (cP b)] = some (resB (a.es == b.es)) := by
  have ha := a.ok
  refine L_body (b := b_laws_eqTermS) rfl rfl a.es.length ?_
  intro fuel hfuel
  by_cases h : a.es.length = b.es.length
  · simp [b_laws_eqTermS, h]
    refine K_loop (fun (i : Nat) => ⟨asl [(0, .sv (.c (cP a))), (1, .sv (.c (cP b))), (5, .sv (.v (int i)))], asl [], []⟩) (fun i => some (resB ((a.es.drop i) == (b.es.drop i)))) (fun i => a.es.length - i) (fun i => i ≤ a.es.length) ?_ 0 (by simp) (by simp; omega)
    intro i hi k hk
    by_cases hlt : i < a.es.length
    · have hlt2 : i < b.es.length := by omega
      simp [l1_laws_eqTermS, hlt, hlt2, L_eqTerm]
      rw [wrap_succ (by omega), drop_cons hlt, drop_cons hlt2]
      split
      · rename_i he
        rw [hk (i + 1) (by omega) (by omega)]
        simp [he]
      · rename_i he
        simp [he]
    · simp [l1_laws_eqTermS, hlt]
      rw [drop_end hlt, drop_end (by omega)]
      try rfl
  · simp [b_laws_eqTermS, h]
    try exact fun e => h (by simpa using congrArg List.length e)
theorem L_eqTermSS (a b : Sys) : L (prog hand) n_laws_eqTermSS [arg (cS a), arg (cS b)] = some (resB (a.es.map (·.es) == b.es.map (·.es))) := by
  have ha := a.ok
  refine L_body (b := b_laws_eqTermSS) rfl rfl a.es.length ?_
  intro fuel hfuel
  by_cases h : a.es.length = b.es.length
  · simp [b_laws_eqTermSS, h]
    refine K_loop (fun (i : Nat) => ⟨asl [(0, .sv (.c (cS a))), (1, .sv (.c (cS b))), (5, .sv (.v (int i)))], asl [], []⟩) (fun i => some (resB ((a.es.drop i).map (·.es) == (b.es.drop i).map (·.es)))) (fun i => a.es.length - i) (fun i => i ≤ a.es.length) ?_ 0 (by simp) (by simp; omega)
    intro i hi k hk
    by_cases hlt : i < a.es.length
    · have hlt2 : i < b.es.length := by omega
      simp [l1_laws_eqTermSS, hlt, hlt2, L_eqTermS]
      rw [wrap_succ (by omega), drop_cons hlt, drop_cons hlt2]
      split
      · rename_i he
        rw [hk (i + 1) (by omega) (by omega)]
        simp [he]
      · rename_i he
        simp [he]
    · simp [l1_laws_eqTermSS, hlt]
      rw [drop_end hlt, drop_end (by omega)]
      try rfl
  · simp [b_laws_eqTermSS, h]
    try exact fun e => h (by simpa using congrArg List.length e)
theorem L_eqBox (a b : BoxV) : L (prog hand) n_laws_eqBox [argB a, argB b] = some (resB (pB a == pB b)) := by
  refine L_body (b := b_laws_eqBox) rfl rfl 0 ?_
  intro fuel hfuel
  simp [b_laws_eqBox, L_eqIntS, pB]
  repeat' split
  all_goals simp_all
theorem L_eqEntry (a b : EntryV) : L (prog hand) n_laws_eqEntry [argE a, argE b] = some (resB (pE a == pE b)) := by
  refine L_body (b := b_laws_eqEntry) rfl rfl 0 ?_
  intro fuel hfuel
  simp [b_laws_eqEntry, L_eqIntS, L_eqTermSS, L_eqBox, pE, pB, pS]
  repeat' split
  all_goals simp_all
theorem L_eqEntryS (a b : Entries) : L (prog hand) n_laws_eqEntryS [arg (cE a), arg (cE b)] = some (resB (a.es.map pE == b.es.map pE)) := by
  have ha := a.ok
  refine L_body (b := b_laws_eqEntryS) rfl rfl a.es.length ?_
  intro fuel hfuel
  by_cases h : a.es.length = b.es.length
  · simp [b_laws_eqEntryS, h]
    refine K_loop (fun (i : Nat) => ⟨asl [(0, .sv (.c (cE a))), (1, .sv (.c (cE b))), (5, .sv (.v (int i)))], asl [], []⟩) (fun i => some (resB ((a.es.drop i).map pE == (b.es.drop i).map pE))) (fun i => a.es.length - i) (fun i => i ≤ a.es.length) ?_ 0 (by simp) (by simp; omega)
    intro i hi k hk
    by_cases hlt : i < a.es.length
    · have hlt2 : i < b.es.length := by omega
      simp [l1_laws_eqEntryS, hlt, hlt2, L_eqEntry]
      rw [wrap_succ (by omega), drop_cons hlt, drop_cons hlt2]
      split
      · rename_i he
        rw [hk (i + 1) (by omega) (by omega)]
        simp [he]
      · rename_i he
        simp [he]
    · simp [l1_laws_eqEntryS, hlt]
      rw [drop_end hlt, drop_end (by omega)]
      try rfl
  · simp [b_laws_eqEntryS, h]
    try exact fun e => h (by simpa using congrArg List.length e)
end Go.Proofs.Ytkiklfcfdopplaa.T
namespace Go.Proofs.Ytkiklfcfdopplaa.T
open Go
variable {hand : Call}
set_option maxHeartbeats 1000000
attribute [-simp] List.getElem_cons_drop List.map_drop
/-- What is left. -/
def less (left : Int) (n : Nat) : Int := if left - n < 0 then -1 else left - n
theorem less_neg {left : Int} {n : Nat} (h : left - n < 0) : less left n = -1 := if_pos h
theorem less_pos {left : Int} {n : Nat} (h : ¬ left - n < 0) : less left n = left - n := if_neg h
theorem less_add {left : Int} {n m : Nat} (h : ¬ left - n < 0) : less (left - n) m = less left (n + m) := by
  by_cases h2 : left - n - m < 0
  · rw [less_neg h2, less_neg (by omega)]
  · rw [less_pos h2, less_pos (by omega)]; omega
def nPoly (p : Poly) : Nat := p.es.length
def nSys (s : Sys) : Nat := s.es.length + (s.es.map nPoly).sum
def nBox (b : BoxV) : Nat := b.low.es.length + b.high.es.length
def nEntry (e : EntryV) : Nat := e.name.size + nSys e.system + nBox e.box
def nEntries (l : Entries) : Nat := l.es.length + (l.es.map nEntry).sum
theorem L_szIntS (a : Ints) (left : Int) (h0 : 0 ≤ left) (h1 : left < 9223372036854775808) : L (prog hand) n_laws_szIntS [arg (cI a), argI left] = some (resI (less left a.es.length)) := by
  have ha := a.ok
  refine L_body (b := b_laws_szIntS) rfl rfl 0 ?_
  intro fuel hfuel
  have hw := wrap64 (n := left - a.es.length) (by omega) (by omega)
  simp [b_laws_szIntS, hw, less]
  split <;> rfl
theorem L_szTermS (a : Poly) (left : Int) (h0 : 0 ≤ left) (h1 : left < 9223372036854775808) : L (prog hand) n_laws_szTermS [arg (cP a), argI left] = some (resI (less left (nPoly a))) := by
  have ha := a.ok
  refine L_body (b := b_laws_szTermS) rfl rfl 0 ?_
  intro fuel hfuel
  have hw := wrap64 (n := left - a.es.length) (by omega) (by omega)
  by_cases hn : left - a.es.length < 0
  · rw [less_neg (by simp only [nPoly]; omega)]
    simp [b_laws_szTermS, hw, hn]
  · rw [less_pos (by simp only [nPoly]; omega)]
    simp [b_laws_szTermS, hw, hn, nPoly]
theorem L_szTermSS (a : Sys) (left : Int) (h0 : 0 ≤ left) (h1 : left < 9223372036854775808) : L (prog hand) n_laws_szTermSS [arg (cS a), argI left] = some (resI (less left (nSys a))) := by
  have ha := a.ok
  refine L_body (b := b_laws_szTermSS) rfl rfl a.es.length ?_
  intro fuel hfuel
  have hw := wrap64 (n := left - a.es.length) (by omega) (by omega)
  simp [b_laws_szTermSS, hw]
  by_cases hneg : left - a.es.length < 0
  · have e : less left (nSys a) = -1 := less_neg (by simp only [nSys]; omega)
    simp [hneg, e]
  · simp [hneg]
    rw [nSys, ← less_add hneg]
    have h2 : 0 ≤ left - a.es.length := by omega
    have h3 : left - a.es.length < 9223372036854775808 := by omega
    generalize left - (a.es.length : Int) = left2 at h2 h3
    refine K_loop (fun (s : Nat × Int) => ⟨asl [(0, .sv (.c (cS a))), (1, .sv (.v (int s.2))), (5, .sv (.v (int s.1)))], asl [], []⟩) (fun s => some (resI (less s.2 ((a.es.drop s.1).map nPoly).sum))) (fun s => a.es.length - s.1) (fun s => s.1 ≤ a.es.length ∧ 0 ≤ s.2 ∧ s.2 < 9223372036854775808) ?_ (0, left2) ⟨by simp, h2, h3⟩ (by simp; omega)
    rintro ⟨i, left⟩ ⟨hi, hl0, hl1⟩ k hk
    simp only at hi hl0 hl1
    by_cases hlt : i < a.es.length
    · simp [l1_laws_szTermSS, hlt, L_szTermS _ left hl0 hl1]
      rw [wrap_succ (by omega), drop_cons hlt, List.map_cons, List.sum_cons]
      by_cases hn : left - (nPoly a.es[i] : Nat) < 0
      · rw [less_neg hn, less_neg (by omega)]
        simp
      · rw [← less_add hn, less_pos hn, if_neg hn]
        exact hk (i + 1, left - (nPoly a.es[i] : Nat)) ⟨by simp; omega, by simp; omega, by simp; omega⟩ (by simp; omega)
    · simp [l1_laws_szTermSS, hlt, drop_end hlt]
      rw [less_pos (by omega)]
      simp
theorem L_szBox (a : BoxV) (left : Int) (h0 : 0 ≤ left) (h1 : left < 9223372036854775808) : L (prog hand) n_laws_szBox [argB a, argI left] = some (resI (less left (nBox a))) := by
  refine L_body (b := b_laws_szBox) rfl rfl 0 ?_
  intro fuel hfuel
  simp [b_laws_szBox, L_szIntS _ left h0 h1]
  by_cases hn : left - a.low.es.length < 0
  · rw [less_neg hn, less_neg (by simp only [nBox]; omega)]
    simp
  · rw [nBox, ← less_add hn, less_pos hn]
    simp [hn, L_szIntS _ (left - a.low.es.length) (by omega) (by omega)]
    by_cases hn2 : less (left - a.low.es.length) a.high.es.length < 0
    · simp [hn2]
      rw [less] at hn2 ⊢
      split at hn2
      · simp [*]
      · omega
    · simp [hn2]
theorem L_szEntry (a : EntryV) (left : Int) (h0 : 0 ≤ left) (h1 : left < 9223372036854775808) : L (prog hand) n_laws_szEntry [argE a, argI left] = some (resI (less left (nEntry a))) := by
  have hk := a.nok
  refine L_body (b := b_laws_szEntry) rfl rfl 0 ?_
  intro fuel hfuel
  have hw := wrap64 (n := left - a.name.size) (by omega) (by omega)
  simp [b_laws_szEntry, hw]
  by_cases hn : left - a.name.size < 0
  · rw [less_neg (by simp only [nEntry]; omega)]
    simp [hn]
  · rw [nEntry, Nat.add_assoc, ← less_add hn]
    have g0 : 0 ≤ left - a.name.size := by omega
    have g1 : left - a.name.size < 9223372036854775808 := by omega
    generalize left - (a.name.size : Int) = left2 at g0 g1 hn
    simp [hn, L_szTermSS _ left2 g0 g1]
    by_cases hn2 : left2 - nSys a.system < 0
    · rw [less_neg hn2, less_neg (by omega)]
      simp
    · rw [← less_add hn2, less_pos hn2]
      simp [hn2, L_szBox _ (left2 - nSys a.system) (by omega) (by omega)]
      by_cases hn3 : less (left2 - nSys a.system) (nBox a.box) < 0
      · simp [hn3]
        rw [less] at hn3 ⊢
        split at hn3
        · simp [*]
        · omega
      · simp [hn3]
theorem L_szEntryS (a : Entries) (left : Int) (h0 : 0 ≤ left) (h1 : left < 9223372036854775808) : L (prog hand) n_laws_szEntryS [arg (cE a), argI left] = some (resI (less left (nEntries a))) := by
  have ha := a.ok
  refine L_body (b := b_laws_szEntryS) rfl rfl a.es.length ?_
  intro fuel hfuel
  have hw := wrap64 (n := left - a.es.length) (by omega) (by omega)
  simp [b_laws_szEntryS, hw]
  by_cases hneg : left - a.es.length < 0
  · have e : less left (nEntries a) = -1 := less_neg (by simp only [nEntries]; omega)
    simp [hneg, e]
  · simp [hneg]
    rw [nEntries, ← less_add hneg]
    have h2 : 0 ≤ left - a.es.length := by omega
    have h3 : left - a.es.length < 9223372036854775808 := by omega
    generalize left - (a.es.length : Int) = left2 at h2 h3
    refine K_loop (fun (s : Nat × Int) => ⟨asl [(0, .sv (.c (cE a))), (1, .sv (.v (int s.2))), (5, .sv (.v (int s.1)))], asl [], []⟩) (fun s => some (resI (less s.2 ((a.es.drop s.1).map nEntry).sum))) (fun s => a.es.length - s.1) (fun s => s.1 ≤ a.es.length ∧ 0 ≤ s.2 ∧ s.2 < 9223372036854775808) ?_ (0, left2) ⟨by simp, h2, h3⟩ (by simp; omega)
    rintro ⟨i, left⟩ ⟨hi, hl0, hl1⟩ k hk
    simp only at hi hl0 hl1
    by_cases hlt : i < a.es.length
    · simp [l1_laws_szEntryS, hlt, L_szEntry _ left hl0 hl1]
      rw [wrap_succ (by omega), drop_cons hlt, List.map_cons, List.sum_cons]
      by_cases hn : left - (nEntry a.es[i] : Nat) < 0
      · rw [less_neg hn, less_neg (by omega)]
        simp
      · rw [← less_add hn, less_pos hn, if_neg hn]
        exact hk (i + 1, left - (nEntry a.es[i] : Nat)) ⟨by simp; omega, by simp; omega, by simp; omega⟩ (by simp; omega)
    · simp [l1_laws_szEntryS, hlt, drop_end hlt]
      rw [less_pos (by omega)]
      simp
end Go.Proofs.Ytkiklfcfdopplaa.T
namespace Go.Proofs.Ytkiklfcfdopplaa.T
open Go
variable {hand : Call}
set_option maxHeartbeats 2000000
attribute [-simp] List.getElem_cons_drop List.map_drop
def room (n : Nat) : Nat := if n % 6 = 5 then 0 else if n % 3 = 0 then 1 else n
theorem room_le (n : Nat) : room n ≤ n + 1 := by unfold room; repeat' split
                                                 all_goals omega
theorem L_roomBehind (n : Nat) : L (prog hand) n_laws_roomBehind [argI n] = some (resI (room n)) := by
  refine L_body (b := b_laws_roomBehind) rfl rfl 0 ?_
  intro fuel hfuel
  have h6 : ((n : Int).tmod 6) = (n : Int) % 6 := Int.tmod_eq_emod_of_nonneg (by omega)
  have h3 : ((n : Int).tmod 3) = (n : Int) % 3 := Int.tmod_eq_emod_of_nonneg (by omega)
  have e6 : ((n : Int) % 6 = 5) = (n % 6 = 5) := by rw [eq_iff_iff]; omega
  have e3 : ((n : Int) % 3 = 0) = (n % 3 = 0) := by rw [eq_iff_iff]; omega
  by_cases h1 : n % 6 = 5
  · have : room n = 0 := by simp [room, h1]
    rw [this]
    simp [b_laws_roomBehind, h6, h3, e6, e3, h1]
  · by_cases h2 : n % 3 = 0
    · have : room n = 1 := by simp [room, h1, h2]
      rw [this]
      simp [b_laws_roomBehind, h6, h3, e6, e3, h1, h2]
    · have : room n = n := by simp [room, h1, h2]
      rw [this]
      simp [b_laws_roomBehind, h6, h3, e6, e3, h1, h2]
abbrev rT (t : TermV) : RV := .agg [.mk .imm (.val (int t.c)), .mk .imm (.val (int t.x)), .mk .imm (.val (int t.y)), .mk .imm (.val (int t.z))]
theorem L_toTerm (t : TermV) : L (prog hand) n_laws_toTerm [argT t] = some ⟨[rT t], []⟩ := by
  refine L_body (b := b_laws_toTerm) rfl rfl 0 ?_
  intro fuel hfuel
  simp [b_laws_toTerm]
def one {α : Type} (x : α) : Row α := ⟨[x], [], by simp⟩
theorem one_es {α : Type} (x : α) : (one x).es = [x] := rfl
theorem one_sp {α : Type} (x : α) : (one x).sp = [] := rfl
abbrev fillI : Int := -7000000000000000101
def fillT : TermV := ⟨fillI, fillI, fillI, fillI⟩
theorem L_fillerTerm : L (prog hand) n_laws_fillerTerm [] = some ⟨[rT fillT], []⟩ := by
  refine L_body (b := b_laws_fillerTerm) rfl rfl 0 ?_
  intro fuel hfuel
  simp [b_laws_fillerTerm, fillT]
/-! ### Rows that are filled -/
/-- A row of which the first places are filled. -/
def fillRow {α : Type} (X : List α) (z : α) (i : Nat) : List α := X.take i ++ List.replicate (X.length - i) z
section
variable {α : Type} {X : List α} {z : α} {i : Nat}
theorem fillRow_length : (fillRow X z i).length = X.length := by simp [fillRow]; omega
theorem fillRow_zero : List.replicate X.length z = fillRow X z 0 := by simp [fillRow]
theorem fillRow_all : fillRow X z X.length = X := by simp [fillRow]
theorem fillRow_get (h : i < X.length) : (fillRow X z i)[i]? = some z := by
  unfold fillRow
  rw [List.getElem?_append_right (by simp; omega), List.length_take, Nat.min_eq_left (by omega), Nat.sub_self, List.getElem?_replicate, if_pos (by omega)]
theorem fillRow_at (h : i < (fillRow X z i).length) : (fillRow X z i)[i] = z := by
  have h2 := fillRow_get (X := X) (z := z) (by rw [fillRow_length] at h; exact h)
  rw [List.getElem?_eq_getElem h] at h2
  exact Option.some.inj h2
theorem fillRow_set {v : α} (h : X[i]? = some v) : (fillRow X z i).set i v = fillRow X z (i + 1) := by
  obtain ⟨hlt, hv⟩ := List.getElem?_eq_some_iff.1 h
  unfold fillRow
  apply List.ext_getElem?
  intro j
  rw [List.getElem?_set]
  by_cases e : i = j
  · subst e
    rw [if_pos rfl, if_pos (by simp; omega)]
    rw [List.getElem?_append_left (by simp; omega), List.getElem?_take_of_lt (by omega), h]
  · rw [if_neg e]
    by_cases hj : j < i
    · rw [List.getElem?_append_left (by simp; omega), List.getElem?_append_left (by simp; omega), List.getElem?_take_of_lt hj, List.getElem?_take_of_lt (by omega)]
    · rw [List.getElem?_append_right (by simp; omega), List.getElem?_append_right (by simp; omega), List.length_take, List.length_take, Nat.min_eq_left (by omega), Nat.min_eq_left (by omega)]
      rw [List.getElem?_replicate, List.getElem?_replicate]
      by_cases h3 : j < X.length
      · rw [if_pos (by omega), if_pos (by omega)]
      · rw [if_neg (by omega), if_neg (by omega)]
end
/-- A row's copy: where it is bare an empty one has no room behind it. -/
def copyRow {α β : Type} (f : α → β) (fill : β) (a : Row α) (bare : Bool) : Row β :=
  if bare = true ∧ a.es.length = 0 then ⟨[], [], by simp⟩
  else if h : a.es.length ≤ 1000000 then ⟨a.es.map f, List.replicate (room a.es.length) fill, by have := room_le a.es.length; simp; omega⟩ else ⟨[], [], by simp⟩
theorem copyRow_bare {α β : Type} {f : α → β} {fill : β} {a : Row α} (h : a.es.length = 0) : (copyRow f fill a true).es = [] ∧ (copyRow f fill a true).sp = [] := by
  unfold copyRow; rw [if_pos ⟨rfl, h⟩]; exact ⟨rfl, rfl⟩
theorem copyRow_full {α β : Type} {f : α → β} {fill : β} {a : Row α} {bare : Bool} (hb : ¬ (bare = true ∧ a.es.length = 0)) (h : a.es.length ≤ 1000000) : (copyRow f fill a bare).es = a.es.map f ∧ (copyRow f fill a bare).sp = List.replicate (room a.es.length) fill := by
  unfold copyRow; rw [if_neg hb, dif_pos h]; exact ⟨rfl, rfl⟩
abbrev toInts (a : Ints) (bare : Bool) : Ints := copyRow (id : Int → Int) fillI a bare
theorem L_toIntS (a : Ints) (bare : Bool) (h : a.es.length ≤ 1000000) : L (prog hand) n_laws_toIntS [arg (cI a), argV (.bool bare)] = some ⟨[.s (.mk .deep (cI (toInts a bare)))], []⟩ := by
  skip
  have hr := room_le a.es.length
  refine L_body (b := b_laws_toIntS) rfl rfl (a.es.length + room a.es.length) ?_
  intro fuel hfuel
  by_cases hb : bare = true ∧ a.es.length = 0
  · obtain ⟨rfl, h0⟩ := hb
    obtain ⟨e1, e2⟩ := copyRow_bare (f := (id : Int → Int)) (fill := fillI) h0
    have h0' : a.es = [] := by simpa using h0
    simp [b_laws_toIntS, e1, e2, h0']
  · obtain ⟨e1, e2⟩ := copyRow_full (f := (id : Int → Int)) (fill := fillI) hb h
    have hw := wrap64 (n := (a.es.length : Int) + (room a.es.length : Int)) (by omega) (by omega)
    have hm : ((a.es.length : Int) + (room a.es.length : Int)) * 8 ≤ 140737488355328 := by omega
    have hm2 : ((a.es.length : Int) + (room a.es.length : Int)) ≤ 9223372036854775807 := by omega
    have hm0 : 0 ≤ ((a.es.length : Int) + (room a.es.length : Int)) := by omega
    obtain ⟨X, hX⟩ : ∃ X, X = (a.es.map (id : Int → Int)).map eI ++ List.replicate (room a.es.length) (eI fillI) := ⟨_, rfl⟩
    have hlen : X.length = a.es.length + room a.es.length := by rw [hX]; simp
    have hle : a.es.length ≤ X.length := by omega
    have hN : ((a.es.length : Int) + (room a.es.length : Int)).toNat = X.length := by omega
    have hT : X.take a.es.length = (a.es.map (id : Int → Int)).map eI := by rw [hX, List.take_left' (by simp)]
    have hD : X.drop a.es.length = List.replicate (room a.es.length) (eI fillI) := by rw [hX, List.drop_left' (by simp)]
    have hget : ∀ i (h : i < a.es.length), X[i]? = some (eI ((id : Int → Int) a.es[i])) := by intro i h; subst hX; rw [List.getElem?_append_left (by simpa using h)]; simp [h]
    have hget2 : ∀ i, i < X.length → a.es.length ≤ i → X[i]? = some (eI fillI) := by
      intro i h h2
      subst hX
      rw [List.getElem?_append_right (by simpa using h2), List.getElem?_replicate, if_pos (by simp at h ⊢; omega)]
    have hgo : bare = false ∨ a.es.length ≠ 0 := by cases bare <;> simp_all
    clear hX
    cases bare
    · simp [b_laws_toIntS, L_roomBehind, hw, hm, hm2, hm0, hN]
      rw [fillRow_zero]
      rw [K_start (fr' := ⟨asl [(0, .sv (.c (cI a))), (5, .sv (.ref 1000000 [] 0 X.length)), (6, .sv (.v (int (0 : Nat))))], asl [(1000000, .arr true false (.fl 1 (fillRow X [int 0] 0) []))], []⟩) (by simp)]
      refine K_for (fun i => ⟨asl [(0, .sv (.c (cI a))), (5, .sv (.ref 1000000 [] 0 X.length)), (6, .sv (.v (int i)))], asl [(1000000, .arr true false (.fl 1 (fillRow X [int 0] i) []))], []⟩) 0 a.es.length (by omega) (by omega) ?_ ?_
      · intro i _ hi K
        have h2 : i < X.length := by omega
        have hs := fillRow_set (z := [int 0]) (hget i hi)
        try simp only [id] at hs
        simp [l1_laws_toIntS, hi, h2, fillRow_length, fillRow_at, hs, wrap_suc (show i < 9223372036854775807 by omega)]
      · intro k
        simp [l1_laws_toIntS]
        rw [K_start (fr' := ⟨asl [(0, .sv (.c (cI a))), (5, .sv (.ref 1000000 [] 0 X.length)), (7, .sv (.v (int a.es.length)))], asl [(1000000, .arr true false (.fl 1 (fillRow X [int 0] a.es.length) []))], []⟩) (by simp)]
        refine K_for (fun i => ⟨asl [(0, .sv (.c (cI a))), (5, .sv (.ref 1000000 [] 0 X.length)), (7, .sv (.v (int i)))], asl [(1000000, .arr true false (.fl 1 (fillRow X [int 0] i) []))], []⟩) a.es.length X.length (by omega) (by omega) ?_ ?_
        · intro i hi0 hi K
          have hs := fillRow_set (z := [int 0]) (hget2 i hi hi0)
          try simp only [eP, cP, eE, cS, cI, one_es, one_sp, List.map_cons, List.map_nil] at hs
          simp [l2_laws_toIntS, hi, fillRow_length, fillRow_at, hs, wrap_suc (show i < 9223372036854775807 by omega)]
        · intro k
          simp [l2_laws_toIntS, fillRow_all, hle, hT, hD, e1, e2]
    · have h0 : a.es.length ≠ 0 := by simpa using hgo
      simp [b_laws_toIntS, L_roomBehind, hw, hm, hm2, hm0, hN, h0]
      rw [fillRow_zero]
      rw [K_start (fr' := ⟨asl [(0, .sv (.c (cI a))), (5, .sv (.ref 1000000 [] 0 X.length)), (6, .sv (.v (int (0 : Nat))))], asl [(1000000, .arr true false (.fl 1 (fillRow X [int 0] 0) []))], []⟩) (by simp)]
      refine K_for (fun i => ⟨asl [(0, .sv (.c (cI a))), (5, .sv (.ref 1000000 [] 0 X.length)), (6, .sv (.v (int i)))], asl [(1000000, .arr true false (.fl 1 (fillRow X [int 0] i) []))], []⟩) 0 a.es.length (by omega) (by omega) ?_ ?_
      · intro i _ hi K
        have h2 : i < X.length := by omega
        have hs := fillRow_set (z := [int 0]) (hget i hi)
        try simp only [id] at hs
        simp [l1_laws_toIntS, hi, h2, fillRow_length, fillRow_at, hs, wrap_suc (show i < 9223372036854775807 by omega)]
      · intro k
        simp [l1_laws_toIntS]
        rw [K_start (fr' := ⟨asl [(0, .sv (.c (cI a))), (5, .sv (.ref 1000000 [] 0 X.length)), (7, .sv (.v (int a.es.length)))], asl [(1000000, .arr true false (.fl 1 (fillRow X [int 0] a.es.length) []))], []⟩) (by simp)]
        refine K_for (fun i => ⟨asl [(0, .sv (.c (cI a))), (5, .sv (.ref 1000000 [] 0 X.length)), (7, .sv (.v (int i)))], asl [(1000000, .arr true false (.fl 1 (fillRow X [int 0] i) []))], []⟩) a.es.length X.length (by omega) (by omega) ?_ ?_
        · intro i hi0 hi K
          have hs := fillRow_set (z := [int 0]) (hget2 i hi hi0)
          try simp only [eP, cP, eE, cS, cI, one_es, one_sp, List.map_cons, List.map_nil] at hs
          simp [l2_laws_toIntS, hi, fillRow_length, fillRow_at, hs, wrap_suc (show i < 9223372036854775807 by omega)]
        · intro k
          simp [l2_laws_toIntS, fillRow_all, hle, hT, hD, e1, e2]
abbrev toPoly (a : Poly) (bare : Bool) : Poly := copyRow (id : TermV → TermV) fillT a bare
theorem L_toTermS (a : Poly) (bare : Bool) (h : a.es.length ≤ 1000000) : L (prog hand) n_laws_toTermS [arg (cP a), argV (.bool bare)] = some ⟨[.s (.mk .deep (cP (toPoly a bare)))], []⟩ := by
  skip
  have hr := room_le a.es.length
  refine L_body (b := b_laws_toTermS) rfl rfl (a.es.length + room a.es.length) ?_
  intro fuel hfuel
  by_cases hb : bare = true ∧ a.es.length = 0
  · obtain ⟨rfl, h0⟩ := hb
    obtain ⟨e1, e2⟩ := copyRow_bare (f := (id : TermV → TermV)) (fill := fillT) h0
    have h0' : a.es = [] := by simpa using h0
    simp [b_laws_toTermS, e1, e2, h0']
  · obtain ⟨e1, e2⟩ := copyRow_full (f := (id : TermV → TermV)) (fill := fillT) hb h
    have hw := wrap64 (n := (a.es.length : Int) + (room a.es.length : Int)) (by omega) (by omega)
    have hm : ((a.es.length : Int) + (room a.es.length : Int)) * 32 ≤ 140737488355328 := by omega
    have hm2 : ((a.es.length : Int) + (room a.es.length : Int)) ≤ 9223372036854775807 := by omega
    have hm0 : 0 ≤ ((a.es.length : Int) + (room a.es.length : Int)) := by omega
    obtain ⟨X, hX⟩ : ∃ X, X = (a.es.map (id : TermV → TermV)).map eT ++ List.replicate (room a.es.length) (eT fillT) := ⟨_, rfl⟩
    have hlen : X.length = a.es.length + room a.es.length := by rw [hX]; simp
    have hle : a.es.length ≤ X.length := by omega
    have hN : ((a.es.length : Int) + (room a.es.length : Int)).toNat = X.length := by omega
    have hT : X.take a.es.length = (a.es.map (id : TermV → TermV)).map eT := by rw [hX, List.take_left' (by simp)]
    have hD : X.drop a.es.length = List.replicate (room a.es.length) (eT fillT) := by rw [hX, List.drop_left' (by simp)]
    have hget : ∀ i (h : i < a.es.length), X[i]? = some (eT ((id : TermV → TermV) a.es[i])) := by intro i h; subst hX; rw [List.getElem?_append_left (by simpa using h)]; simp [h]
    have hget2 : ∀ i, i < X.length → a.es.length ≤ i → X[i]? = some (eT fillT) := by
      intro i h h2
      subst hX
      rw [List.getElem?_append_right (by simpa using h2), List.getElem?_replicate, if_pos (by simp at h ⊢; omega)]
    have hgo : bare = false ∨ a.es.length ≠ 0 := by cases bare <;> simp_all
    clear hX
    cases bare
    · simp [b_laws_toTermS, L_roomBehind, hw, hm, hm2, hm0, hN]
      rw [fillRow_zero]
      rw [K_start (fr' := ⟨asl [(0, .sv (.c (cP a))), (5, .sv (.ref 1000000 [] 0 X.length)), (6, .sv (.v (int (0 : Nat))))], asl [(1000000, .arr true false (.fl 4 (fillRow X [int 0, int 0, int 0, int 0] 0) []))], []⟩) (by simp)]
      refine K_for (fun i => ⟨asl [(0, .sv (.c (cP a))), (5, .sv (.ref 1000000 [] 0 X.length)), (6, .sv (.v (int i)))], asl [(1000000, .arr true false (.fl 4 (fillRow X [int 0, int 0, int 0, int 0] i) []))], []⟩) 0 a.es.length (by omega) (by omega) ?_ ?_
      · intro i _ hi K
        have h2 : i < X.length := by omega
        have hs := fillRow_set (z := [int 0, int 0, int 0, int 0]) (hget i hi)
        try simp only [id] at hs
        simp [l1_laws_toTermS, hi, h2, fillRow_length, fillRow_at, hs, wrap_suc (show i < 9223372036854775807 by omega), L_toTerm]
      · intro k
        simp [l1_laws_toTermS]
        rw [K_start (fr' := ⟨asl [(0, .sv (.c (cP a))), (5, .sv (.ref 1000000 [] 0 X.length)), (7, .sv (.v (int a.es.length)))], asl [(1000000, .arr true false (.fl 4 (fillRow X [int 0, int 0, int 0, int 0] a.es.length) []))], []⟩) (by simp)]
        refine K_for (fun i => ⟨asl [(0, .sv (.c (cP a))), (5, .sv (.ref 1000000 [] 0 X.length)), (7, .sv (.v (int i)))], asl [(1000000, .arr true false (.fl 4 (fillRow X [int 0, int 0, int 0, int 0] i) []))], []⟩) a.es.length X.length (by omega) (by omega) ?_ ?_
        · intro i hi0 hi K
          have hs := fillRow_set (z := [int 0, int 0, int 0, int 0]) (hget2 i hi hi0)
          try simp only [eP, cP, eE, cS, cI, one_es, one_sp, List.map_cons, List.map_nil] at hs
          simp [l2_laws_toTermS, hi, fillRow_length, fillRow_at, hs, wrap_suc (show i < 9223372036854775807 by omega), L_fillerTerm]
        · intro k
          simp [l2_laws_toTermS, fillRow_all, hle, hT, hD, e1, e2]
    · have h0 : a.es.length ≠ 0 := by simpa using hgo
      simp [b_laws_toTermS, L_roomBehind, hw, hm, hm2, hm0, hN, h0]
      rw [fillRow_zero]
      rw [K_start (fr' := ⟨asl [(0, .sv (.c (cP a))), (5, .sv (.ref 1000000 [] 0 X.length)), (6, .sv (.v (int (0 : Nat))))], asl [(1000000, .arr true false (.fl 4 (fillRow X [int 0, int 0, int 0, int 0] 0) []))], []⟩) (by simp)]
      refine K_for (fun i => ⟨asl [(0, .sv (.c (cP a))), (5, .sv (.ref 1000000 [] 0 X.length)), (6, .sv (.v (int i)))], asl [(1000000, .arr true false (.fl 4 (fillRow X [int 0, int 0, int 0, int 0] i) []))], []⟩) 0 a.es.length (by omega) (by omega) ?_ ?_
      · intro i _ hi K
        have h2 : i < X.length := by omega
        have hs := fillRow_set (z := [int 0, int 0, int 0, int 0]) (hget i hi)
        try simp only [id] at hs
        simp [l1_laws_toTermS, hi, h2, fillRow_length, fillRow_at, hs, wrap_suc (show i < 9223372036854775807 by omega), L_toTerm]
      · intro k
        simp [l1_laws_toTermS]
        rw [K_start (fr' := ⟨asl [(0, .sv (.c (cP a))), (5, .sv (.ref 1000000 [] 0 X.length)), (7, .sv (.v (int a.es.length)))], asl [(1000000, .arr true false (.fl 4 (fillRow X [int 0, int 0, int 0, int 0] a.es.length) []))], []⟩) (by simp)]
        refine K_for (fun i => ⟨asl [(0, .sv (.c (cP a))), (5, .sv (.ref 1000000 [] 0 X.length)), (7, .sv (.v (int i)))], asl [(1000000, .arr true false (.fl 4 (fillRow X [int 0, int 0, int 0, int 0] i) []))], []⟩) a.es.length X.length (by omega) (by omega) ?_ ?_
        · intro i hi0 hi K
          have hs := fillRow_set (z := [int 0, int 0, int 0, int 0]) (hget2 i hi hi0)
          try simp only [eP, cP, eE, cS, cI, one_es, one_sp, List.map_cons, List.map_nil] at hs
          simp [l2_laws_toTermS, hi, fillRow_length, fillRow_at, hs, wrap_suc (show i < 9223372036854775807 by omega), L_fillerTerm]
        · intro k
          simp [l2_laws_toTermS, fillRow_all, hle, hT, hD, e1, e2]
theorem toInts_es (a : Ints) (b : Bool) (h : a.es.length ≤ 1000000) : (toInts a b).es = a.es := by
  by_cases hb : b = true ∧ a.es.length = 0
  · obtain ⟨rfl, h0⟩ := hb
    rw [(copyRow_bare h0).1]; symm; simpa using h0
  · rw [(copyRow_full hb h).1]; simp
theorem toPoly_es (a : Poly) (b : Bool) (h : a.es.length ≤ 1000000) : (toPoly a b).es = a.es := by
  by_cases hb : b = true ∧ a.es.length = 0
  · obtain ⟨rfl, h0⟩ := hb
    rw [(copyRow_bare h0).1]; symm; simpa using h0
  · rw [(copyRow_full hb h).1]; simp
abbrev rB (b : BoxV) : RV := .agg [.mk .imm (.val (int b.k)), .mk .deep (cI b.low), .mk .deep (cI b.high)]
def fillB : BoxV := ⟨fillI, one fillI, one fillI⟩
theorem L_fillerBox : L (prog hand) n_laws_fillerBox [] = some ⟨[rB fillB], []⟩ := by
  refine L_body (b := b_laws_fillerBox) rfl rfl 0 ?_
  intro fuel hfuel
  simp [b_laws_fillerBox, fillB, one_es, one_sp]
def toBoxV (b : BoxV) (bare : Bool) : BoxV := ⟨b.k, toInts b.low bare, toInts b.high bare⟩
theorem L_toBox (b : BoxV) (bare : Bool) (h1 : b.low.es.length ≤ 1000000) (h2 : b.high.es.length ≤ 1000000) : L (prog hand) n_laws_toBox [argB b, argV (.bool bare)] = some ⟨[rB (toBoxV b bare)], []⟩ := by
  refine L_body (b := b_laws_toBox) rfl rfl 0 ?_
  intro fuel hfuel
  simp [b_laws_toBox, toBoxV, L_toIntS _ _ h1, L_toIntS _ _ h2]
abbrev toSys (a : Sys) (bare : Bool) : Sys := copyRow (fun p => toPoly p bare) (one fillT) a bare
theorem L_toTermSS (a : Sys) (bare : Bool) (h : a.es.length ≤ 1000000) (hp : ∀ p ∈ a.es, p.es.length ≤ 1000000) : L (prog hand) n_laws_toTermSS [arg (cS a), argV (.bool bare)] = some ⟨[.s (.mk .deep (cS (toSys a bare)))], []⟩ := by
  have hq : ∀ (i : Nat) (hi : i < a.es.length), a.es[i].es.length ≤ 1000000 := fun i hi => hp _ (List.getElem_mem hi)
  have hr := room_le a.es.length
  refine L_body (b := b_laws_toTermSS) rfl rfl (a.es.length + room a.es.length) ?_
  intro fuel hfuel
  by_cases hb : bare = true ∧ a.es.length = 0
  · obtain ⟨rfl, h0⟩ := hb
    obtain ⟨e1, e2⟩ := copyRow_bare (f := (fun p => toPoly p true)) (fill := (one fillT)) h0
    have h0' : a.es = [] := by simpa using h0
    simp [b_laws_toTermSS, e1, e2, h0']
  · obtain ⟨e1, e2⟩ := copyRow_full (f := (fun p => toPoly p bare)) (fill := (one fillT)) hb h
    have hw := wrap64 (n := (a.es.length : Int) + (room a.es.length : Int)) (by omega) (by omega)
    have hm : ((a.es.length : Int) + (room a.es.length : Int)) * 24 ≤ 140737488355328 := by omega
    have hm2 : ((a.es.length : Int) + (room a.es.length : Int)) ≤ 9223372036854775807 := by omega
    have hm0 : 0 ≤ ((a.es.length : Int) + (room a.es.length : Int)) := by omega
    obtain ⟨X, hX⟩ : ∃ X, X = (a.es.map (fun p => toPoly p bare)).map eP ++ List.replicate (room a.es.length) (eP (one fillT)) := ⟨_, rfl⟩
    have hlen : X.length = a.es.length + room a.es.length := by rw [hX]; simp
    have hle : a.es.length ≤ X.length := by omega
    have hN : ((a.es.length : Int) + (room a.es.length : Int)).toNat = X.length := by omega
    have hT : X.take a.es.length = (a.es.map (fun p => toPoly p bare)).map eP := by rw [hX, List.take_left' (by simp)]
    have hD : X.drop a.es.length = List.replicate (room a.es.length) (eP (one fillT)) := by rw [hX, List.drop_left' (by simp)]
    have hget : ∀ i (h : i < a.es.length), X[i]? = some (eP ((fun p => toPoly p bare) a.es[i])) := by intro i h; subst hX; rw [List.getElem?_append_left (by simpa using h)]; simp [h]
    have hget2 : ∀ i, i < X.length → a.es.length ≤ i → X[i]? = some (eP (one fillT)) := by
      intro i h h2
      subst hX
      rw [List.getElem?_append_right (by simpa using h2), List.getElem?_replicate, if_pos (by simp at h ⊢; omega)]
    have hgo : bare = false ∨ a.es.length ≠ 0 := by cases bare <;> simp_all
    clear hX
    cases bare
    · simp [b_laws_toTermSS, L_roomBehind, hw, hm, hm2, hm0, hN]
      rw [fillRow_zero]
      rw [K_start (fr' := ⟨asl [(0, .sv (.c (cS a))), (1, .sv (.v (.bool false))), (5, .sv (.ref 1000000 [] 0 X.length)), (6, .sv (.v (int (0 : Nat))))], asl [(1000000, .arr true false (.sl 1 (fillRow X [.fl 4 [] []] 0) []))], []⟩) (by simp)]
      refine K_for (fun i => ⟨asl [(0, .sv (.c (cS a))), (1, .sv (.v (.bool false))), (5, .sv (.ref 1000000 [] 0 X.length)), (6, .sv (.v (int i)))], asl [(1000000, .arr true false (.sl 1 (fillRow X [.fl 4 [] []] i) []))], []⟩) 0 a.es.length (by omega) (by omega) ?_ ?_
      · intro i _ hi K
        have h2 : i < X.length := by omega
        have hs := fillRow_set (z := [.fl 4 [] []]) (hget i hi)
        try simp only [id] at hs
        simp [l1_laws_toTermSS, hi, h2, fillRow_length, fillRow_at, hs, wrap_suc (show i < 9223372036854775807 by omega), L_toTermS _ _ (hq i hi)]
      · intro k
        simp [l1_laws_toTermSS]
        rw [K_start (fr' := ⟨asl [(0, .sv (.c (cS a))), (5, .sv (.ref 1000000 [] 0 X.length)), (7, .sv (.v (int a.es.length)))], asl [(1000000, .arr true false (.sl 1 (fillRow X [.fl 4 [] []] a.es.length) []))], []⟩) (by simp)]
        refine K_for (fun i => ⟨asl [(0, .sv (.c (cS a))), (5, .sv (.ref 1000000 [] 0 X.length)), (7, .sv (.v (int i)))], asl [(1000000, .arr true false (.sl 1 (fillRow X [.fl 4 [] []] i) []))], []⟩) a.es.length X.length (by omega) (by omega) ?_ ?_
        · intro i hi0 hi K
          have hs := fillRow_set (z := [.fl 4 [] []]) (hget2 i hi hi0)
          try simp only [eP, cP, eE, cS, cI, one_es, one_sp, List.map_cons, List.map_nil] at hs
          simp [l2_laws_toTermSS, hi, fillRow_length, fillRow_at, hs, wrap_suc (show i < 9223372036854775807 by omega), L_fillerTerm]
        · intro k
          simp [l2_laws_toTermSS, fillRow_all, hle, hT, hD, e1, e2]
    · have h0 : a.es.length ≠ 0 := by simpa using hgo
      simp [b_laws_toTermSS, L_roomBehind, hw, hm, hm2, hm0, hN, h0]
      rw [fillRow_zero]
      rw [K_start (fr' := ⟨asl [(0, .sv (.c (cS a))), (1, .sv (.v (.bool true))), (5, .sv (.ref 1000000 [] 0 X.length)), (6, .sv (.v (int (0 : Nat))))], asl [(1000000, .arr true false (.sl 1 (fillRow X [.fl 4 [] []] 0) []))], []⟩) (by simp)]
      refine K_for (fun i => ⟨asl [(0, .sv (.c (cS a))), (1, .sv (.v (.bool true))), (5, .sv (.ref 1000000 [] 0 X.length)), (6, .sv (.v (int i)))], asl [(1000000, .arr true false (.sl 1 (fillRow X [.fl 4 [] []] i) []))], []⟩) 0 a.es.length (by omega) (by omega) ?_ ?_
      · intro i _ hi K
        have h2 : i < X.length := by omega
        have hs := fillRow_set (z := [.fl 4 [] []]) (hget i hi)
        try simp only [id] at hs
        simp [l1_laws_toTermSS, hi, h2, fillRow_length, fillRow_at, hs, wrap_suc (show i < 9223372036854775807 by omega), L_toTermS _ _ (hq i hi)]
      · intro k
        simp [l1_laws_toTermSS]
        rw [K_start (fr' := ⟨asl [(0, .sv (.c (cS a))), (5, .sv (.ref 1000000 [] 0 X.length)), (7, .sv (.v (int a.es.length)))], asl [(1000000, .arr true false (.sl 1 (fillRow X [.fl 4 [] []] a.es.length) []))], []⟩) (by simp)]
        refine K_for (fun i => ⟨asl [(0, .sv (.c (cS a))), (5, .sv (.ref 1000000 [] 0 X.length)), (7, .sv (.v (int i)))], asl [(1000000, .arr true false (.sl 1 (fillRow X [.fl 4 [] []] i) []))], []⟩) a.es.length X.length (by omega) (by omega) ?_ ?_
        · intro i hi0 hi K
          have hs := fillRow_set (z := [.fl 4 [] []]) (hget2 i hi hi0)
          try simp only [eP, cP, eE, cS, cI, one_es, one_sp, List.map_cons, List.map_nil] at hs
          simp [l2_laws_toTermSS, hi, fillRow_length, fillRow_at, hs, wrap_suc (show i < 9223372036854775807 by omega), L_fillerTerm]
        · intro k
          simp [l2_laws_toTermSS, fillRow_all, hle, hT, hD, e1, e2]
theorem toSys_es (a : Sys) (b : Bool) (h : a.es.length ≤ 1000000) : (toSys a b).es = a.es.map (fun p => toPoly p b) := by
  by_cases hb : b = true ∧ a.es.length = 0
  · obtain ⟨rfl, h0⟩ := hb
    rw [(copyRow_bare h0).1]; symm; simpa using h0
  · rw [(copyRow_full hb h).1]
abbrev rE (e : EntryV) : RV := .agg [.mk .imm (.val (.string e.name)), .mk .deep (cS e.system), .mk .imm (.val (int e.box.k)), .mk .deep (cI e.box.low), .mk .deep (cI e.box.high), .mk .imm (.val (int e.least)), .mk .imm (.val (int e.most)), .mk .imm (.val (int e.version))]
abbrev fillName : ByteArray := ⟨#[126, 115, 112, 97, 114, 101, 126]⟩
def fillE : EntryV := ⟨fillName, by decide, one (one fillT), fillB, fillI, fillI, fillI⟩
theorem L_fillerEntry : L (prog hand) n_laws_fillerEntry [] = some ⟨[rE fillE], []⟩ := by
  refine L_body (b := b_laws_fillerEntry) rfl rfl 0 ?_
  intro fuel hfuel
  simp [b_laws_fillerEntry, fillE, one_es, one_sp, L_fillerTerm, L_fillerBox]
/-- A small entry. -/
def SmallS (s : Sys) : Prop := s.es.length ≤ 1000000 ∧ ∀ p ∈ s.es, p.es.length ≤ 1000000
def SmallE (e : EntryV) : Prop := SmallS e.system ∧ e.box.low.es.length ≤ 1000000 ∧ e.box.high.es.length ≤ 1000000
def toEntryV (e : EntryV) (bare : Bool) : EntryV := ⟨e.name, e.nok, toSys e.system bare, toBoxV e.box bare, e.least, e.most, e.version⟩
theorem L_toEntry (e : EntryV) (bare : Bool) (h : SmallE e) : L (prog hand) n_laws_toEntry [argE e, argV (.bool bare)] = some ⟨[rE (toEntryV e bare)], []⟩ := by
  obtain ⟨⟨h1, h2⟩, h3, h4⟩ := h
  refine L_body (b := b_laws_toEntry) rfl rfl 0 ?_
  intro fuel hfuel
  simp [b_laws_toEntry, toEntryV, L_toTermSS _ _ h1 h2, L_toBox _ _ h3 h4]
abbrev toEntries (a : Entries) (bare : Bool) : Entries := copyRow (fun e => toEntryV e bare) fillE a bare
theorem L_toEntryS (a : Entries) (bare : Bool) (h : a.es.length ≤ 1000000) (hp : ∀ e ∈ a.es, SmallE e) : L (prog hand) n_laws_toEntryS [arg (cE a), argV (.bool bare)] = some ⟨[.s (.mk .deep (cE (toEntries a bare)))], []⟩ := by
  have hq : ∀ (i : Nat) (hi : i < a.es.length), SmallE a.es[i] := fun i hi => hp _ (List.getElem_mem hi)
  have hr := room_le a.es.length
  refine L_body (b := b_laws_toEntryS) rfl rfl (a.es.length + room a.es.length) ?_
  intro fuel hfuel
  by_cases hb : bare = true ∧ a.es.length = 0
  · obtain ⟨rfl, h0⟩ := hb
    obtain ⟨e1, e2⟩ := copyRow_bare (f := (fun e => toEntryV e true)) (fill := fillE) h0
    have h0' : a.es = [] := by simpa using h0
    simp [b_laws_toEntryS, e1, e2, h0']
  · obtain ⟨e1, e2⟩ := copyRow_full (f := (fun e => toEntryV e bare)) (fill := fillE) hb h
    have hw := wrap64 (n := (a.es.length : Int) + (room a.es.length : Int)) (by omega) (by omega)
    have hm : ((a.es.length : Int) + (room a.es.length : Int)) * 120 ≤ 140737488355328 := by omega
    have hm2 : ((a.es.length : Int) + (room a.es.length : Int)) ≤ 9223372036854775807 := by omega
    have hm0 : 0 ≤ ((a.es.length : Int) + (room a.es.length : Int)) := by omega
    obtain ⟨X, hX⟩ : ∃ X, X = (a.es.map (fun e => toEntryV e bare)).map eE ++ List.replicate (room a.es.length) (eE fillE) := ⟨_, rfl⟩
    have hlen : X.length = a.es.length + room a.es.length := by rw [hX]; simp
    have hle : a.es.length ≤ X.length := by omega
    have hN : ((a.es.length : Int) + (room a.es.length : Int)).toNat = X.length := by omega
    have hT : X.take a.es.length = (a.es.map (fun e => toEntryV e bare)).map eE := by rw [hX, List.take_left' (by simp)]
    have hD : X.drop a.es.length = List.replicate (room a.es.length) (eE fillE) := by rw [hX, List.drop_left' (by simp)]
    have hget : ∀ i (h : i < a.es.length), X[i]? = some (eE ((fun e => toEntryV e bare) a.es[i])) := by intro i h; subst hX; rw [List.getElem?_append_left (by simpa using h)]; simp [h]
    have hget2 : ∀ i, i < X.length → a.es.length ≤ i → X[i]? = some (eE fillE) := by
      intro i h h2
      subst hX
      rw [List.getElem?_append_right (by simpa using h2), List.getElem?_replicate, if_pos (by simp at h ⊢; omega)]
    have hgo : bare = false ∨ a.es.length ≠ 0 := by cases bare <;> simp_all
    clear hX
    cases bare
    · simp [b_laws_toEntryS, L_roomBehind, hw, hm, hm2, hm0, hN]
      rw [fillRow_zero]
      rw [K_start (fr' := ⟨asl [(0, .sv (.c (cE a))), (1, .sv (.v (.bool false))), (5, .sv (.ref 1000000 [] 0 X.length)), (6, .sv (.v (int (0 : Nat))))], asl [(1000000, .arr true false (.sl 8 (fillRow X [.val (.string ⟨#[]⟩), .sl 1 [] [], .val (int 0), .fl 1 [] [], .fl 1 [] [], .val (int 0), .val (int 0), .val (int 0)] 0) []))], []⟩) (by simp)]
      refine K_for (fun i => ⟨asl [(0, .sv (.c (cE a))), (1, .sv (.v (.bool false))), (5, .sv (.ref 1000000 [] 0 X.length)), (6, .sv (.v (int i)))], asl [(1000000, .arr true false (.sl 8 (fillRow X [.val (.string ⟨#[]⟩), .sl 1 [] [], .val (int 0), .fl 1 [] [], .fl 1 [] [], .val (int 0), .val (int 0), .val (int 0)] i) []))], []⟩) 0 a.es.length (by omega) (by omega) ?_ ?_
      · intro i _ hi K
        have h2 : i < X.length := by omega
        have hs := fillRow_set (z := [.val (.string ⟨#[]⟩), .sl 1 [] [], .val (int 0), .fl 1 [] [], .fl 1 [] [], .val (int 0), .val (int 0), .val (int 0)]) (hget i hi)
        try simp only [id] at hs
        simp [l1_laws_toEntryS, hi, h2, fillRow_length, fillRow_at, hs, wrap_suc (show i < 9223372036854775807 by omega), L_toEntry _ _ (hq i hi)]
      · intro k
        simp [l1_laws_toEntryS]
        rw [K_start (fr' := ⟨asl [(0, .sv (.c (cE a))), (5, .sv (.ref 1000000 [] 0 X.length)), (7, .sv (.v (int a.es.length)))], asl [(1000000, .arr true false (.sl 8 (fillRow X [.val (.string ⟨#[]⟩), .sl 1 [] [], .val (int 0), .fl 1 [] [], .fl 1 [] [], .val (int 0), .val (int 0), .val (int 0)] a.es.length) []))], []⟩) (by simp)]
        refine K_for (fun i => ⟨asl [(0, .sv (.c (cE a))), (5, .sv (.ref 1000000 [] 0 X.length)), (7, .sv (.v (int i)))], asl [(1000000, .arr true false (.sl 8 (fillRow X [.val (.string ⟨#[]⟩), .sl 1 [] [], .val (int 0), .fl 1 [] [], .fl 1 [] [], .val (int 0), .val (int 0), .val (int 0)] i) []))], []⟩) a.es.length X.length (by omega) (by omega) ?_ ?_
        · intro i hi0 hi K
          have hs := fillRow_set (z := [.val (.string ⟨#[]⟩), .sl 1 [] [], .val (int 0), .fl 1 [] [], .fl 1 [] [], .val (int 0), .val (int 0), .val (int 0)]) (hget2 i hi hi0)
          try simp only [eP, cP, eE, cS, cI, one_es, one_sp, List.map_cons, List.map_nil] at hs
          simp [l2_laws_toEntryS, hi, fillRow_length, fillRow_at, hs, wrap_suc (show i < 9223372036854775807 by omega), L_fillerEntry]
        · intro k
          simp [l2_laws_toEntryS, fillRow_all, hle, hT, hD, e1, e2]
    · have h0 : a.es.length ≠ 0 := by simpa using hgo
      simp [b_laws_toEntryS, L_roomBehind, hw, hm, hm2, hm0, hN, h0]
      rw [fillRow_zero]
      rw [K_start (fr' := ⟨asl [(0, .sv (.c (cE a))), (1, .sv (.v (.bool true))), (5, .sv (.ref 1000000 [] 0 X.length)), (6, .sv (.v (int (0 : Nat))))], asl [(1000000, .arr true false (.sl 8 (fillRow X [.val (.string ⟨#[]⟩), .sl 1 [] [], .val (int 0), .fl 1 [] [], .fl 1 [] [], .val (int 0), .val (int 0), .val (int 0)] 0) []))], []⟩) (by simp)]
      refine K_for (fun i => ⟨asl [(0, .sv (.c (cE a))), (1, .sv (.v (.bool true))), (5, .sv (.ref 1000000 [] 0 X.length)), (6, .sv (.v (int i)))], asl [(1000000, .arr true false (.sl 8 (fillRow X [.val (.string ⟨#[]⟩), .sl 1 [] [], .val (int 0), .fl 1 [] [], .fl 1 [] [], .val (int 0), .val (int 0), .val (int 0)] i) []))], []⟩) 0 a.es.length (by omega) (by omega) ?_ ?_
      · intro i _ hi K
        have h2 : i < X.length := by omega
        have hs := fillRow_set (z := [.val (.string ⟨#[]⟩), .sl 1 [] [], .val (int 0), .fl 1 [] [], .fl 1 [] [], .val (int 0), .val (int 0), .val (int 0)]) (hget i hi)
        try simp only [id] at hs
        simp [l1_laws_toEntryS, hi, h2, fillRow_length, fillRow_at, hs, wrap_suc (show i < 9223372036854775807 by omega), L_toEntry _ _ (hq i hi)]
      · intro k
        simp [l1_laws_toEntryS]
        rw [K_start (fr' := ⟨asl [(0, .sv (.c (cE a))), (5, .sv (.ref 1000000 [] 0 X.length)), (7, .sv (.v (int a.es.length)))], asl [(1000000, .arr true false (.sl 8 (fillRow X [.val (.string ⟨#[]⟩), .sl 1 [] [], .val (int 0), .fl 1 [] [], .fl 1 [] [], .val (int 0), .val (int 0), .val (int 0)] a.es.length) []))], []⟩) (by simp)]
        refine K_for (fun i => ⟨asl [(0, .sv (.c (cE a))), (5, .sv (.ref 1000000 [] 0 X.length)), (7, .sv (.v (int i)))], asl [(1000000, .arr true false (.sl 8 (fillRow X [.val (.string ⟨#[]⟩), .sl 1 [] [], .val (int 0), .fl 1 [] [], .fl 1 [] [], .val (int 0), .val (int 0), .val (int 0)] i) []))], []⟩) a.es.length X.length (by omega) (by omega) ?_ ?_
        · intro i hi0 hi K
          have hs := fillRow_set (z := [.val (.string ⟨#[]⟩), .sl 1 [] [], .val (int 0), .fl 1 [] [], .fl 1 [] [], .val (int 0), .val (int 0), .val (int 0)]) (hget2 i hi hi0)
          try simp only [eP, cP, eE, cS, cI, one_es, one_sp, List.map_cons, List.map_nil] at hs
          simp [l2_laws_toEntryS, hi, fillRow_length, fillRow_at, hs, wrap_suc (show i < 9223372036854775807 by omega), L_fillerEntry]
        · intro k
          simp [l2_laws_toEntryS, fillRow_all, hle, hT, hD, e1, e2]
end Go.Proofs.Ytkiklfcfdopplaa.T
namespace Go.Proofs.Ytkiklfcfdopplaa.T
open Go
variable {hand : Call}
set_option maxHeartbeats 2000000
attribute [-simp] List.getElem_cons_drop List.map_drop
def Row.full {α : Type} (a : Row α) : Row α := ⟨a.es ++ a.sp, [], by have := a.ok; simp; omega⟩
def Row.rest {α : Type} (a : Row α) : Row α := ⟨a.sp, [], by have := a.ok; simp; omega⟩
theorem full_I (a : Ints) : C.fl 1 (a.es.map eI ++ a.sp.map eI) [] = cI a.full := by simp [Row.full]
theorem full_P (a : Poly) : C.fl 4 (a.es.map eT ++ a.sp.map eT) [] = cP a.full := by simp [Row.full]
theorem rest_S (a : Sys) : C.sl 1 (a.sp.map eP) [] = cS a.rest := by simp [Row.rest]
theorem rest_E (a : Entries) : C.sl 8 (a.sp.map eE) [] = cE a.rest := by simp [Row.rest]
/-- As the copies are made: so much room behind, few elements. -/
def Roomy {α : Type} (a : Row α) : Prop := a.sp.length = room a.es.length ∧ a.es.length ≤ 1000000
def RoomyS (s : Sys) : Prop := Roomy s ∧ ∀ p ∈ s.es, Roomy p
def RoomyB (b : BoxV) : Prop := Roomy b.low ∧ Roomy b.high
def RoomyE (e : EntryV) : Prop := RoomyS e.system ∧ RoomyB e.box
def RoomyL (l : Entries) : Prop := Roomy l ∧ ∀ e ∈ l.es, RoomyE e
theorem L_intactIntS (a : Ints) (h : Roomy a) : L (prog hand) n_laws_intactIntS [arg (cI a), arg (cI a)] = some (resB true) := by
  obtain ⟨h, h1⟩ := h
  have hr := room_le a.es.length
  refine L_body (b := b_laws_intactIntS) rfl rfl 0 ?_
  intro fuel hfuel
  have hw := wrap64 (n := (a.es.length : Int) + (room a.es.length : Int)) (by omega) (by omega)
  have hm0 : 0 ≤ ((a.es.length : Int) + (room a.es.length : Int)) := by omega
  have hN : ((a.es.length : Int) + (room a.es.length : Int)).toNat = a.es.length + room a.es.length := by omega
  have hle : ((a.es.length : Int) + (room a.es.length : Int)) ≤ ((a.es.length : Int) + (a.sp.length : Int)) := by omega
  have hT : (a.es.map eI ++ a.sp.map eI).take (a.es.length + room a.es.length) = a.es.map eI ++ a.sp.map eI := List.take_of_length_le (by simp; omega)
  have hD : (a.es.map eI ++ a.sp.map eI).drop (a.es.length + room a.es.length) = [] := List.drop_eq_nil_of_le (by simp; omega)
  have hE : L (prog hand) n_laws_eqIntS [arg (.fl 1 ((a.es.map eI ++ a.sp.map eI).take (a.es.length + room a.es.length)) ((a.es.map eI ++ a.sp.map eI).drop (a.es.length + room a.es.length))), arg (.fl 1 ((a.es.map eI ++ a.sp.map eI).take (a.es.length + room a.es.length)) ((a.es.map eI ++ a.sp.map eI).drop (a.es.length + room a.es.length)))] = some (resB true) := by
    rw [hT, hD, full_I, L_eqIntS]
    simp
  simp [b_laws_intactIntS, L_roomBehind, hw, hm0, hN, hle, hE]
theorem L_intactTermS (a : Poly) (h : Roomy a) : L (prog hand) n_laws_intactTermS [arg (cP a), arg (cP a)] = some (resB true) := by
  obtain ⟨h, h1⟩ := h
  have hr := room_le a.es.length
  refine L_body (b := b_laws_intactTermS) rfl rfl 0 ?_
  intro fuel hfuel
  have hw := wrap64 (n := (a.es.length : Int) + (room a.es.length : Int)) (by omega) (by omega)
  have hm0 : 0 ≤ ((a.es.length : Int) + (room a.es.length : Int)) := by omega
  have hN : ((a.es.length : Int) + (room a.es.length : Int)).toNat = a.es.length + room a.es.length := by omega
  have hle : ((a.es.length : Int) + (room a.es.length : Int)) ≤ ((a.es.length : Int) + (a.sp.length : Int)) := by omega
  have hT : (a.es.map eT ++ a.sp.map eT).take (a.es.length + room a.es.length) = a.es.map eT ++ a.sp.map eT := List.take_of_length_le (by simp; omega)
  have hD : (a.es.map eT ++ a.sp.map eT).drop (a.es.length + room a.es.length) = [] := List.drop_eq_nil_of_le (by simp; omega)
  have hE : L (prog hand) n_laws_eqTermS [arg (.fl 4 ((a.es.map eT ++ a.sp.map eT).take (a.es.length + room a.es.length)) ((a.es.map eT ++ a.sp.map eT).drop (a.es.length + room a.es.length))), arg (.fl 4 ((a.es.map eT ++ a.sp.map eT).take (a.es.length + room a.es.length)) ((a.es.map eT ++ a.sp.map eT).drop (a.es.length + room a.es.length)))] = some (resB true) := by
    rw [hT, hD, full_P, L_eqTermS]
    simp
  simp [b_laws_intactTermS, L_roomBehind, hw, hm0, hN, hle, hE]
theorem L_intactTermSS (a : Sys) (h : RoomyS a) : L (prog hand) n_laws_intactTermSS [arg (cS a), arg (cS a)] = some (resB true) := by
  obtain ⟨⟨h, h1⟩, hq⟩ := h
  have hr := room_le a.es.length
  refine L_body (b := b_laws_intactTermSS) rfl rfl a.es.length ?_
  intro fuel hfuel
  have hw := wrap64 (n := (a.es.length : Int) + (room a.es.length : Int)) (by omega) (by omega)
  have hm0 : 0 ≤ ((a.es.length : Int) + (room a.es.length : Int)) := by omega
  have hN : ((a.es.length : Int) + (room a.es.length : Int)).toNat = a.es.length + room a.es.length := by omega
  have hle : ((a.es.length : Int) + (room a.es.length : Int)) ≤ ((a.es.length : Int) + (a.sp.length : Int)) := by omega
  have hsub : a.es.length + room a.es.length - a.es.length = room a.es.length := by omega
  have hT : (a.sp.map eP).take (room a.es.length) = a.sp.map eP := List.take_of_length_le (by simp; omega)
  have hle0 : (a.es.length : Int) ≤ (a.es.length : Int) + (room a.es.length : Int) := by omega
  have hD : (a.es.map eP ++ a.sp.map eP).drop (a.es.length + room a.es.length) = [] := List.drop_eq_nil_of_le (by simp; omega)
  have hE : L (prog hand) n_laws_eqTermSS [arg (.sl 1 (a.sp.map eP) []), arg (.sl 1 (a.sp.map eP) [])] = some (resB true) := by
    rw [rest_S, L_eqTermSS]
    simp
  simp [b_laws_intactTermSS, L_roomBehind, hw]
  refine K_for (fun i => ⟨asl [(0, .sv (.c (cS a))), (1, .sv (.c (cS a))), (5, .sv (.v (int ((a.es.length : Int) + (room a.es.length : Int))))), (6, .sv (.v (int i)))], asl [], []⟩) 0 a.es.length (by omega) (by omega) ?_ ?_
  · intro i _ hi K
    have hp := hq _ (List.getElem_mem hi)
    simp [l1_laws_intactTermSS, hi, L_intactTermS _ hp, wrap_suc (show i < 9223372036854775807 by omega)]
  · intro k
    simp [l1_laws_intactTermSS, hm0, hN, hle, hle0, hsub, hT, hD, hE]
theorem L_intactBox (b : BoxV) (h : RoomyB b) : L (prog hand) n_laws_intactBox [argB b, argB b] = some (resB true) := by
  refine L_body (b := b_laws_intactBox) rfl rfl 0 ?_
  intro fuel hfuel
  simp [b_laws_intactBox, L_intactIntS _ h.1, L_intactIntS _ h.2]
theorem L_intactEntry (e : EntryV) (h : RoomyE e) : L (prog hand) n_laws_intactEntry [argE e, argE e] = some (resB true) := by
  refine L_body (b := b_laws_intactEntry) rfl rfl 0 ?_
  intro fuel hfuel
  simp [b_laws_intactEntry, L_intactTermSS _ h.1, L_intactBox _ h.2]
theorem L_intactEntryS (a : Entries) (h : RoomyL a) : L (prog hand) n_laws_intactEntryS [arg (cE a), arg (cE a)] = some (resB true) := by
  obtain ⟨⟨h, h1⟩, hq⟩ := h
  have hr := room_le a.es.length
  refine L_body (b := b_laws_intactEntryS) rfl rfl a.es.length ?_
  intro fuel hfuel
  have hw := wrap64 (n := (a.es.length : Int) + (room a.es.length : Int)) (by omega) (by omega)
  have hm0 : 0 ≤ ((a.es.length : Int) + (room a.es.length : Int)) := by omega
  have hN : ((a.es.length : Int) + (room a.es.length : Int)).toNat = a.es.length + room a.es.length := by omega
  have hle : ((a.es.length : Int) + (room a.es.length : Int)) ≤ ((a.es.length : Int) + (a.sp.length : Int)) := by omega
  have hsub : a.es.length + room a.es.length - a.es.length = room a.es.length := by omega
  have hT : (a.sp.map eE).take (room a.es.length) = a.sp.map eE := List.take_of_length_le (by simp; omega)
  have hle0 : (a.es.length : Int) ≤ (a.es.length : Int) + (room a.es.length : Int) := by omega
  have hD : (a.es.map eE ++ a.sp.map eE).drop (a.es.length + room a.es.length) = [] := List.drop_eq_nil_of_le (by simp; omega)
  have hE : L (prog hand) n_laws_eqEntryS [arg (.sl 8 (a.sp.map eE) []), arg (.sl 8 (a.sp.map eE) [])] = some (resB true) := by
    rw [rest_E, L_eqEntryS]
    simp
  simp [b_laws_intactEntryS, L_roomBehind, hw]
  refine K_for (fun i => ⟨asl [(0, .sv (.c (cE a))), (1, .sv (.c (cE a))), (5, .sv (.v (int ((a.es.length : Int) + (room a.es.length : Int))))), (6, .sv (.v (int i)))], asl [], []⟩) 0 a.es.length (by omega) (by omega) ?_ ?_
  · intro i _ hi K
    have hp := hq _ (List.getElem_mem hi)
    simp [l1_laws_intactEntryS, hi, L_intactEntry _ hp, wrap_suc (show i < 9223372036854775807 by omega)]
  · intro k
    simp [l1_laws_intactEntryS, hm0, hN, hle, hle0, hsub, hT, hD, hE]
end Go.Proofs.Ytkiklfcfdopplaa.T
