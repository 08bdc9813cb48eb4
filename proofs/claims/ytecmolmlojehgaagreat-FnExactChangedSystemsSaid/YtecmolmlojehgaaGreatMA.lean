/- The abstract executor: values as trees, who owns what, and what a function gives. Nothing of Go's memory in it. -/
import GoSem.Core.Sem
import GoSem.Dispatch
namespace Go.Proofs.YtecmolmlojehgaaGreat.T
open Go

/-- A cell's content: a scalar, a slice of elements that are scalars all through, a slice of elements with slices in them, or nothing known. -/
inductive C where
  | val (v : Value)
  | fl (sz : Nat) (es sp : List (List Value))
  | sl (sz : Nat) (es sp : List (List C))
  | hole
  deriving Inhabited
/-- The kind of a slice. -/
inductive K where
  | fl (sz : Nat)
  | sl (sz : Nat)
  deriving Inhabited, DecidableEq
abbrev Path := List (Nat × Nat)
/-- What is held in one cell or as one slot. -/
inductive SV where
  | c (c : C)
  | nil (k : K)
  | ref (id : Nat) (p : Path) (off len : Nat)
  | pb (id off : Nat)
  | pe (id : Nat) (p : Path) (i off : Nat)
  | pm (cs : List C) (off : Nat)
  deriving Inhabited
inductive A1 where
  | s (x : SV)
  | agg (xs : List SV)
  | fn (f : Nat) (caps : List SV)
  deriving Inhabited
inductive AV where
  | v (a : A1)
  | tup (as : List A1)
  | undef
  deriving Inhabited
/-- What a frame owns: a row (all that lies in it, too? have its inner rows been exchanged since?), a variable, or what was taken. -/
inductive Root where
  | arr (deep taint : Bool) (c : C)
  | box (xs : List SV)
  | gone
  deriving Inhabited
structure Fr where
  sl : Nat → Option AV
  rt : Nat → Option Root
  ps : List Nat
/-- Who owns: nobody of this frame, the row alone, the row and all that lies in it. -/
inductive Ow where
  | imm | top | deep
  deriving DecidableEq, Inhabited
inductive RC where
  | mk (o : Ow) (c : C)
  deriving Inhabited
inductive RV where
  | s (x : RC)
  | agg (xs : List RC)
  deriving Inhabited
inductive Arg where
  | imm (a : A1)
  | arr (deep : Bool) (c : C) (len : Nat)
  | box (xs : List SV)
  deriving Inhabited
structure Res where
  rs : List RV
  ms : List (Option Root)
  deriving Inhabited

abbrev SV.v (v : Value) : SV := .c (.val v)
abbrev A1.v (v : Value) : A1 := .s (.c (.val v))
abbrev AV.sv (x : SV) : AV := .v (.s x)

inductive Opd where
  | t (n : Nat)
  | k (a : A1)
  deriving Inhabited
inductive PO where
  | mv (x : Opd)
  | mvt (t : Nat)
  | mkn (k : K)
  | pick (c a b : Opd)
  | box (x : Opd)
  | alloc (z : List SV)
  | build (z : List SV) (parts : List (Nat × Nat × Opd))
  | bs (k : K) (parts : List Opd)
  | ld (agg : Bool) (n : Nat) (a : Opd)
  | st (n : Nat) (a x : Opd)
  | nchk (x : Opd)
  | bin (op : BinOp) (x y : Opd)
  | eqb (neg : Bool) (x y : Opd)
  | eqs (neg : Bool) (ks : List Nat) (x y : Opd)
  | un (op : UnOp) (x : Opd)
  | conv (k : IntKind) (x : Opd)
  | b2s (x : Opd)
  | fa (off : Nat) (x : Opd)
  | ia (sz : Nat) (x i : Opd)
  | iap (len sz : Nat) (x i : Opd)
  | ixs (x i : Opd)
  | ixa (agg : Bool) (len sz : Nat) (x i : Opd)
  | fld (agg : Bool) (off n : Nat) (x : Opd)
  | slc (sz : Nat) (x : Opd) (lo hi : Option Opd)
  | slcs (x : Opd) (lo hi : Option Opd)
  | ext (t : Nat) (i : Nat)
  | len (str : Bool) (x : Opd)
  | app (k : K) (bytes : Nat) (x y : Opd)
  | mm (mx : Bool) (xs : List Opd)
  | call (f : Nat) (args : List (Bool × Opd))
  | callv (f : Opd) (args : List (Bool × Opd))
  | mkf (f : Nat) (caps : List Opd)
  | mks (k : K) (bytes : Nat) (zero : List C) (len cap : Opd)
  deriving Inhabited
/-- What an operation may not see: nothing is hidden, all is, or some roots are (those of slots, those named). -/
inductive Hide where
  | no
  | all
  | ids (slots roots : List Nat)
  deriving Inhabited
structure POp where
  dst : Option Nat
  g : Option (Nat × Bool)
  hide : Hide
  may : Hide
  anc : List Nat
  blind : List Nat
  op : PO
  deriving Inhabited
inductive PC where
  | skip
  | ops (l : List POp) (keep : List Nat)
  | dops (l : List (Nat × POp)) (keep : List Nat)
  | seq (a b : PC)
  | cond (c : Opd) (a b : PC)
  | block (id : Nat) (c : PC)
  | loop (live : List Nat) (c : PC)
  | exit (id : Nat)
  | ret
  deriving Inhabited
/-- Where a result lies: in a slot, or in a variable. -/
inductive PR where
  | t (n : Nat)
  | cell (n : Nat) (agg : Bool) (sz : Nat)
  deriving Inhabited
structure PFunc where
  np : Nat
  nt : Nat
  body : PC
  results : List PR
  deriving Inhabited

/-- Short words for what a program prints. -/
@[reducible] def o (d : Nat) (p : PO) : POp := ⟨some d, none, .no, .no, [], [], p⟩
@[reducible] def u (p : PO) : POp := ⟨none, none, .no, .no, [], [], p⟩

/-! ### Trees -/
def K.empty : K → C
  | .fl sz => .fl sz [] []
  | .sl sz => .sl sz [] []
def K.sz : K → Nat
  | .fl sz => sz
  | .sl sz => sz
def C.flat : C → Bool
  | .fl _ _ _ => true
  | _ => false
def C.get : C → Path → Option C
  | c, [] => some c
  | .sl _ es _, (i, j) :: p =>
    match es[i]? with
    | some e =>
      match e[j]? with
      | some c => c.get p
      | none => none
    | none => none
  | _, _ :: _ => none
def C.set : C → Path → C → C
  | _, [], d => d
  | .sl sz es sp, (i, j) :: p, d =>
    match es[i]? with
    | some e =>
      match e[j]? with
      | some c => .sl sz (es.set i (e.set j (c.set p d))) sp
      | none => .sl sz es sp
    | none => .sl sz es sp
  | c, _ :: _, _ => c
/-- Size of an element, elements, all that is known. -/
def C.shape : C → Option (Nat × Nat × Nat)
  | .fl sz es sp => some (sz, es.length, es.length + sp.length)
  | .sl sz es sp => some (sz, es.length, es.length + sp.length)
  | _ => none
def C.elem : C → Nat → Option (List C)
  | .fl _ es _, i => (es[i]?).map (·.map .val)
  | .sl _ es _, i => es[i]?
  | _, _ => none
/-- n elements from lo on; what lies behind them is to spare. -/
def C.sub (lo n : Nat) : C → C
  | .fl sz es sp => .fl sz (((es ++ sp).drop lo).take n) ((es ++ sp).drop (lo + n))
  | .sl sz es sp => .sl sz (((es ++ sp).drop lo).take n) ((es ++ sp).drop (lo + n))
  | c => c
/-- All that is known, as elements. -/
def C.all : C → C
  | .fl sz es sp => .fl sz (es ++ sp) []
  | .sl sz es sp => .sl sz (es ++ sp) []
  | c => c
def C.isVal : C → Bool
  | .val _ => true
  | _ => false
def C.isSlice : C → Bool
  | .fl _ _ _ => true
  | .sl _ _ _ => true
  | _ => false

/-! ### Frames -/
def upd {α : Type} (f : Nat → Option α) (k : Nat) (v : α) : Nat → Option α := fun i => if i = k then some v else f i
def asl {α : Type} (l : List (Nat × α)) : Nat → Option α := fun i => l.lookup i
abbrev Rts := Nat → Option Root
/-- The row at a path. -/
def rowAt (rt : Rts) (id : Nat) (p : Path) : Option (Bool × C) :=
  match rt id with
  | some (.arr d t c) => if p.isEmpty || !t then (c.get p).map (fun c' => (d, c')) else none
  | _ => none
def SV.ids : SV → List Nat
  | .ref id _ _ _ => [id]
  | .pb id _ => [id]
  | .pe id _ _ _ => [id]
  | _ => []
def A1.ids : A1 → List Nat
  | .s x => x.ids
  | .agg xs => xs.flatMap (·.ids)
  | .fn _ xs => xs.flatMap (·.ids)
def AV.ids : AV → List Nat
  | .v a => a.ids
  | .tup as => as.flatMap (·.ids)
  | .undef => []
def Root.ids : Root → List Nat
  | .box xs => xs.flatMap (·.ids)
  | _ => []
def Fr.get (fr : Fr) (t : Nat) : Option AV := fr.sl t
def Fr.set (fr : Fr) (t : Nat) (a : AV) : Fr := { fr with sl := upd fr.sl t a }
/-- A new row or variable. -/
def newRt (rt : Rts) (id : Nat) (r : Root) : Option Rts := if (rt id).isNone && decide (64000 ≤ id) && r.ids.all (fun i => (rt i).isSome) then some (upd rt id r) else none
def nid (dst : Nat) : Nat := 64000 + dst * 64
def mapO {α β : Type} (f : α → Option β) : List α → Option (List β)
  | [] => some []
  | x :: xs =>
    match f x with
    | some y =>
      match mapO f xs with
      | some ys => some (y :: ys)
      | none => none
    | none => none

/-! ### Reading -/
/-- What a slice holds. -/
def cont (rt : Rts) : SV → Option C
  | .c (.fl sz es sp) => some (.fl sz es sp)
  | .c (.sl sz es sp) => some (.sl sz es sp)
  | .nil k => some k.empty
  | .ref id p off len =>
    match rowAt rt id p with
    | some (_, c') =>
      match c'.shape with
      | some (_, _, tot) => if off + len ≤ tot then some (c'.sub off len) else none
      | none => none
    | none => none
  | _ => none
/-- A cell's content, as it may be handed on for reading. -/
def snapC (rt : Rts) : SV → Option C
  | .c c => some c
  | .nil k => some k.empty
  | .ref id p off len => cont rt (.ref id p off len)
  | _ => none
def snap (rt : Rts) : SV → Option SV
  | .c c => some (.c c)
  | .nil k => some (.c k.empty)
  | .ref id p off len => (cont rt (.ref id p off len)).map .c
  | .pb id off =>
    match rt id with
    | some (.box xs) => (mapO (snapC rt) xs).map (fun cs => .pm cs off)
    | _ => none
  | .pe id p i off =>
    match rowAt rt id p with
    | some (_, c') => (c'.elem i).map (fun cs => .pm cs off)
    | none => none
  | .pm cs off => some (.pm cs off)
def snap1 (rt : Rts) : A1 → Option A1
  | .s x => (snap rt x).map .s
  | .agg xs => (mapO (snap rt) xs).map .agg
  | .fn f xs => (mapO (snap rt) xs).map (.fn f)
abbrev Ev := Opd → Option A1
def Fr.ev (fr : Fr) : Ev
  | .t n =>
    match fr.sl n with
    | some (.v a) => some a
    | _ => none
  | .k a => some a
def evS (ev : Ev) (x : Opd) : Option SV :=
  match ev x with
  | some (.s x) => some x
  | _ => none
def evV (ev : Ev) (x : Opd) : Option Value :=
  match ev x with
  | some (.s (.c (.val v))) => some v
  | _ => none
def evI (ev : Ev) (x : Opd) : Option Int :=
  match evV ev x with
  | some (.int _ n) => some n
  | _ => none
/-- The cells of a value. -/
def A1.cells : A1 → Option (List SV)
  | .s x => some [x]
  | .agg xs => some xs
  | .fn _ _ => none
def evC (ev : Ev) (x : Opd) : Option (List SV) :=
  match ev x with
  | some a => a.cells
  | none => none
/-- One cell of an element, as a slot holds it. -/
def cellSV (deep : Bool) (id : Nat) (p : Path) (i j : Nat) : C → SV
  | .fl sz es sp => if deep then .ref id (p ++ [(i, j)]) 0 es.length else .c (.fl sz es sp)
  | .sl sz es sp => if deep then .ref id (p ++ [(i, j)]) 0 es.length else .c (.sl sz es sp)
  | c => .c c
def seg {α : Type} (l : List α) (off n : Nat) : Option (List α) := if off + n ≤ l.length then some ((l.drop off).take n) else none
def cellSVs (deep : Bool) (id : Nat) (p : Path) (i : Nat) : Nat → List C → List SV
  | _, [] => []
  | j, c :: cs => cellSV deep id p i j c :: cellSVs deep id p i (j + 1) cs
def load (rt : Rts) (n : Nat) : SV → Option (List SV)
  | .pb id off =>
    match rt id with
    | some (.box xs) => seg xs off n
    | _ => none
  | .pm cs off => (seg cs off n).map (·.map .c)
  | .pe id p i off =>
    match rowAt rt id p with
    | some (d, c') =>
      match c'.elem i with
      | some cs => (seg cs off n).map (cellSVs d id p i off)
      | none => none
    | none => none
  | _ => none
def mkAgg (agg : Bool) (xs : List SV) : Option A1 :=
  if agg then some (.agg xs) else match xs with
    | [x] => some (.s x)
    | _ => none

/-! ### Taking -/
/-- A slot's content, taken out of the frame for good. -/
def take (rt : Rts) : SV → Option (Ow × C × Rts)
  | .c c => some (.imm, c, rt)
  | .nil k => some (.deep, k.empty, rt)
  | .ref id [] off len =>
    match rt id with
    | some (.arr d _ c) =>
      match c.shape with
      | some (_, _, tot) => if off = 0 ∧ len ≤ tot then some (if d then .deep else .top, c.sub 0 len, upd rt id .gone) else none
      | none => none
    | _ => none
  | .ref id (x :: p) off len =>
    match rt id with
    | some (.arr true false c) =>
      match c.get (x :: p) with
      | some c' =>
        match c'.shape with
        | some (_, _, tot) => if off = 0 ∧ len ≤ tot then some (.deep, c'.sub 0 len, upd rt id (.arr true false (c.set (x :: p) .hole))) else none
        | none => none
      | none => none
    | _ => none
  | _ => none
def takes (rt : Rts) : List SV → Option (List (Ow × C) × Rts)
  | [] => some ([], rt)
  | x :: xs =>
    match take rt x with
    | some (o, c, rt1) =>
      match takes rt1 xs with
      | some (l, rt2) => some ((o, c) :: l, rt2)
      | none => none
    | none => none
def take1 (rt : Rts) : A1 → Option (RV × Rts)
  | .s x =>
    match take rt x with
    | some (o, c, rt1) => some (.s (.mk o c), rt1)
    | none => none
  | .agg xs =>
    match takes rt xs with
    | some (l, rt1) => some (.agg (l.map (fun q => .mk q.1 q.2)), rt1)
    | none => none
  | .fn _ _ => none
/-- May it lie in a row all of which is owned? -/
def okDeep (q : Ow × C) : Bool := q.2.isVal || q.1 = .deep
def vals : List C → Option (List Value)
  | [] => some []
  | .val v :: cs =>
    match vals cs with
    | some vs => some (v :: vs)
    | none => none
  | _ :: _ => none

/-! ### Operations on scalars -/
def binS : BinOp → Value → Value → Option Value
  | .shl, .int k a, .int _ b => if b < 0 then none else some (.int k (k.wrap (a * 2 ^ (min b.toNat k.bits))))
  | .shr, .int k a, .int _ b => if b < 0 then none else some (.int k (a.fdiv (2 ^ (min b.toNat k.bits))))
  | .add, .int k a, .int k' b => if k = k' then some (.int k (k.wrap (a + b))) else none
  | .sub, .int k a, .int k' b => if k = k' then some (.int k (k.wrap (a - b))) else none
  | .mul, .int k a, .int k' b => if k = k' then some (.int k (k.wrap (a * b))) else none
  | .quo, .int k a, .int k' b => if k = k' ∧ b ≠ 0 then some (.int k (k.wrap (a.tdiv b))) else none
  | .rem, .int k a, .int k' b => if k = k' ∧ b ≠ 0 then some (.int k (a.tmod b)) else none
  | .and, .int k a, .int k' b => if k = k' then some (.int k (k.wrap ((BitVec.ofInt k.bits a &&& BitVec.ofInt k.bits b).toNat : Int))) else none
  | .or, .int k a, .int k' b => if k = k' then some (.int k (k.wrap ((BitVec.ofInt k.bits a ||| BitVec.ofInt k.bits b).toNat : Int))) else none
  | .xor, .int k a, .int k' b => if k = k' then some (.int k (k.wrap ((BitVec.ofInt k.bits a ^^^ BitVec.ofInt k.bits b).toNat : Int))) else none
  | .andNot, .int k a, .int k' b => if k = k' then some (.int k (k.wrap ((BitVec.ofInt k.bits a &&& ~~~BitVec.ofInt k.bits b).toNat : Int))) else none
  | .eql, .int k a, .int k' b => if k = k' then some (.bool (a == b)) else none
  | .neq, .int k a, .int k' b => if k = k' then some (.bool (a != b)) else none
  | .lss, .int k a, .int k' b => if k = k' then some (.bool (decide (a < b))) else none
  | .leq, .int k a, .int k' b => if k = k' then some (.bool (decide (a ≤ b))) else none
  | .gtr, .int k a, .int k' b => if k = k' then some (.bool (decide (a > b))) else none
  | .geq, .int k a, .int k' b => if k = k' then some (.bool (decide (a ≥ b))) else none
  | .add, .string a, .string b => if a.size + b.size ≤ 9223372036854775807 then some (.string (a ++ b)) else none
  | .eql, .string a, .string b => some (.bool (a.toList == b.toList))
  | .neq, .string a, .string b => some (.bool (!(a.toList == b.toList)))
  | .lss, .string a, .string b => some (.bool (Op.bytesLess a.toList b.toList))
  | .leq, .string a, .string b => some (.bool (Op.bytesLess a.toList b.toList || a.toList == b.toList))
  | .gtr, .string a, .string b => some (.bool (!(Op.bytesLess a.toList b.toList || a.toList == b.toList)))
  | .geq, .string a, .string b => some (.bool (!(Op.bytesLess a.toList b.toList)))
  | _, _, _ => none
def unS : UnOp → Value → Option Value
  | .neg, .int k n => some (.int k (k.wrap (0 - n)))
  | .not, .bool b => some (.bool !b)
  | _, _ => none
def eqCell : Nat → Value → Value → Option Bool
  | 0, .int k a, .int k' b => if k = k' then some (a == b) else none
  | 1, .bool a, .bool b => some (a == b)
  | 2, .string a, .string b => some (a.toList == b.toList)
  | _, _, _ => none
def eqCells : List Nat → List SV → List SV → Option Bool
  | [], [], [] => some true
  | k :: ks, .c (.val x) :: xs, .c (.val y) :: ys =>
    match eqCell k x y, eqCells ks xs ys with
    | some a, some b => some (a && b)
    | _, _ => none
  | _, _, _ => none
def mmS (mx : Bool) : Value → List Value → Option Value
  | v, [] => some v
  | .int k x, .int k' y :: r => if k = k' then mmS mx (.int k (if mx then (if y > x then y else x) else (if y < x then y else x))) r else none
  | _, _ => none

/-! ### Operations -/
def setSeg {α : Type} (l : List α) (off : Nat) (xs : List α) : Option (List α) :=
  if off + xs.length ≤ l.length then some (l.take off ++ xs ++ l.drop (off + xs.length)) else none
/-- What a row's element becomes. -/
def C.setElem (c : C) (i off : Nat) (xs : List C) : Option C :=
  match c with
  | .fl sz es sp =>
    match es[i]?, vals xs with
    | some e, some vs => (setSeg e off vs).map (fun e' => .fl sz (es.set i e') sp)
    | _, _ => none
  | .sl sz es sp =>
    match es[i]? with
    | some e => (setSeg e off xs).map (fun e' => .sl sz (es.set i e') sp)
    | none => none
  | _ => none
def store (rt : Rts) (xs : List SV) : SV → Option Rts
  | .pb id off =>
    match rt id with
    | some (.box ys) =>
      match setSeg ys off xs with
      | some zs => if xs.all (fun x => x.ids.all (fun i => (rt i).isSome)) then some (upd rt id (.box zs)) else none
      | none => none
    | _ => none
  | .pe id p i off =>
    match takes rt xs with
    | some (l, rt1) =>
      match rt1 id with
      | some (.arr d t c) =>
        if (d = false ∨ l.all okDeep = true) ∧ (p = [] ∨ (t = false ∧ d = true)) then
          match c.get p with
          | some c' =>
            match c'.setElem i off (l.map (·.2)) with
            | some c2 => some (upd rt1 id (.arr d (t || !c.flat) (c.set p c2)))
            | none => none
          | none => none
        else none
      | _ => none
    | none => none
  | _ => none
/-- A slice as a list of elements, taken out of the frame: how owned, and of what kind. -/
def takeSl (rt : Rts) (x : SV) : Option (Ow × C × Rts) :=
  match take rt x with
  | some (o, .fl sz es sp, rt1) => some (o, .fl sz es sp, rt1)
  | some (o, .sl sz es sp, rt1) => some (o, .sl sz es sp, rt1)
  | _ => none
/-- What is appended: read, if it is flat, else taken. -/
def source (rt : Rts) (k : K) (y : SV) : Option (Bool × C × Rts) :=
  match k with
  | .fl sz =>
    match cont rt y with
    | some (.fl sz' es _) => if sz' = sz then some (true, .fl sz es [], rt) else none
    | _ => none
  | .sl sz =>
    match takeSl rt y with
    | some (o, .sl sz' es _, rt1) => if sz' = sz then some (decide (o = .deep) || es.isEmpty, .sl sz es [], rt1) else none
    | _ => none
def append (rt : Rts) (id : Nat) (k : K) (bytes : Nat) (x y : SV) : Option (SV × Rts) :=
  match source rt k y with
  | some (dy, cy, rt1) =>
    match takeSl rt1 x with
    | some (ox, cx, rt2) =>
      match k, cx, cy with
      | .fl sz, .fl sz' es _, .fl _ ys _ =>
        if ox ≠ .imm ∧ sz' = sz ∧ (es.length + ys.length) * bytes ≤ 140737488355328 ∧ es.length + ys.length ≤ 9223372036854775807 then
          (newRt rt2 id (.arr true false (.fl sz (es ++ ys) []))).map (fun rt3 => (.ref id [] 0 (es.length + ys.length), rt3))
        else none
      | .sl sz, .sl sz' es _, .sl _ ys _ =>
        if ox ≠ .imm ∧ sz' = sz ∧ (es.length + ys.length) * bytes ≤ 140737488355328 ∧ es.length + ys.length ≤ 9223372036854775807 then
          (newRt rt2 id (.arr (decide (ox = .deep) && dy) false (.sl sz (es ++ ys) []))).map (fun rt3 => (.ref id [] 0 (es.length + ys.length), rt3))
        else none
      | _, _, _ => none
    | none => none
  | none => none
def bsEs (k : K) (l : List (List (Ow × C))) : Option (Bool × C) :=
  match k with
  | .fl sz => if l.all (fun e => e.length == sz) then (mapO (fun e => vals (e.map (·.2))) l).map (fun es => (true, .fl sz es [])) else none
  | .sl sz => if l.all (fun e => e.length == sz) then some (l.all (·.all okDeep), .sl sz (l.map (·.map (·.2))) []) else none
def takesL (rt : Rts) : List (List SV) → Option (List (List (Ow × C)) × Rts)
  | [] => some ([], rt)
  | x :: xs =>
    match takes rt x with
    | some (l, rt1) =>
      match takesL rt1 xs with
      | some (ls, rt2) => some (l :: ls, rt2)
      | none => none
    | none => none
def fillC (cells : List SV) : List (Nat × Nat × List SV) → Option (List SV)
  | [] => some cells
  | (off, size, xs) :: r =>
    if xs.length = size then
      match setSeg cells off xs with
      | some cs => fillC cs r
      | none => none
    else none
def slice (rt : Rts) (sz : Nat) (x : SV) (lo hi : Option Int) : Option SV :=
  match x with
  | .c (.fl sz' es sp) =>
    if sz' = sz ∧ 0 ≤ lo.getD 0 ∧ lo.getD 0 ≤ hi.getD es.length ∧ hi.getD es.length ≤ ((es.length + sp.length : Nat) : Int) then
      some (.c ((C.fl sz es sp).sub (lo.getD 0).toNat ((hi.getD es.length).toNat - (lo.getD 0).toNat))) else none
  | .c (.sl sz' es sp) =>
    if sz' = sz ∧ 0 ≤ lo.getD 0 ∧ lo.getD 0 ≤ hi.getD es.length ∧ hi.getD es.length ≤ ((es.length + sp.length : Nat) : Int) then
      some (.c ((C.sl sz es sp).sub (lo.getD 0).toNat ((hi.getD es.length).toNat - (lo.getD 0).toNat))) else none
  | .nil k => if hi.getD 0 = 0 ∧ lo.getD 0 = 0 then some (.nil k) else none
  | .ref id p off len =>
    match rowAt rt id p with
    | some (_, c') =>
      match c'.shape with
      | some (sz', _, tot) =>
        if sz' = sz ∧ 0 ≤ lo.getD 0 ∧ lo.getD 0 ≤ hi.getD len ∧ (off : Int) + hi.getD len ≤ tot then some (.ref id p (off + (lo.getD 0).toNat) ((hi.getD len).toNat - (lo.getD 0).toNat)) else none
      | none => none
    | none => none
  | _ => none
def index (rt : Rts) (sz : Nat) (x : SV) (i : Int) : Option SV :=
  match x with
  | .c c =>
    match c.shape with
    | some (sz', n, _) => if sz' = sz ∧ 0 ≤ i ∧ i < n then (c.elem i.toNat).map (fun e => .pm e 0) else none
    | none => none
  | .ref id p off len =>
    match rowAt rt id p with
    | some (_, c') =>
      match c'.shape with
      | some (sz', n, _) => if sz' = sz ∧ 0 ≤ i ∧ i < len ∧ off + len ≤ n then some (.pe id p (off + i.toNat) 0) else none
      | none => none
    | none => none
  | _ => none
def SV.addOff (n : Nat) : SV → Option SV
  | .pb id off => some (.pb id (off + n))
  | .pe id p i off => some (.pe id p i (off + n))
  | .pm cs off => some (.pm cs (off + n))
  | _ => none
def SV.lenOf (str : Bool) : SV → Option Nat
  | .c (.val (.string s)) => if str then some s.size else none
  | .c (.fl _ es _) => if str then none else some es.length
  | .c (.sl _ es _) => if str then none else some es.length
  | .nil _ => if str then none else some 0
  | .ref _ _ _ len => if str then none else some len
  | _ => none
def SV.isPtr : SV → Bool
  | .pb _ _ => true
  | .pe _ _ _ _ => true
  | .pm _ _ => true
  | _ => false

/-! ### Calls -/
/-- An argument: what is handed over, and where what is written comes back to. -/
def argOf (ev : Ev) (rt : Rts) (q : Bool × Opd) : Option (Arg × Option (Nat × Path)) :=
  match ev q.2 with
  | some a =>
    if q.1 then
      match a with
      | .s (.ref id p off len) =>
        match rowAt rt id p with
        | some (d, c') =>
          match c'.shape with
          | some (_, _, tot) => if off = 0 ∧ len ≤ tot ∧ (p = [] ∨ d = true) then some (.arr d c'.all len, some (id, p)) else none
          | none => none
        | none => none
      | .s (.pb id off) =>
        match rt id with
        | some (.box xs) => if off = 0 ∧ xs.all (fun x => x.ids.isEmpty) then some (.box xs, some (id, [])) else none
        | _ => none
      | _ => none
    else (snap1 rt a).map (fun a => (.imm a, none))
  | none => none
/-- Is id met from an argument? -/
def argHas (ev : Ev) (rt : Rts) (id : Nat) (q : Bool × Opd) : Bool :=
  match ev q.2 with
  | some a => a.ids.any (fun i => i == id || match rt i with | some r => r.ids.contains id | none => false)
  | none => true
/-- No argument meets what another one is handed over to be written. -/
def apartB (ev : Ev) (rt : Rts) : List (Bool × Opd) → List (Option (Nat × Path)) → Bool
  | q :: qs, some (id, _) :: ls => qs.all (fun q => !argHas ev rt id q) && ls.all (fun l => match l with | some (id, _) => !argHas ev rt id q | none => true) && apartB ev rt qs ls
  | q :: qs, none :: ls => ls.all (fun l => match l with | some (id, _) => !argHas ev rt id q | none => true) && apartB ev rt qs ls
  | _, _ => true
def back (rt : Rts) : List (Option (Nat × Path)) → List (Option Root) → Option Rts
  | [], [] => some rt
  | none :: ls, ms => back rt ls ms
  | some (id, p) :: ls, m :: ms =>
    match rt id, m with
    | some (.arr d t c), some (.arr d' _ c2) =>
      if d' = d ∧ (p = [] ∨ (t = false ∧ d = true)) then
        match c.get p with
        | some c' =>
          match c'.shape, c2.shape with
          | some (sz, n, _), some (sz2, _, tot2) => if sz = sz2 ∧ n ≤ tot2 then back (upd rt id (.arr d true (c.set p (c2.sub 0 n)))) ls ms else none
          | _, _ => none
        | none => none
      else none
    | some (.arr d t c), none =>
      match p with
      | [] => back (upd rt id .gone) ls ms
      | x :: p => if t = false ∧ d = true then back (upd rt id (.arr d true (c.set (x :: p) .hole))) ls ms else none
    | some (.box _), some (.box xs) => if xs.all (fun x => x.ids.isEmpty) then back (upd rt id (.box xs)) ls ms else none
    | _, _ => none
  | _, _ => none
def cellRes (rt : Rts) (id : Nat) : RC → Option (SV × Rts)
  | .mk .imm c => some (.c c, rt)
  | .mk o (.val v) => some (.c (.val v), rt)
  | .mk o c =>
    match c.shape with
    | some (_, n, _) => (newRt rt id (.arr (decide (o = .deep)) false c.all)).map (fun rt => (.ref id [] 0 n, rt))
    | none => none
def cellsRes (rt : Rts) (id : Nat) : List RC → Option (List SV × Rts)
  | [] => some ([], rt)
  | r :: rs =>
    match cellRes rt id r with
    | some (x, rt1) =>
      match cellsRes rt1 (id + 1) rs with
      | some (xs, rt2) => some (x :: xs, rt2)
      | none => none
    | none => none
def RV.n : RV → Nat
  | .s _ => 1
  | .agg xs => xs.length
def valRes (rt : Rts) (id : Nat) : RV → Option (A1 × Rts)
  | .s x => (cellRes rt id x).map (fun q => (.s q.1, q.2))
  | .agg xs => (cellsRes rt id xs).map (fun q => (.agg q.1, q.2))
def valsRes (rt : Rts) (id : Nat) : List RV → Option (List A1 × Rts)
  | [] => some ([], rt)
  | r :: rs =>
    match valRes rt id r with
    | some (x, rt1) =>
      match valsRes rt1 (id + r.n) rs with
      | some (xs, rt2) => some (x :: xs, rt2)
      | none => none
    | none => none
def RC.free : RC → Bool
  | .mk o c => c.isVal || decide (o = .deep)
def RV.free : RV → Bool
  | .s x => x.free
  | .agg xs => xs.all (·.free)
def SV.isVal : SV → Bool
  | .c d => d.isVal
  | _ => false
/-- Does what comes back lead to nothing that was only handed for reading? -/
def mfree : Option Root → Bool
  | some (.arr d _ c) => d || c.flat
  | some (.box xs) => xs.all (·.isVal)
  | _ => true
def retAV : List A1 → AV
  | [a] => .v a
  | as => .tup as
def callR (call : Nat → List Arg → Option Res) (ev : Ev) (rt : Rts) (dst : Nat) (f : Nat) (qs : List (Bool × Opd)) : Option (AV × Rts) :=
  match mapO (argOf ev rt) qs with
  | some l =>
    match call f (l.map (·.1)) with
    | some r =>
      if decide (qs.length ≤ 999) && decide ((r.rs.map (·.n)).sum ≤ 64) && apartB ev rt qs (l.map (·.2)) && (r.rs.all (·.free) && r.ms.all mfree || qs.all (fun q => q.1 || match ev q.2 with | some a => a.ids.isEmpty | none => false)) then
        match back rt (l.map (·.2)) r.ms with
        | some rt1 => (valsRes rt1 (nid dst) r.rs).map (fun q => (retAV q.1, q.2))
        | none => none
      else none
    | none => none
  | none => none
/-- Which of a function's arguments are told cell by cell, and how many cells each has: written into its number. -/
def shapeDig : Nat → Nat → List Nat
  | 0, _ => []
  | k + 1, n => if n = 0 then [] else (n % 16) :: shapeDig k (n / 16)
def shapeOf (f : Nat) : List Nat := shapeDig 8 (f / 5000)
def SV.isRef : SV → Bool
  | .ref _ _ _ _ => true
  | _ => false
/-- Arguments, cell by cell where the shape says so. -/
def flatQ (ev : Ev) : List Nat → List (Bool × Opd) → Option (List (Bool × Opd))
  | [], qs => some qs
  | _ :: _, [] => none
  | n :: g, q :: qs =>
    if n = 0 then (flatQ ev g qs).map (fun l => q :: l)
    else
      match ev q.2 with
      | some (.agg xs) => if xs.length = n then (flatQ ev g qs).map (fun l => xs.map (fun x => (q.1 && x.isRef, .k (.s x))) ++ l) else none
      | _ => none
def callvR (call : Nat → List Arg → Option Res) (ev : Ev) (rt : Rts) (dst : Nat) (g : Nat) (caps : List SV) (qs : List (Bool × Opd)) : Option (AV × Rts) :=
  match flatQ ev (shapeOf g) qs with
  | some l => if caps.isEmpty || (shapeOf g).isEmpty then callR call (fun o => match o with | .k a => some a | .t n => ev (.t n)) rt dst g (l ++ caps.map (fun c => (false, .k (.s c)))) else none
  | none => none
/-- What one operation gives: its value, and what is owned behind it. -/
def act (call : Nat → List Arg → Option Res) (ev : Ev) (tp : Nat → Option (List A1)) (rt : Rts) (dst : Nat) : PO → Option (AV × Rts)
  | .mv x => (ev x).map (fun a => (.v a, rt))
  | .mvt t => (tp t).map (fun as => (.tup as, rt))
  | .mkn k => (newRt rt (nid dst) (.arr true false k.empty)).map (fun rt => (.sv (.ref (nid dst) [] 0 0), rt))
  | .pick c a b =>
    match evV ev c with
    | some (.bool t) => (if t then ev a else ev b).map (fun a => (.v a, rt))
    | _ => none
  | .box x =>
    match evC ev x with
    | some xs => (newRt rt (nid dst) (.box xs)).map (fun rt => (.sv (.pb (nid dst) 0), rt))
    | none => none
  | .alloc z => (newRt rt (nid dst) (.box z)).map (fun rt => (.sv (.pb (nid dst) 0), rt))
  | .build z parts =>
    match mapO (fun q => (evC ev q.2.2).map (fun xs => (q.1, q.2.1, xs))) parts with
    | some l => (fillC z l).map (fun xs => (.v (.agg xs), rt))
    | none => none
  | .bs k parts =>
    match mapO (evC ev) parts with
    | some l =>
      match takesL rt l with
      | some (es, rt1) =>
        match bsEs k es with
        | some (d, c) => (newRt rt1 (nid dst) (.arr d false c)).map (fun rt => (.sv (.ref (nid dst) [] 0 parts.length), rt))
        | none => none
      | none => none
    | none => none
  | .ld agg n a =>
    match evS ev a with
    | some p =>
      match load rt n p with
      | some xs => (mkAgg agg xs).map (fun a => (.v a, rt))
      | none => none
    | none => none
  | .st n a x =>
    match evS ev a, evC ev x with
    | some p, some xs => if xs.length = n then (store rt xs p).map (fun rt => (.undef, rt)) else none
    | _, _ => none
  | .nchk x =>
    match evS ev x with
    | some p => if p.isPtr then some (.sv p, rt) else none
    | none => none
  | .bin op x y =>
    match evV ev x, evV ev y with
    | some a, some b => (binS op a b).map (fun v => (.sv (.v v), rt))
    | _, _ => none
  | .eqb neg x y =>
    match evV ev x, evV ev y with
    | some (.bool a), some (.bool b) => some (.sv (.v (.bool (if neg then !(a == b) else a == b))), rt)
    | _, _ => none
  | .eqs neg ks x y =>
    match ev x, ev y with
    | some (.agg xs), some (.agg ys) => (eqCells ks xs ys).map (fun b => (.sv (.v (.bool (if neg then !b else b))), rt))
    | _, _ => none
  | .un op x =>
    match evV ev x with
    | some a => (unS op a).map (fun v => (.sv (.v v), rt))
    | none => none
  | .conv k x => (evI ev x).map (fun n => (.sv (.v (.int k (k.wrap n))), rt))
  | .b2s x =>
    match evS ev x with
    | some y =>
      match cont rt y with
      | some (.fl 1 es _) => (mapO (fun e => match e with | [.int .u8 n] => some (UInt8.ofNat n.toNat) | _ => none) es).map (fun bs => (.sv (.v (.string ⟨bs.toArray⟩)), rt))
      | _ => none
    | none => none
  | .fa off x =>
    match evS ev x with
    | some p => (p.addOff off).map (fun p => (.sv p, rt))
    | none => none
  | .ia sz x i =>
    match evS ev x, evI ev i with
    | some x, some i => (index rt sz x i).map (fun p => (.sv p, rt))
    | _, _ => none
  | .iap len sz x i =>
    match evS ev x, evI ev i with
    | some x, some i => if 0 ≤ i ∧ i < len then (x.addOff (i.toNat * sz)).map (fun p => (.sv p, rt)) else none
    | _, _ => none
  | .ixs x i =>
    match evV ev x, evI ev i with
    | some (.string s), some i => if 0 ≤ i then (s[i.toNat]?).map (fun b => (.sv (.v (.int .u8 b.toNat)), rt)) else none
    | _, _ => none
  | .ixa agg len sz x i =>
    match ev x, evI ev i with
    | some (.agg xs), some i =>
      if 0 ≤ i ∧ i < len then
        match seg xs (i.toNat * sz) sz with
        | some ys => (mkAgg agg ys).map (fun a => (.v a, rt))
        | none => none
      else none
    | _, _ => none
  | .fld agg off n x =>
    match ev x with
    | some (.agg xs) =>
      match seg xs off n with
      | some ys => (mkAgg agg ys).map (fun a => (.v a, rt))
      | none => none
    | _ => none
  | .slc sz x lo hi =>
    match evS ev x, lo.elim (some none) (fun o => (evI ev o).map some), hi.elim (some none) (fun o => (evI ev o).map some) with
    | some x, some lo, some hi => (slice rt sz x lo hi).map (fun p => (.sv p, rt))
    | _, _, _ => none
  | .slcs x lo hi =>
    match evV ev x, lo.elim (some none) (fun o => (evI ev o).map some), hi.elim (some none) (fun o => (evI ev o).map some) with
    | some (.string s), some lo, some hi =>
      if 0 ≤ lo.getD 0 ∧ lo.getD 0 ≤ hi.getD s.size ∧ hi.getD s.size ≤ s.size then some (.sv (.v (.string (s.extract (lo.getD 0).toNat (hi.getD s.size).toNat))), rt) else none
    | _, _, _ => none
  | .ext t i =>
    match tp t with
    | some as => (as[i]?).map (fun a => (.v a, rt))
    | none => none
  | .len str x =>
    match evS ev x with
    | some x => (x.lenOf str).map (fun (n : Nat) => (.sv (.v (.int .i64 (n : Int))), rt))
    | none => none
  | .app k bytes x y =>
    match evS ev x, evS ev y with
    | some x, some y => (append rt (nid dst) k bytes x y).map (fun q => (.sv q.1, q.2))
    | _, _ => none
  | .mm mx xs =>
    match mapO (evV ev) xs with
    | some (v :: r) => (mmS mx v r).map (fun v => (.sv (.v v), rt))
    | _ => none
  | .call f qs => callR call ev rt dst f qs
  | .callv f qs =>
    match ev f with
    | some (.fn g caps) => callvR call ev rt dst g caps qs
    | _ => none
  | .mkf f caps => (mapO (evS ev) caps).map (fun cs => (.v (.fn f cs), rt))
  | .mks k bytes zero len cap =>
    match evI ev len, evI ev cap with
    | some l, some c =>
      if 0 ≤ l ∧ l ≤ c ∧ c * bytes ≤ 140737488355328 ∧ c ≤ 9223372036854775807 then
        match k with
        | .fl sz =>
          match vals zero with
          | some z => if z.length = sz then (newRt rt (nid dst) (.arr true false (.fl sz (List.replicate c.toNat z) []))).map (fun rt => (.sv (.ref (nid dst) [] 0 l.toNat), rt)) else none
          | none => none
        | .sl sz => if zero.length = sz then (newRt rt (nid dst) (.arr true false (.sl sz (List.replicate c.toNat zero) []))).map (fun rt => (.sv (.ref (nid dst) [] 0 l.toNat), rt)) else none
      else none
    | _, _ => none
def Fr.tup (fr : Fr) (t : Nat) : Option (List A1) :=
  match fr.sl t with
  | some (.tup as) => some as
  | _ => none
/-- The frame behind an operation. iso: what is owned is not looked at. -/
def Fr.out (fr : Fr) (t : Option Nat) (a : AV) : Fr :=
  match t with
  | some t => fr.set t a
  | none => fr
def Hide.hid : Hide → Nat → Bool
  | .no, _ => false
  | .all, _ => true
  | .ids sl l, i => l.contains i || sl.any (fun s => decide (nid s ≤ i) && decide (i < nid s + 64))
def mask (h : Hide) (rt : Rts) : Rts :=
  match h with
  | .no => rt
  | h => fun i => if h.hid i then none else rt i
def merge (h : Hide) (rt rt' : Rts) : Rts :=
  match h with
  | .no => rt'
  | h => fun i => if h.hid i then rt i else rt' i
def Fr.exec (call : Nat → List Arg → Option Res) (fr : Fr) (o : POp) : Option Fr :=
  match act call fr.ev fr.tup (mask o.hide fr.rt) (o.dst.getD 0) o.op with
  | some (a, rt') => if a.ids.all (fun i => (rt' i).isSome && !o.hide.hid i) then some ({ fr with rt := merge o.hide fr.rt rt' }.out o.dst a) else none
  | none => none
def Fr.step (call : Nat → List Arg → Option Res) (fr : Fr) (o : POp) : Option Fr :=
  match o.g with
  | none => fr.exec call o
  | some (s, want) =>
    match fr.sl s with
    | some (.v (.s (.c (.val (.bool b))))) => if b = want then fr.exec call o else some (fr.out o.dst .undef)
    | some .undef => some (fr.out o.dst .undef)
    | _ => none
def Fr.steps (call : Nat → List Arg → Option Res) (fr : Fr) : List POp → Option Fr
  | [] => some fr
  | o :: os =>
    match fr.step call o with
    | some fr1 => fr1.steps call os
    | none => none

/-! ### Regions in any order -/
def PO.quiet : PO → Bool
  | .mv _ | .mvt _ | .pick _ _ _ | .build _ _ | .ld _ _ _ | .nchk _ | .bin _ _ _ | .eqb _ _ _ | .eqs _ _ _ _ | .un _ _ | .conv _ _ | .b2s _ | .fa _ _ | .ia _ _ _ | .iap _ _ _ _ | .ixs _ _ | .ixa _ _ _ _ _ | .fld _ _ _ _ | .slc _ _ _ _ | .slcs _ _ _ | .ext _ _ | .len _ _ | .mm _ _ | .mkf _ _ => true
  | _ => false
def idsC (ev : Ev) (x : Opd) : List Nat :=
  match evC ev x with
  | some xs => xs.flatMap (·.ids)
  | none => []
def idsS (ev : Ev) (x : Opd) : List Nat :=
  match evS ev x with
  | some s => s.ids
  | none => []
def srcIds (k : K) (l : List Nat) : List Nat :=
  match k with
  | .fl _ => []
  | .sl _ => l
/-- What may be changed by an operation. -/
def touch (ev : Ev) : PO → List Nat
  | .st _ a x => idsS ev a ++ idsC ev x
  | .bs _ parts => parts.flatMap (idsC ev)
  | .app k _ x y => idsS ev x ++ srcIds k (idsS ev y)
  | .call _ qs => qs.flatMap (fun q => if q.1 then (match ev q.2 with | some a => a.ids | none => []) else [])
  | _ => []
def Fr.see (fr : Fr) (blind : List Nat) : Fr := { fr with sl := fun t => if blind.contains t then none else fr.sl t }
def Fr.execD (call : Nat → List Arg → Option Res) (fr : Fr) (o : POp) : Option Fr :=
  if o.op.quiet then
    match act call (fr.see o.blind).ev (fr.see o.blind).tup (mask o.hide fr.rt) (o.dst.getD 0) o.op with
    | some (a, _) => if a.ids.all (fun i => (fr.rt i).isSome) then some (fr.out o.dst a) else none
    | none => none
  else if (touch (fr.see o.blind).ev o.op).all (fun i => o.may.hid i) then
    match act call (fr.see o.blind).ev (fr.see o.blind).tup fr.rt (o.dst.getD 0) o.op with
    | some (a, rt) => if a.ids.all (fun i => (rt i).isSome) then some ({ fr with rt }.out o.dst a) else none
    | none => none
  else none
def Fr.stepD (call : Nat → List Arg → Option Res) (fr : Fr) (o : POp) : Option Fr :=
  match o.g with
  | none => fr.execD call o
  | some (s, want) =>
    match (fr.see o.blind).sl s with
    | some (.v (.s (.c (.val (.bool b))))) => if b = want then fr.execD call o else some (fr.out o.dst .undef)
    | some .undef => some (fr.out o.dst .undef)
    | _ => none
def Fr.stepsD (call : Nat → List Arg → Option Res) (fr : Fr) : List (Nat × POp) → Option Fr
  | [] => some fr
  | o :: os =>
    match fr.stepD call o.2 with
    | some fr1 => fr1.stepsD call os
    | none => none

/-! ### Code -/
def addIds (acc : List Nat) : List Nat → List Nat
  | [] => acc
  | i :: is => addIds (if acc.contains i then acc else acc ++ [i]) is
def idsOf (rt : Rts) (id : Nat) : List Nat :=
  match rt id with
  | some r => r.ids
  | none => []
def reach (rt : Rts) : Nat → List Nat → List Nat
  | 0, ids => ids
  | n + 1, ids => reach rt n (addIds ids (ids.flatMap (idsOf rt)))
/-- What leads nowhere any more is forgotten. -/
def SV.tidy (rt : Rts) : SV → SV
  | .ref id p off len =>
    match rt id with
    | some (.arr _ t _) => if p.isEmpty || !t then .ref id p off len else .c .hole
    | _ => .c .hole
  | .pe id p i off =>
    match rt id with
    | some (.arr _ t _) => if p.isEmpty || !t then .pe id p i off else .c .hole
    | _ => .c .hole
  | .pb id off =>
    match rt id with
    | some (.box _) => .pb id off
    | _ => .c .hole
  | x => x
def A1.tidy (rt : Rts) : A1 → A1
  | .s x => .s (x.tidy rt)
  | .agg xs => .agg (xs.map (·.tidy rt))
  | .fn f xs => .fn f (xs.map (·.tidy rt))
def AV.tidy (rt : Rts) : AV → AV
  | .v a => .v (a.tidy rt)
  | .tup as => .tup (as.map (·.tidy rt))
  | .undef => .undef
def Root.tidy (rt : Rts) : Root → Option Root
  | .arr d _ c => some (.arr d false c)
  | .box xs => some (.box (xs.map (·.tidy rt)))
  | .gone => none
/-- Only what is read later is kept. -/
def Fr.meets (fr : Fr) (live : List Nat) : List Nat := reach fr.rt 2 (addIds fr.ps (live.flatMap (fun s => match fr.sl s with | some a => a.ids | none => [])))
def cut (rt : Rts) (m : List Nat) : Rts := fun i => if m.contains i then rt i else none
def Fr.keep (fr : Fr) (live : List Nat) : Fr :=
  let m := fr.meets live
  let rt := cut fr.rt m
  { fr with
    sl := asl (live.filterMap (fun s => (fr.sl s).map (fun a => (s, a.tidy rt)))),
    rt := asl (m.filterMap (fun i => ((rt i).bind (·.tidy rt)).map (fun r => (i, r)))) }
def renId (m : List Nat) (id : Nat) : Option Nat :=
  match m.idxOf? id with
  | some k => some (if id < 64000 then id else 1000000 + k)
  | none => none
def SV.ren (m : List Nat) : SV → SV
  | .ref id p off len => match renId m id with | some i => .ref i p off len | none => .c .hole
  | .pb id off => match renId m id with | some i => .pb i off | none => .c .hole
  | .pe id p k off => match renId m id with | some i => .pe i p k off | none => .c .hole
  | x => x
def A1.ren (m : List Nat) : A1 → A1
  | .s x => .s (x.ren m)
  | .agg xs => .agg (xs.map (·.ren m))
  | .fn f xs => .fn f (xs.map (·.ren m))
def AV.ren (m : List Nat) : AV → AV
  | .v a => .v (a.ren m)
  | .tup as => .tup (as.map (·.ren m))
  | .undef => .undef
def Root.ren (m : List Nat) : Root → Root
  | .box xs => .box (xs.map (·.ren m))
  | r => r
/-- A loop's head: only what is read later is kept; what is owned is numbered anew. -/
def Fr.canon (fr : Fr) (live : List Nat) : Fr :=
  let m := fr.meets live
  let rt := cut fr.rt m
  { fr with
    sl := asl (live.filterMap (fun s => (fr.sl s).map (fun a => (s, (a.tidy rt).ren m)))),
    rt := asl (m.filterMap (fun i => ((rt i).bind (·.tidy rt)).map (fun r => ((renId m i).getD 0, r.ren m)))) }
inductive Ex where
  | normal
  | exit (id : Nat)
  | ret
  deriving Inhabited
def iter (f : Fr → Option (Ex × Fr)) : Nat → Fr → Option (Ex × Fr)
  | 0, _ => none
  | n + 1, fr =>
    match f fr with
    | some (.normal, fr') => iter f n fr'
    | r => r
def runC (call : Nat → List Arg → Option Res) (n : Nat) : PC → Fr → Option (Ex × Fr)
  | .skip, fr => some (.normal, fr)
  | .ops l keep, fr => (fr.steps call l).map (fun fr => (.normal, fr.keep keep))
  | .dops l keep, fr => (fr.stepsD call l).map (fun fr => (.normal, fr.keep keep))
  | .seq a b, fr =>
    match runC call n a fr with
    | some (.normal, fr') => runC call n b fr'
    | r => r
  | .cond c a b, fr =>
    match evV fr.ev c with
    | some (.bool t) => if t then runC call n a fr else runC call n b fr
    | _ => none
  | .block id c, fr =>
    match runC call n c fr with
    | some (.exit i, fr') => if i = id then some (.normal, fr') else some (.exit i, fr')
    | r => r
  | .loop live c, fr => iter (fun fr => runC call n c (fr.canon live)) n fr
  | .exit id, fr => some (.exit id, fr)
  | .ret, fr => some (.ret, fr)
def initArg (i : Nat) : Arg → A1 × Option Root
  | .imm a => (a, none)
  | .arr d c len => (.s (.ref (i * 64) [] 0 len), some (.arr d false c))
  | .box xs => (.s (.pb (i * 64) 0), some (.box xs))
def initSl : Nat → List Arg → List (Nat × AV)
  | _, [] => []
  | i, a :: as => (i, .v (initArg i a).1) :: initSl (i + 1) as
def initRt : Nat → List Arg → List (Nat × Root)
  | _, [] => []
  | i, a :: as =>
    match (initArg i a).2 with
    | some r => (i * 64, r) :: initRt (i + 1) as
    | none => initRt (i + 1) as
def initFr (args : List Arg) : Fr := { sl := asl (initSl 0 args), rt := asl (initRt 0 args), ps := (initRt 0 args).map (·.1) }
def resAt (sl : Nat → Option AV) (rt : Rts) : PR → Option A1
  | .t t =>
    match sl t with
    | some (.v a) => some a
    | _ => none
  | .cell t agg n =>
    match sl t with
    | some (.v (.s (.pb id off))) =>
      match load rt n (.pb id off) with
      | some xs => mkAgg agg xs
      | none => none
    | _ => none
def takesR (rt : Rts) : List A1 → Option (List RV × Rts)
  | [] => some ([], rt)
  | a :: as =>
    match take1 rt a with
    | some (r, rt1) =>
      match takesR rt1 as with
      | some (rs, rt2) => some (r :: rs, rt2)
      | none => none
    | none => none
def Root.fin : Option Root → Option Root
  | some .gone => none
  | r => r
def finish (pf : PFunc) (fr : Fr) : Option Res :=
  match mapO (resAt fr.sl fr.rt) pf.results with
  | some as =>
    match takesR fr.rt as with
    | some (rs, rt1) => if fr.ps.all (fun i => match rt1 i with | some r => r.ids.isEmpty | none => true) then some { rs, ms := fr.ps.map (fun i => Root.fin (rt1 i)) } else none
    | none => none
  | none => none
def runF (call : Nat → List Arg → Option Res) (n : Nat) (pf : PFunc) (args : List Arg) : Option Res :=
  if args.length = pf.np then
    match runC call n pf.body (initFr args) with
    | some (.normal, fr) => finish pf fr
    | some (.ret, fr) => finish pf fr
    | _ => none
  else none
def svOf : A1 → Option SV
  | .s x => some x
  | _ => none
def initA : Nat → List Arg → List A1
  | _, [] => []
  | i, a :: as => (initArg i a).1 :: initA (i + 1) as
/-- Arguments that are told cell by cell, put together. -/
def grpA : List Nat → List A1 → Option (List A1)
  | [], as => some as
  | n :: g, as =>
    if n = 0 then
      match as with
      | a :: as => (grpA g as).map (fun l => a :: l)
      | [] => none
    else if n ≤ as.length then
      match mapO svOf (as.take n) with
      | some xs => (grpA g (as.drop n)).map (fun l => .agg xs :: l)
      | none => none
    else none
def numA : Nat → List A1 → List (Nat × AV)
  | _, [] => []
  | i, a :: as => (i, .v a) :: numA (i + 1) as
def initFrG (args : List Arg) (as : List A1) : Fr := { sl := asl (numA 0 as), rt := asl (initRt 0 args), ps := (initRt 0 args).map (·.1) }
def runG (call : Nat → List Arg → Option Res) (n : Nat) (g : List Nat) (pf : PFunc) (args : List Arg) : Option Res :=
  match grpA g (initA 0 args) with
  | some as =>
    if as.length = pf.np then
      match runC call n pf.body (initFrG args as) with
      | some (.normal, fr) => finish pf fr
      | some (.ret, fr) => finish pf fr
      | _ => none
    else none
  | none => none
/-- The program: a function's code, or what a function that is proved by hand gives. -/
structure PP where
  code : Nat → Option PFunc
  hand : Nat → List Arg → Option Res
def den (pp : PP) : Nat → Nat → List Arg → Option Res
  | 0, _, _ => none
  | n + 1, f, args =>
    match pp.code f with
    | some pf => if (shapeOf f).isEmpty then runF (den pp n) n pf args else runG (den pp n) n (shapeOf f) pf args
    | none => pp.hand f args

end Go.Proofs.YtecmolmlojehgaaGreat.T
