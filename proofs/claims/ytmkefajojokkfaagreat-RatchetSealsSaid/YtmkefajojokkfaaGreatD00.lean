/- RatchetSeals: part 1 of 50 of its proof. -/
import Derived.Orders
import Derived.ScopeJumps
import Derived.LoopN
import Derived.Laws.AppendOwn
import Derived.Below
set_option linter.unusedVariables false
set_option linter.unusedSimpArgs false
namespace Go.Am
inductive AV where
  | undef
  | bool (b : Bool)
  | int (k : IntKind) (n : Int)
  | str (s : ByteArray)
  | nilp
  | ptr (id r e o j : Nat)
  | nils
  | slice (id o j len e : Nat) (cap : Option Nat)
  | nilf
  | func (f : FuncId) (first caps : List AV)
  | win (id o j : Nat)
  | ints (k : IntKind) (n : Nat) (xs : List Int)
  | agg (segs : List AV)
  | tuple (vs : List AV)

  | isl (k : IntKind) (xs : List Int)
  | islR (e : Nat) (xs : List (List AV))
  | emp
  | nne
  | fptr (l : List AV) (o j : Nat)
  deriving Inhabited
def segN : AV → Nat
  | .ints _ n _ => n
  | _ => 1
def segC : AV → List AV
  | .ints k _ xs => xs.map (.int k)
  | v => [v]
def cellsL (l : List AV) : List AV := l.flatMap segC
def sizeL : List AV → Nat
  | [] => 0
  | s :: r => segN s + sizeL r
def SegWf : AV → Prop
  | .ints _ n xs => xs.length = n
  | .agg _ => False
  | .tuple _ => False
  | .undef => False
  | .func .. => False
  | _ => True
def segOk : AV → Bool
  | .agg _ => false
  | .tuple _ => false
  | .undef => false
  | .func .. => false
  | _ => true
def oneCell : AV → Bool
  | .agg _ => false
  | .tuple _ => false
  | .undef => false
  | .ints .. => false
  | .func .. => false
  | _ => true
def valOk : AV → Bool
  | .undef => false
  | .func .. => false
  | .tuple _ => false
  | .ints .. => false
  | _ => true
def SegsWf (l : List AV) : Prop := ∀ s ∈ l, SegWf s
def segsOf : AV → List AV
  | .agg l => l
  | v => [v]
inductive Blk where
  | segs (l : List AV)
  | rows (e n : Nat) (xs : List (List AV))

  | iter (s : ByteArray) (pos : Nat)
  deriving Inhabited
def Blk.cells : Blk → List AV
  | .segs l => cellsL l
  | .rows _ _ xs => xs.flatMap cellsL
  | .iter .. => [.undef]
def noId : AV → Bool
  | .bool _ | .int .. | .str _ | .nilp | .nils | .nilf | .ints .. | .isl .. | .islR .. | .emp | .nne => true
  | _ => false
def noIds (l : List AV) : Bool := l.all noId
def RowWf (e : Nat) (r : List AV) : Prop := SegsWf r ∧ (cellsL r).length = e ∧ noIds r = true
def Blk.Wf : Blk → Prop
  | .segs l => SegsWf l
  | .rows e n xs => xs.length = n ∧ ∀ r ∈ xs, RowWf e r
  | .iter .. => True
structure Cell where
  id : Nat
  ro : Bool
  blk : Blk
  deriving Inhabited
structure Heap where
  next : Nat
  blks : List Cell
  deriving Inhabited
def findB (id : Nat) : List Cell → Option Cell
  | [] => none
  | c :: r => if c.id = id then some c else findB id r
def Heap.get (h : Heap) (id : Nat) : Option Cell := findB id h.blks
def setB (id : Nat) (b : Blk) : List Cell → List Cell
  | [] => []
  | c :: r => if c.id = id then { c with blk := b } :: r else c :: setB id b r
def Heap.set (h : Heap) (id : Nat) (b : Blk) : Heap := { h with blks := setB id b h.blks }
def delB (id : Nat) : List Cell → List Cell
  | [] => []
  | c :: r => if c.id = id then delB id r else c :: delB id r
def Heap.del (h : Heap) (id : Nat) : Heap := { h with blks := delB id h.blks }
def insB (c : Cell) : List Cell → List Cell
  | [] => [c]
  | d :: r => if c.id < d.id then c :: d :: r else d :: insB c r
def Heap.new (h : Heap) (b : Blk) : Heap := { next := h.next + 1, blks := insB ⟨h.next, false, b⟩ h.blks }
def segAt : List AV → Nat → Option AV
  | [], _ => none
  | s :: r, o => if o = 0 then some s else if segN s ≤ o then segAt r (o - segN s) else none
def takeSegs : List AV → Nat → Option (List AV)
  | _, 0 => some []
  | [], _ + 1 => none
  | s :: r, n + 1 => if segN s ≤ n + 1 then (takeSegs r (n + 1 - segN s)).map (s :: ·) else none
def dropSegs : List AV → Nat → Option (List AV)
  | l, 0 => some l
  | [], _ + 1 => none
  | s :: r, n + 1 => if segN s ≤ n + 1 then dropSegs r (n + 1 - segN s) else none
def cutSegs (l : List AV) (o n : Nat) : Option (List AV) := (dropSegs l o).bind (takeSegs · n)
def putSegs (l : List AV) (o n : Nat) (v : List AV) : Option (List AV) :=
  (takeSegs l o).bind fun a => (dropSegs l (o + n)).bind fun b => some (a ++ v ++ b)
section cps
variable {β : Type}
def rdSegs (l : List AV) (o j : Nat) (κ : AV → Option β) : Option β :=
  match segAt l o with
  | some (.ints k _ xs) => (xs[j]?).bind fun x => κ (.int k x)
  | some v => if j = 0 then κ v else (match segAt l (o + j) with | some (.ints ..) => none | some u => κ u | none => none)
  | none => none
def rdCell (b : Blk) (r e o j : Nat) (κ : AV → Option β) : Option β :=
  match b with
  | .segs l => rdSegs l (r * e + o) j κ
  | .rows e' _ xs => if e = e' then (xs[r]?).bind fun l => rdSegs l o j κ else none
  | .iter .. => none
def rdAgg (b : Blk) (r e o n : Nat) (κ : AV → Option β) : Option β :=
  match b with
  | .segs l => (cutSegs l (r * e + o) n).bind fun s => κ (.agg s)
  | .rows e' _ xs => if e = e' then (xs[r]?).bind fun l => (cutSegs l o n).bind fun s => κ (.agg s) else none
  | .iter .. => none
def rdWin (b : Blk) (o j n : Nat) (κ : AV → Option β) : Option β :=
  match b with
  | .segs l => match segAt l o with
    | some (.ints k _ xs) => if j + n ≤ xs.length then κ (.agg [.ints k n ((xs.drop j).take n)]) else none
    | _ => none
  | _ => none
end cps
def repSeg : List AV → Nat → AV → Option (List AV)
  | [], _, _ => none
  | s :: r, o, v => if o = 0 then some (v :: r) else if segN s ≤ o then (repSeg r (o - segN s) v).map (s :: ·) else none
def putCell : List AV → Nat → AV → Option (List AV)
  | [], _, _ => none
  | .ints k n xs :: r, o, v =>
    if o < n then (match v with | .int k' x => if k' = k then some (.ints k n (xs.set o x) :: r) else none | _ => none)
    else (putCell r (o - n) v).map (.ints k n xs :: ·)
  | s :: r, o, v => if o = 0 then (if oneCell v then some (v :: r) else none) else (putCell r (o - 1) v).map (s :: ·)
section cps
variable {β : Type}
def wrSegs (l : List AV) (o j : Nat) (v : AV) (κ : List AV → Option β) : Option β :=
  match segAt l o with
  | some (.ints k n xs) =>
    match v with
    | .int k' x => if k' = k then (if j < n then (repSeg l o (.ints k n (xs.set j x))).bind κ else none) else none
    | _ => none
  | some _ => (putCell l (o + j) v).bind κ
  | none => none
def wrCell (b : Blk) (r e o j : Nat) (v : AV) (κ : Blk → Option β) : Option β :=
  match b with
  | .segs l => wrSegs l (r * e + o) j v fun l' => κ (.segs l')
  | .rows e' n xs => if e = e' ∧ noId v = true then (xs[r]?).bind fun l => wrSegs l o j v fun l' => κ (.rows e' n (xs.set r l')) else none
  | .iter .. => none
def wrAgg (b : Blk) (r e o n : Nat) (s : List AV) (κ : Blk → Option β) : Option β :=
  if s.all segOk && sizeL s == n then
    match b with
    | .segs l => (putSegs l (r * e + o) n s).bind fun l' => κ (.segs l')
    | .rows e' m xs => if e = e' ∧ noIds s = true then (xs[r]?).bind fun l => (putSegs l o n s).bind fun l' => κ (.rows e' m (xs.set r l')) else none
    | .iter .. => none
  else none
end cps
inductive Cont where
  | ints (k : IntKind) (xs : List Int)
  | rows (e : Nat) (xs : List (List AV))
def esz (e : Nat) : Nat := if e = 0 then 1 else e
def chop (l : List AV) (o e : Nat) : Nat → Option (List (List AV))
  | 0 => some []
  | n + 1 => (cutSegs l o e).bind fun s => if noIds s = true then (chop l (o + e) e n).map (s :: ·) else none
def slCont (h : Heap) : AV → Option Cont
  | .slice id o j len e _ =>
    match h.get id with
    | some ⟨_, _, .segs [.ints k _ xs]⟩ => if e = 0 ∧ o = 0 then some (.ints k ((xs.drop j).take len)) else none
    | some ⟨_, _, .segs l⟩ =>
      if e = 0 then (match segAt l o with | some (.ints k n xs) => if j + len ≤ n then some (.ints k ((xs.drop j).take len)) else none | _ => none) else (chop l (o + j * e) e len).map (.rows e)
    | some ⟨_, _, .rows e' _ xs⟩ => if e = e' ∧ o = 0 ∧ e ≠ 0 then some (.rows e ((xs.drop j).take len)) else none
    | some ⟨_, _, .iter ..⟩ => none
    | none => none
  | .nils => none
  | .isl k xs => some (.ints k xs)
  | .islR e xs => some (.rows e xs)
  | _ => none
def bytesOf (s : ByteArray) : List Int := s.data.toList.map fun b => (b.toNat : Int)
inductive Opd where
  | t (i : Nat)
  | c (v : AV)
def Opd.ev (t : List AV) : Opd → AV
  | .t i => t.getD i .undef
  | .c v => v
inductive EqK where
  | agg (ks : List Bool)
  | bool
  | ptr
  | slice
  | func
inductive AOp where
  | mov (x : Opd)
  | pick (c a b : Opd)
  | build (z : List AV) (parts : List (Nat × Nat × Opd))
  | nilChk (x : Opd)
  | bin (op : BinOp) (x y : Opd)
  | eqv (neg : Bool) (ek : EqK) (x y : Opd)
  | un (op : UnOp) (x : Opd)
  | toInt (k : IntKind) (x : Opd)
  | same (x : Opd)
  | slSlice (z : Nat) (x : Opd) (lo hi mx : Option Opd)
  | slArr (n e : Nat) (x : Opd) (lo hi mx : Option Opd)
  | slStr (x : Opd) (lo hi : Option Opd)
  | faddr (off : Nat) (x : Opd)
  | fld (agg : Bool) (off n : Nat) (x : Opd)
  | iaddrA (n e : Nat) (x i : Opd)
  | iaddrS (z : Nat) (x i : Opd)
  | idxA (agg : Bool) (n e : Nat) (x i : Opd)
  | idxS (x i : Opd)
  | ext (x : Opd) (i : Nat)
  | mkf (f : FuncId) (first caps : List Opd)
  | arrPtr (n : Nat) (x : Opd)
  | len (str : Bool) (x : Opd)
  | minI (x y : Opd)
  | alloc (z : List AV)
  | box (x : Opd)
  | bslice (z : List AV) (n e : Nat) (parts : List (Nat × Nat × Opd))
  | load (agg : Bool) (n : Nat) (x : Opd)
  | mksliceI (k : IntKind) (bytes : Nat) (l c : Opd)
  | mksliceR (e bytes : Nat) (z : List AV) (l c : Opd)
  | b2s (x : Opd)
  | s2b (x : Opd)
  | store (n : Nat) (x v : Opd)
  | appendI (k : IntKind) (bytes : Nat) (s x : Opd)
  | appendR (e bytes : Nat) (s x : Opd)
  | copyI (d s : Opd)
  | call (f : FuncId) (args : List Opd)
  | callV (f : Opd) (args : List Opd)
  | rangeS (x : Opd)
  | nextS (x : Opd)
structure AOper where
  dst : Option Nat
  op : AOp
  guard : Option (Nat × Bool)
  aft : List Nat
abbrev Res := AV × Heap
inductive Orc where
  | pure (f : Nat → List AV → Heap → Option (AV × Option Blk))
  | full (f : List AV → Heap → (AV → Heap → Option Res) → Option Res)
abbrev Env := FuncId → Option Orc
def bw (op : BinOp) (k : IntKind) (x y : Int) : Int :=
  let a := BitVec.ofInt k.bits x
  let b := BitVec.ofInt k.bits y
  match op with
  | .and => k.wrap (a &&& b).toNat
  | .or => k.wrap (a ||| b).toNat
  | .xor => k.wrap (a ^^^ b).toNat
  | _ => k.wrap (a &&& ~~~b).toNat
def kindsL : List AV → List Bool
  | [] => []
  | .ints _ n _ :: r => List.replicate n true ++ kindsL r
  | .int .. :: r => true :: kindsL r
  | _ :: r => false :: kindsL r
def eqSegs : List AV → List AV → Option Bool
  | [], [] => some true
  | .ints k n xs :: r, .ints k' n' ys :: r' => if k = k' ∧ n = n' then (eqSegs r r').map fun b => (xs == ys) && b else none
  | .int k x :: r, .int k' y :: r' => if k = k' then (eqSegs r r').map fun b => (x == y) && b else none
  | .bool x :: r, .bool y :: r' => (eqSegs r r').map fun b => (x == y) && b
  | _, _ => none
section P
variable {β : Type}
def intBin (op : BinOp) (k : IntKind) (a b : Int) (κ : AV → Option β) : Option β :=
  match op with
  | .add => κ (.int k (k.wrap (a + b)))
  | .sub => κ (.int k (k.wrap (a - b)))
  | .mul => κ (.int k (k.wrap (a * b)))
  | .quo => if b = 0 then none else κ (.int k (k.wrap (a.tdiv b)))
  | .rem => if b = 0 then none else κ (.int k (a.tmod b))
  | .and => κ (.int k (bw .and k a b))
  | .or => κ (.int k (bw .or k a b))
  | .xor => κ (.int k (bw .xor k a b))
  | .andNot => κ (.int k (bw .andNot k a b))
  | .eql => κ (.bool (a == b))
  | .neq => κ (.bool (a != b))
  | .lss => κ (.bool (decide (a < b)))
  | .leq => κ (.bool (decide (a ≤ b)))
  | .gtr => κ (.bool (decide (a > b)))
  | .geq => κ (.bool (decide (a ≥ b)))
  | _ => none
def strBin (op : BinOp) (x y : ByteArray) (κ : AV → Option β) : Option β :=
  match op with
  | .add => if ((x.size + y.size : Nat) : Int) > IntKind.i64.max then none else κ (.str (x ++ y))
  | .eql => κ (.bool (x.toList == y.toList))
  | .neq => κ (.bool !(x.toList == y.toList))
  | .lss => κ (.bool (Op.bytesLess x.toList y.toList))
  | .geq => κ (.bool !(Op.bytesLess x.toList y.toList))
  | _ => none
def binK (op : BinOp) (x y : AV) (κ : AV → Option β) : Option β :=
  match x, y with
  | .int k a, .int k' b =>
    match op with
    | .shl => if b < 0 then none else κ (.int k (k.wrap (a * 2 ^ (min b.toNat k.bits))))
    | .shr => if b < 0 then none else κ (.int k (a.fdiv (2 ^ (min b.toNat k.bits))))
    | _ => if k = k' then intBin op k a b κ else none
  | .str a, .str b => strBin op a b κ
  | _, _ => none
def eqvK (neg : Bool) (ek : EqK) (x y : AV) (κ : AV → Option β) : Option β :=
  match ek, x, y with
  | .agg ks, .agg l, .agg l' => if kindsL l == ks then (match eqSegs l l' with | some r => κ (.bool (bif neg then !r else r)) | none => none) else none
  | .bool, .bool a, .bool b => κ (.bool (bif neg then !(a == b) else (a == b)))
  | .ptr, .nilp, .nilp => κ (.bool (bif neg then !true else true))
  | .ptr, .ptr .., .nilp => κ (.bool (bif neg then !false else false))
  | .ptr, .nilp, .ptr .. => κ (.bool (bif neg then !false else false))
  | .slice, .nils, .nils => κ (.bool (bif neg then !true else true))
  | .slice, .slice _ _ _ n _ _, .nils => if n = 0 then none else κ (.bool (bif neg then !false else false))
  | .slice, .nne, .nils => κ (.bool (bif neg then !false else false))
  | .slice, .isl _ (_ :: _), .nils => κ (.bool (bif neg then !false else false))
  | .slice, .islR _ (_ :: _), .nils => κ (.bool (bif neg then !false else false))
  | .func, .nilf, .nilf => κ (.bool (bif neg then !true else true))
  | .func, .func .., .nilf => κ (.bool (bif neg then !false else false))
  | _, _, _ => none
def unK (op : UnOp) (x : AV) (κ : AV → Option β) : Option β :=
  match op, x with
  | .neg, .int k n => κ (.int k (k.wrap (0 - n)))
  | .xor, .int k n => κ (.int k (bw .xor k (if k.signed then -1 else k.max) n))
  | .not, .bool b => κ (.bool !b)
  | _, _ => none
def bndK (x : Option AV) (dflt most : Nat) (κ : Nat → Option β) : Option β :=
  match x with
  | none => κ dflt
  | some (.int _ i) => if 0 ≤ i ∧ i ≤ (most : Int) then κ i.toNat else none
  | some _ => none
def capOr (cap : Option Nat) (len : Nat) : Nat := match cap with | some c => c | none => len
def slSliceK (z : Nat) (x : AV) (lo hi mx : Option AV) (κ : AV → Option β) : Option β :=
  match x with
  | .nils => match mx with
    | none => bndK hi 0 0 fun h => bndK lo 0 h fun _ => κ .nils
    | some _ => none
  | .slice id o j len e cap =>
    if esz e ≠ z then none else
    match mx with
    | none => match cap with
      | some c => bndK hi len c fun h => bndK lo 0 h fun l => κ (.slice id o (j + l) (h - l) e (some (c - l)))
      | none => bndK hi len len fun h => bndK lo 0 h fun l => κ (.slice id o (j + l) (h - l) e none)
    | some m => match hi with
      | some hi => bndK (some m) 0 (capOr cap len) fun m => bndK (some hi) len m fun h => bndK lo 0 h fun l => κ (.slice id o (j + l) (h - l) e (some (m - l)))
      | none => none
  | .isl k xs =>
    if 1 ≠ z then none else
    match mx with
    | none => bndK hi xs.length xs.length fun h => bndK lo 0 h fun l => κ (.isl k ((xs.drop l).take (h - l)))
    | some m => match hi with
      | some hi => bndK (some m) 0 0 fun m => bndK (some hi) xs.length m fun h => bndK lo 0 h fun _ => κ .emp
      | none => none
  | .islR e xs =>
    if e ≠ z then none else
    match mx with
    | none => bndK hi xs.length xs.length fun h => bndK lo 0 h fun l => κ (.islR e ((xs.drop l).take (h - l)))
    | some m => match hi with
      | some hi => bndK (some m) 0 0 fun m => bndK (some hi) xs.length m fun h => bndK lo 0 h fun _ => κ .emp
      | none => none
  | .emp =>
    match mx with
    | none => bndK hi 0 0 fun h => bndK lo 0 h fun _ => κ .emp
    | some m => match hi with
      | some hi => bndK (some m) 0 0 fun m => bndK (some hi) 0 m fun h => bndK lo 0 h fun _ => κ .emp
      | none => none
  | _ => none
def slArrK (n e : Nat) (x : AV) (lo hi mx : Option AV) (κ : AV → Option β) : Option β :=
  match x with
  | .ptr id 0 0 o 0 =>
    match mx with
    | none => bndK hi n n fun h => bndK lo 0 h fun l => κ (.slice id o l (h - l) e (some (n - l)))
    | some m => match hi with
      | some hi => bndK (some m) 0 n fun m => bndK (some hi) n m fun h => bndK lo 0 h fun l => κ (.slice id o l (h - l) e (some (m - l)))
      | none => none
  | _ => none
def slStrK (x : AV) (lo hi : Option AV) (κ : AV → Option β) : Option β :=
  match x with
  | .str s => bndK hi s.size s.size fun h => bndK lo 0 h fun l => κ (.str (s.extract l h))
  | _ => none
def faddrK (off : Nat) (x : AV) (κ : AV → Option β) : Option β :=
  match x with
  | .ptr id r e o 0 => κ (.ptr id r e (o + off) 0)
  | .fptr l o 0 => κ (.fptr l (o + off) 0)
  | _ => none
def fldK (agg : Bool) (off n : Nat) (x : AV) (κ : AV → Option β) : Option β :=
  match x with
  | .agg l => if agg then (cutSegs l off n).bind fun s => κ (.agg s) else rdSegs l off 0 κ
  | _ => none
def idxK (i : AV) (n : Nat) (κ : Nat → Option β) : Option β :=
  match i with
  | .int _ i => if 0 ≤ i ∧ i < (n : Int) then κ i.toNat else none
  | _ => none
def iaddrAK (n e : Nat) (x i : AV) (κ : AV → Option β) : Option β :=
  match x with
  | .ptr id r e' o 0 => idxK i n fun i => κ (if e = 0 then .ptr id r e' o i else .ptr id r e' (o + i * e) 0)
  | .fptr l o 0 => idxK i n fun i => κ (if e = 0 then .fptr l o i else .fptr l (o + i * e) 0)
  | _ => none
def iaddrSK (z : Nat) (x i : AV) (κ : AV → Option β) : Option β :=
  match x with
  | .slice id o j len e _ => if esz e ≠ z then none else idxK i len fun i => κ (if e = 0 then .ptr id 0 0 o (j + i) else .ptr id (j + i) e o 0)
  | .isl k xs => if 1 ≠ z then none else idxK i xs.length fun i => (xs[i]?).bind fun x => κ (.fptr [.int k x] 0 0)
  | .islR e xs => if e ≠ z then none else idxK i xs.length fun i => (xs[i]?).bind fun r => κ (.fptr r 0 0)
  | _ => none
def idxAK (agg : Bool) (n e : Nat) (x i : AV) (κ : AV → Option β) : Option β :=
  match x with
  | .agg l => idxK i n fun i => if agg then (cutSegs l (i * e) e).bind fun s => κ (.agg s) else rdSegs l 0 i κ
  | _ => none
def idxSK (x i : AV) (κ : AV → Option β) : Option β :=
  match x, i with
  | .str s, .int _ i => if 0 ≤ i then (s.data[i.toNat]?).bind fun b => κ (.int .u8 b.toNat) else none
  | _, _ => none
def extK (x : AV) (i : Nat) (κ : AV → Option β) : Option β :=
  match x with
  | .tuple vs => (vs[i]?).bind κ
  | _ => none
def arrPtrK (n : Nat) (x : AV) (κ : AV → Option β) : Option β :=
  match x with
  | .slice id o j len 0 _ => if n ≤ len ∧ n ≠ 0 then κ (.win id o j) else none
  | .isl k xs => if n ≤ xs.length ∧ n ≠ 0 then κ (.fptr [.ints k n (xs.take n)] 0 0) else none
  | _ => none
def lenK (str : Bool) (x : AV) (κ : AV → Option β) : Option β :=
  match str, x with
  | false, .nils => κ (.int .i64 (0 : Nat))
  | false, .slice _ _ _ n _ _ => κ (.int .i64 n)
  | false, .isl _ xs => κ (.int .i64 xs.length)
  | false, .islR _ xs => κ (.int .i64 xs.length)
  | false, .emp => κ (.int .i64 (0 : Nat))
  | false, .nne => κ (.int .i64 (0 : Nat))
  | true, .str s => κ (.int .i64 s.size)
  | _, _ => none
def minK (x y : AV) (κ : AV → Option β) : Option β :=
  match x, y with
  | .int k a, .int k' b => if k = k' then κ (.int k (if b < a then b else a)) else none
  | _, _ => none
def putPart (l : List AV) (o n : Nat) : AV → Option (List AV)
  | .agg s => if sizeL s = n then putSegs l o n s else none
  | v => if n = 1 then putCell l o v else none
def putParts (t : List AV) : List (Nat × Nat × Opd) → List AV → Option (List AV)
  | [], l => some l
  | (o, n, x) :: r, l => (putPart l o n (x.ev t)).bind (putParts t r)
def opP (op : AOp) (t : List AV) (κ : AV → Option β) : Option β :=
  match op with
  | .mov x => κ (x.ev t)
  | .pick c a b => match c.ev t with | .bool c => bif c then κ (a.ev t) else κ (b.ev t) | _ => none
  | .build z parts => (putParts t parts z).bind fun l => κ (.agg l)
  | .nilChk x => match x.ev t with | .ptr id r e o j => κ (.ptr id r e o j) | .func f a b => κ (.func f a b) | .win id o j => κ (.win id o j) | .fptr l o j => κ (.fptr l o j) | _ => none
  | .bin op x y => binK op (x.ev t) (y.ev t) κ
  | .eqv neg ek x y => eqvK neg ek (x.ev t) (y.ev t) κ
  | .un op x => unK op (x.ev t) κ
  | .toInt k x => match x.ev t with | .int _ n => κ (.int k (k.wrap n)) | _ => none
  | .same x => match x.ev t with | .str s => κ (.str s) | _ => none
  | .slSlice z x lo hi mx => slSliceK z (x.ev t) (lo.map (·.ev t)) (hi.map (·.ev t)) (mx.map (·.ev t)) κ
  | .slStr x lo hi => slStrK (x.ev t) (lo.map (·.ev t)) (hi.map (·.ev t)) κ
  | .faddr off x => faddrK off (x.ev t) κ
  | .fld agg off n x => fldK agg off n (x.ev t) κ
  | .iaddrA n e x i => iaddrAK n e (x.ev t) (i.ev t) κ
  | .iaddrS z x i => iaddrSK z (x.ev t) (i.ev t) κ
  | .idxA agg n e x i => idxAK agg n e (x.ev t) (i.ev t) κ
  | .idxS x i => idxSK (x.ev t) (i.ev t) κ
  | .ext x i => extK (x.ev t) i κ
  | .mkf f a b => if (a.map (·.ev t)).all valOk && (b.map (·.ev t)).all valOk then κ (.func f (a.map (·.ev t)) (b.map (·.ev t))) else none
  | .arrPtr n x => arrPtrK n (x.ev t) κ
  | .len s x => lenK s (x.ev t) κ
  | .minI x y => minK (x.ev t) (y.ev t) κ
  | _ => none
end P
section R
variable {β : Type}
def loadK (agg : Bool) (n : Nat) (h : Heap) (x : AV) (κ : AV → Option β) : Option β :=
  match x with
  | .ptr id r e o j =>
    match h.get id with
    | some c => if agg then (if j = 0 then rdAgg c.blk r e o n κ else none) else rdCell c.blk r e o j κ
    | none => none
  | .win id o j => match h.get id with | some c => if agg then rdWin c.blk o j n κ else none | none => none
  | .fptr l o j => if agg then (if j = 0 then (cutSegs l o n).bind fun s => κ (.agg s) else none) else rdSegs l o j κ
  | _ => none
def strOf (xs : List Int) : ByteArray := ⟨(xs.map fun n => UInt8.ofNat n.toNat).toArray⟩
def arrFits (h : Heap) (n e : Nat) : AV → Bool
  | .ptr id _ _ o _ => match h.get id with
    | some ⟨_, _, .segs l⟩ => decide (o + n * esz e ≤ sizeL l)
    | _ => false
  | _ => false
def opR (op : AOp) (t : List AV) (h : Heap) (nid : Nat) (κ : AV → Option Blk → Option β) : Option β :=
  match op with
  | .alloc z => κ (.ptr nid 0 0 0 0) (some (.segs z))
  | .box x => let s := segsOf (x.ev t); if s.all segOk then κ (.ptr nid 0 0 0 0) (some (.segs s)) else none
  | .bslice z n e parts => (putParts t parts z).bind fun l => κ (.slice nid 0 0 n e (some n)) (some (.segs l))
  | .load agg n x => loadK agg n h (x.ev t) fun v => κ v none
  | .slArr n e x lo hi mx => if arrFits h n e (x.ev t) then slArrK n e (x.ev t) (lo.map (·.ev t)) (hi.map (·.ev t)) (mx.map (·.ev t)) fun v => κ v none else none
  | .mksliceI k bytes l c =>
    match l.ev t, c.ev t with
    | .int _ l, .int _ c => if 0 ≤ l ∧ l ≤ c ∧ c * bytes ≤ 2 ^ 47 then κ (.slice nid 0 0 l.toNat 0 (some c.toNat)) (some (.segs [.ints k c.toNat (List.replicate c.toNat 0)])) else none
    | _, _ => none
  | .mksliceR e bytes z l c =>
    if e = 0 then none else
    match l.ev t, c.ev t with
    | .int _ l, .int _ c => if 0 ≤ l ∧ l ≤ c ∧ c * bytes ≤ 2 ^ 47 then κ (.slice nid 0 0 l.toNat e (some c.toNat)) (some (.rows e c.toNat (List.replicate c.toNat z))) else none
    | _, _ => none
  | .b2s x => match x.ev t with
    | .nils => κ (.str ⟨#[]⟩) none
    | .emp => κ (.str ⟨#[]⟩) none
    | v => match slCont h v with | some (.ints .u8 xs) => κ (.str (strOf xs)) none | _ => none
  | .rangeS x => match x.ev t with
    | .str s => κ (.ptr nid 0 0 0 0) (some (.iter s 0))
    | _ => none
  | .s2b x => match x.ev t with
    | .str s => κ (.slice nid 0 0 s.size 0 none) (some (.segs [.ints .u8 s.size (bytesOf s)]))
    | _ => none
  | _ => none
end R
def srcI (k : IntKind) (h : Heap) (x : AV) : Option (Nat × List Int) :=
  match x with
  | .nils => some (0, [])
  | .emp => some (0, [])
  | .nne => some (0, [])
  | .isl k' xs => if k' = k then some (xs.length, xs) else none
  | .slice _ _ _ n _ _ => match slCont h x with | some (.ints k' xs) => if k' = k then some (n, xs) else none | _ => none
  | .str s => if k = .u8 then some (s.size, bytesOf s) else none
  | _ => none
def srcR (e : Nat) (h : Heap) (x : AV) : Option (Nat × List (List AV)) :=
  match x with
  | .nils => some (0, [])
  | .emp => some (0, [])
  | .nne => some (0, [])
  | .islR e' xs => if e' = e then some (xs.length, xs) else none
  | .slice _ _ _ n _ _ => match slCont h x with | some (.rows e' xs) => if e' = e then some (n, xs) else none | _ => none
  | _ => none
def splice {α : Type} (xs : List α) (j : Nat) (ys : List α) : List α := xs.take j ++ ys ++ xs.drop (j + ys.length)
section W
variable {β : Type}
def appendIK (k : IntKind) (bytes : Nat) (h : Heap) (s x : AV) (κ : AV → Heap → Option β) : Option β :=
  match srcI k h x with
  | none => none
  | some (n, ys) =>
    match s with
    | .nils => if n * bytes ≤ 2 ^ 47 then κ (.slice h.next 0 0 n 0 none) (h.new (.segs [.ints k n ys])) else none
    | .emp => if n * bytes ≤ 2 ^ 47 then κ (.slice h.next 0 0 n 0 none) (h.new (.segs [.ints k n ys])) else none
    | .slice id o j len 0 cap =>
      match slCont h s, h.get id with
      | some (.ints k' xs), some c =>
        if k' = k then
          if (len + n) * bytes ≤ 2 ^ 47 then
            match cap with
            | none => if c.ro then none else κ (.slice h.next 0 0 (len + n) 0 none) ((h.del id).new (.segs [.ints k (len + n) (xs ++ ys)]))
            | some m =>
              if len + n ≤ m then
                (if n = 0 then κ (.slice id o j len 0 cap) h else
                if c.ro then none else
                match c.blk with
                | .segs l => match segAt l o with
                  | some (.ints k'' m' zs) => if k'' = k ∧ j + len + n ≤ m' then (repSeg l o (.ints k m' (splice zs (j + len) ys))).bind fun l' => κ (.slice id o j (len + n) 0 cap) (h.set id (.segs l')) else none
                  | _ => none
                | _ => none)
              else κ (.slice h.next 0 0 (len + n) 0 none) (h.new (.segs [.ints k (len + n) (xs ++ ys)]))
          else none
        else none
      | _, _ => none
    | _ => none
def appendRK (e bytes : Nat) (h : Heap) (s x : AV) (κ : AV → Heap → Option β) : Option β :=
  match srcR e h x with
  | none => none
  | some (n, ys) =>
    match s with
    | .nils => if n * bytes ≤ 2 ^ 47 ∧ e ≠ 0 then κ (.slice h.next 0 0 n e none) (h.new (.rows e n ys)) else none
    | .emp => if n * bytes ≤ 2 ^ 47 ∧ e ≠ 0 then κ (.slice h.next 0 0 n e none) (h.new (.rows e n ys)) else none
    | .slice id _ _ len e' cap =>
      match slCont h s, h.get id with
      | some (.rows _ xs), some c =>
        if e' = e ∧ e ≠ 0 then
          if (len + n) * bytes ≤ 2 ^ 47 then
            match cap with
            | none => if c.ro then none else κ (.slice h.next 0 0 (len + n) e none) ((h.del id).new (.rows e (len + n) (xs ++ ys)))
            | some m => if len + n ≤ m then (if n = 0 then κ s h else none) else κ (.slice h.next 0 0 (len + n) e none) (h.new (.rows e (len + n) (xs ++ ys)))
          else none
        else none
      | _, _ => none
    | _ => none
def copyIK (h : Heap) (d s : AV) (κ : AV → Heap → Option β) : Option β :=
  match d with
  | .slice id o j len 0 _ =>
    match h.get id with
    | some ⟨_, false, .segs l⟩ =>
      match segAt l o with
      | some (.ints k m zs) =>
        match srcI k h s with
        | some (n, ys) =>
          if j + len ≤ m then (repSeg l o (.ints k m (splice zs j (ys.take (min n len))))).bind fun l' => κ (.int .i64 (min n len : Nat)) (h.set id (.segs l')) else none
        | none => none
      | _ => none
    | _ => none
  | _ => none
def storeK (n : Nat) (h : Heap) (x v : AV) (κ : AV → Heap → Option β) : Option β :=
  match x with
  | .ptr id r e o j =>
    match h.get id with
    | some ⟨_, false, b⟩ =>
      match v with
      | .agg s => if j = 0 then wrAgg b r e o n s fun b' => κ .undef (h.set id b') else none
      | v => if n = 1 then wrCell b r e o j v fun b' => κ .undef (h.set id b') else none
    | _ => none
  | _ => none
def nextK (h : Heap) (x : AV) (κ : AV → Heap → Option β) : Option β :=
  match x with
  | .ptr id 0 0 0 0 => match h.get id with
    | some ⟨_, false, .iter s pos⟩ => if pos < s.size then κ (.tuple [.bool true, .int .i64 pos, .int .i32 (Utf8.decode s pos).1]) (h.set id (.iter s (pos + (Utf8.decode s pos).2))) else κ (.tuple [.bool false]) h
    | _ => none
  | _ => none
end W
def callK (Γ : Env) (f : FuncId) (args : List AV) (h : Heap) (κ : AV → Heap → Option Res) : Option Res :=
  match Γ f with
  | some (.pure o) => (o h.next args h).bind fun r => match r.2 with | none => κ r.1 h | some b => κ r.1 (h.new b)
  | some (.full o) => o args h κ
  | none => none
def opW (Γ : Env) (op : AOp) (t : List AV) (h : Heap) (κ : AV → Heap → Option Res) : Option Res :=
  match op with
  | .store n x v => storeK n h (x.ev t) (v.ev t) κ
  | .appendI k bytes s x => appendIK k bytes h (s.ev t) (x.ev t) κ
  | .appendR e bytes s x => appendRK e bytes h (s.ev t) (x.ev t) κ
  | .copyI d s => copyIK h (d.ev t) (s.ev t) κ
  | .nextS x => nextK h (x.ev t) κ
  | .call f args => callK Γ f (args.map (·.ev t)) h κ
  | .callV f args => match f.ev t with | .func f a b => callK Γ f (a ++ args.map (·.ev t) ++ b) h κ | _ => none
  | _ => none
inductive Cls where
  | P | R | W
  deriving DecidableEq
def AOp.cls : AOp → Cls
  | .alloc _ | .box _ | .slArr .. | .bslice .. | .load .. | .mksliceI .. | .mksliceR .. | .b2s _ | .s2b _ | .rangeS _ => .R
  | .store .. | .appendI .. | .appendR .. | .copyI .. | .call .. | .callV .. | .nextS _ => .W
  | _ => .P
def aop (Γ : Env) (op : AOp) (t : List AV) (h : Heap) (κ : AV → Heap → Option Res) : Option Res :=
  match op.cls with
  | .P => opP op t fun v => κ v h
  | .R => opR op t h h.next fun v ob => match ob with | none => κ v h | some b => κ v (h.new b)
  | .W => opW Γ op t h κ
structure St where
  t : List AV
  h : Heap
def putT (t : List AV) (dst : Option Nat) (v : AV) : List AV :=
  match dst with
  | some d => t.set d v
  | none => t
inductive AExit where
  | normal
  | exit (id : Nat)
  | goto (l : Nat)
  | ret
def guardK (g : Option (Nat × Bool)) (t : List AV) (run skip : List AV → Option Res) : Option Res :=
  match g with
  | none => run t
  | some (i, want) =>
    match t.getD i .undef with
    | .bool b => bif b then (bif want then run (t.set i (.bool true)) else skip (t.set i (.bool true))) else (bif want then skip (t.set i (.bool false)) else run (t.set i (.bool false)))
    | .tuple [] => skip t
    | _ => none
def evOps (Γ : Env) : List AOper → List AV → Heap → (List AV → Heap → Option Res) → Option Res
  | [], t, h, κ => κ t h
  | o :: r, t, h, κ => guardK o.guard t
      (fun t => aop Γ o.op t h fun v h' => evOps Γ r (putT t o.dst v) h' κ)
      (fun t => evOps Γ r (putT t o.dst (.tuple [])) h κ)
inductive GK where
  | some
  | ints (k : IntKind)
  | rows (e : Nat)
structure Canon where
  frz : List (Nat × GK)
  slots : List Nat
  grow : List (Nat × Nat × GK)
  blks : List Nat
  next : Nat
def avIds : AV → List Nat
  | .ptr id .. => [id]
  | .slice id .. => [id]
  | .win id .. => [id]
  | .func _ a b => avIdsL a ++ avIdsL b
  | .agg l => avIdsL l
  | .tuple l => avIdsL l
  | _ => []
where avIdsL : List AV → List Nat
  | [] => []
  | v :: r => avIds v ++ avIdsL r
inductive ACode where
  | skip
  | reg (ops : List AOper)
  | draw (ops : List AOper)
  | seq (cn : Option Canon) (a b : ACode)
  | cond (c : Opd) (a b : ACode)
  | block (id : Nat) (cn : Option Canon) (c : ACode)
  | loop (fuel : Nat) (cn : Option Canon) (c : ACode)
  | exit (id : Nat)
  | scope (c : ACode)
  | jumps (fuel : Nat) (l : Nat) (cn : Option Canon) (c rest : ACode)
  | label (l : Nat)
  | goto (l : Nat)
  | ret
def rnAV (m : Nat → Nat) : AV → AV
  | .ptr id r e o j => .ptr (m id) r e o j
  | .slice id o j len e cap => .slice (m id) o j len e cap
  | .win id o j => .win (m id) o j
  | .func f a b => .func f (rnL a) (rnL b)
  | .agg l => .agg (rnL l)
  | .tuple l => .tuple (rnL l)
  | .undef => .undef
  | .bool b => .bool b
  | .int k n => .int k n
  | .str s => .str s
  | .nilp => .nilp
  | .nils => .nils
  | .nilf => .nilf
  | .ints k n xs => .ints k n xs
  | .isl k xs => .isl k xs
  | .islR e xs => .islR e xs
  | .emp => .emp
  | .nne => .nne
  | .fptr l o j => .fptr l o j
where rnL : List AV → List AV
  | [] => []
  | v :: r => rnAV m v :: rnL r
abbrev rnL (m : Nat → Nat) (l : List AV) : List AV := rnAV.rnL m l
def rnBlk (m : Nat → Nat) : Blk → Blk
  | .segs l => .segs (rnL m l)
  | .rows e n xs => .rows e n xs
  | .iter s pos => .iter s pos
def posN : List Nat → Nat → Nat
  | [], _ => 0
  | a :: r, id => if a = id then 0 else posN r id + 1
def blkIds : Blk → List Nat
  | .segs l => avIds.avIdsL l
  | .rows .. => []
  | .iter .. => []
def reachN (h : Heap) : Nat → List Nat → List Nat → List Nat
  | 0, _, acc => acc
  | _ + 1, [], acc => acc
  | n + 1, id :: r, acc => if acc.contains id then reachN h n r acc else reachN h n (r ++ (match h.get id with | some c => blkIds c.blk | none => [])) (acc ++ [id])
def befOf (acc : List (List Nat)) (aft : List Nat) : List Nat := aft ++ aft.flatMap fun j => acc.getD j []
def befs : List AOper → List (List Nat) → List (List Nat)
  | [], acc => acc
  | o :: r, acc => befs r (acc ++ [befOf acc o.aft])
def opdReads : Opd → List Nat
  | .t i => [i]
  | .c _ => []
def AOp.reads : AOp → List Nat
  | .mov x | .nilChk x | .un _ x | .toInt _ x | .same x | .faddr _ x | .fld _ _ _ x | .ext x _ | .arrPtr _ x | .len _ x | .box x | .load _ _ x | .b2s x | .s2b x | .rangeS x | .nextS x => opdReads x
  | .pick c a b => opdReads c ++ opdReads a ++ opdReads b
  | .build _ ps => ps.flatMap fun p => opdReads p.2.2
  | .bin _ x y | .eqv _ _ x y | .minI x y => opdReads x ++ opdReads y
  | .slSlice _ x lo hi mx => opdReads x ++ lo.toList.flatMap opdReads ++ hi.toList.flatMap opdReads ++ mx.toList.flatMap opdReads
  | .slArr _ _ x lo hi mx => opdReads x ++ lo.toList.flatMap opdReads ++ hi.toList.flatMap opdReads ++ mx.toList.flatMap opdReads
  | .slStr x lo hi => opdReads x ++ lo.toList.flatMap opdReads ++ hi.toList.flatMap opdReads
  | .iaddrA _ _ x i | .iaddrS _ x i | .idxA _ _ _ x i | .idxS x i => opdReads x ++ opdReads i
  | .mkf _ a b => a.flatMap opdReads ++ b.flatMap opdReads
  | .alloc _ => []
  | .bslice _ _ _ ps => ps.flatMap fun p => opdReads p.2.2
  | .mksliceI _ _ l c => opdReads l ++ opdReads c
  | .mksliceR _ _ _ l c => opdReads l ++ opdReads c
  | .store _ x v => opdReads x ++ opdReads v
  | .appendI _ _ s x => opdReads s ++ opdReads x
  | .appendR _ _ s x => opdReads s ++ opdReads x
  | .copyI d s => opdReads d ++ opdReads s
  | .call _ args => args.flatMap opdReads
  | .callV f args => opdReads f ++ args.flatMap opdReads
def AOper.looks (o : AOper) : List Nat := o.op.reads ++ (match o.guard with | some (g, _) => [g] | none => [])
def AOper.apart (x y : AOper) : Bool :=
  (match x.dst with | some d => !(y.looks.contains d) && y.dst != some d | none => true) &&
  (match y.dst with | some d => !(x.looks.contains d) | none => true)
def dcls (Γ : Env) (op : AOp) : Cls :=
  match op with
  | .call f _ => (match Γ f with | some (.pure _) => .R | _ => .W)
  | op => op.cls
inductive Foot where
  | none
  | ld (id : Nat)
  | wr (ids : List Nat)
def AOp.isLoad : AOp → Bool
  | .load .. => true
  | _ => false
def AOp.marks : AOp → Bool
  | .store .. | .appendI .. | .appendR .. | .copyI .. => true
  | _ => false
def AOp.isShape : AOp → Bool
  | .slArr .. => true
  | _ => false
def AOp.keeps (Γ : Env) : AOp → Bool
  | .call f _ => (Γ (f + 1000000)).isSome
  | _ => false
def foot (op : AOp) (t : List AV) : Foot :=
  match op with
  | .load _ _ x => match x.ev t with | .ptr id .. => .ld id | .win id .. => .ld id | _ => .none
  | .store _ x _ => .wr (avIds (x.ev t))
  | .appendI _ _ s _ => .wr (avIds (s.ev t))
  | .appendR _ _ s _ => .wr (avIds (s.ev t))
  | .copyI d _ => .wr (avIds (d.ev t))
  | _ => .none
def okF : Foot → Foot → Bool
  | .ld id, .wr ids => !ids.contains id
  | .wr ids, .ld id => !ids.contains id
  | _, _ => true
abbrev Foots := List (Nat × Foot)
def insF (i : Nat) (f : Foot) : Foots → Foots
  | [] => [(i, f)]
  | x :: r => if i < x.1 then (i, f) :: x :: r else x :: insF i f r
def okFoot (bef : List Nat) (F : Foots) (f : Foot) : Bool := F.all fun g => bef.contains g.1 || okF f g.2
def okPair (Γ : Env) (x y : AOper) : Bool :=
  x.apart y && (match dcls Γ x.op, dcls Γ y.op with | .P, _ => true | _, .P => true | .R, .R => true | .R, .W => (x.op.isLoad && y.op.marks) || (x.op.isShape && y.op.keeps Γ) | .W, .R => (x.op.marks && y.op.isLoad) || (x.op.keeps Γ && y.op.isShape) | _, _ => false)
def okRest (Γ : Env) (j : Nat) (x : AOper) (bs : List (List Nat)) : Nat → List AOper → Bool
  | _, [] => true
  | i, y :: r => ((bs.getD i []).contains j || okPair Γ x y) && okRest Γ j x bs (i + 1) r
def okDraw (Γ : Env) (bs : List (List Nat)) : Nat → List AOper → Bool
  | _, [] => true
  | j, x :: r => x.aft.all (· < j) && okRest Γ j x bs (j + 1) r && okDraw Γ bs (j + 1) r
def stride : Nat := 64
def seenB (n0 : Nat) (bef : List Nat) (id : Nat) : Bool := id < n0 || bef.contains ((id - n0) / stride)
def Heap.hide (h : Heap) (n0 : Nat) (bef : List Nat) : Heap := { h with blks := h.blks.filter fun c => seenB n0 bef c.id }
def Heap.ins (h : Heap) (id : Nat) (b : Option Blk) : Heap :=
  match b with
  | none => h
  | some b => { h with blks := insB ⟨id, false, b⟩ h.blks }
def seeBy (op : AOp) (bef : List Nat) : List Nat := bif op.isShape then [] else bef
def shapeOf (n0 : Nat) (h : Heap) : List (Nat × Option Nat) := (h.hide n0 []).blks.map fun c => (c.id, match c.blk with | .segs l => some (sizeL l) | _ => none)
def keepsShape (Γ : Env) (n0 : Nat) (op : AOp) (h h' : Heap) : Bool := !op.keeps Γ || shapeOf n0 h == shapeOf n0 h'
def dop (Γ : Env) (n0 i : Nat) (bef : List Nat) (op : AOp) (t : List AV) (h : Heap) (κ : AV → Heap → Option Res) : Option Res :=
  match dcls Γ op with
  | .P => opP op t fun v => κ v h
  | .R =>
    match op with
    | .call f args => (match Γ f with
      | some (.pure o) => (o (n0 + stride * i) (args.map (·.ev t)) (h.hide n0 bef)).bind fun r => κ r.1 (h.ins (n0 + stride * i) r.2)
      | _ => none)
    | op => opR op t (h.hide n0 (seeBy op bef)) (n0 + stride * i) fun v ob => κ v (h.ins (n0 + stride * i) ob)
  | .W => opW Γ op t { h with next := n0 + stride * i } fun v h' => if h'.next ≤ n0 + stride * (i + 1) ∧ keepsShape Γ n0 op h h' = true then κ v { h' with next := h.next } else none
def evDraw (Γ : Env) (n0 : Nat) (bs : List (List Nat)) : Nat → List AOper → List AV → Heap → Foots → (List AV → Heap → Option Res) → Option Res
  | _, [], t, h, _, κ => κ t h
  | i, o :: r, t, h, F, κ =>
    bif okFoot (bs.getD i []) F (foot o.op t) then
      guardK o.guard t
        (fun t' => dop Γ n0 i (bs.getD i []) o.op t' h fun v h' => evDraw Γ n0 bs (i + 1) r (putT t' o.dst v) h' (insF i (foot o.op t) F) κ)
        (fun t' => evDraw Γ n0 bs (i + 1) r (putT t' o.dst (.tuple [])) h (insF i (foot o.op t) F) κ)
    else none
def idsOk (ids : List Nat) (l : List Nat) : Bool := l.all ids.contains
def growOne (keep og : List Nat) (st : St) (s cid : Nat) (k : GK) : Option (AV × Blk × List Nat) :=
  match st.t.getD s .undef with
  | .slice id 0 0 len e none =>
    match st.h.get id with
    | some ⟨_, false, b⟩ => if idsOk keep (blkIds b) && !og.contains id then some (.slice cid 0 0 len e none, b, id :: og) else none
    | _ => none
  | .nils =>
    match k with
    | .ints k => some (.slice cid 0 0 0 0 none, .segs [.ints k 0 []], og)
    | .rows e => some (.slice cid 0 0 0 e none, .rows e 0 [], og)
    | .some => none
  | _ => none
def growAll (keep : List Nat) (st : St) : List (Nat × Nat × GK) → List AV → List Cell → List Nat → Option (List AV × List Cell)
  | [], t, bl, _ => some (t, bl)
  | (s, cid, k) :: r, t, bl, og => (growOne keep og st s cid k).bind fun g => growAll keep st r (t.set s g.1) (insB ⟨cid, false, g.2.1⟩ bl) g.2.2
def keepT (slots : List Nat) : Nat → List AV → List AV
  | _, [] => []
  | i, v :: r => (if slots.contains i then v else .undef) :: keepT slots (i + 1) r
def nilV : GK → Option (AV × Option Nat)
  | .ints k => some (.isl k [], none)
  | .rows e => if e = 0 then none else some (.islR e [], none)
  | .some => none
def frzV (h : Heap) (v : AV) (k : GK) : Option (AV × Option Nat) :=
  match v with
  | .slice id 0 j len e _ =>
    match h.get id with
    | some ⟨_, false, .segs [.ints k' n xs]⟩ => if e = 0 then some (.isl k' ((xs.drop j).take len), some id) else none
    | some ⟨_, false, .rows e' n xs⟩ => if e = e' ∧ e ≠ 0 then some (.islR e ((xs.drop j).take len), some id) else none
    | _ => none
  | .nils => nilV k
  | .emp => nilV k
  | .isl k xs => some (.isl k xs, none)
  | .islR e xs => some (.islR e xs, none)
  | _ => none
def delO (h : Heap) : Option Nat → Heap
  | none => h
  | some id => h.del id
def frzAll : List (Nat × GK) → St → Option St
  | [], st => some st
  | (s, k) :: r, st => (frzV st.h (st.t.getD s .undef) k).bind fun p => frzAll r ⟨st.t.set s p.1, delO st.h p.2⟩
def canonO (cn : Canon) (st : St) : Option St :=
  (frzAll cn.frz st).bind fun st =>
    let t := keepT cn.slots 0 st.t
    let bl := st.h.blks.filter fun c => cn.blks.contains c.id
    if idsOk cn.blks (avIds.avIdsL t) && bl.all (fun c => idsOk cn.blks (blkIds c.blk)) then
      (growAll cn.blks st cn.grow t bl (bl.map (·.id))).bind fun r => some ⟨r.1, ⟨cn.next, r.2⟩⟩
    else none
def voidV (nid : Nat) : GK → Option (AV × Blk)
  | .ints k => some (.slice nid 0 0 0 0 none, .segs [.ints k 0 []])
  | .rows e => if e = 0 then none else some (.slice nid 0 0 0 e none, .rows e 0 [])
  | .some => none
def voidOne (st : St) (s o : Nat) (k : GK) : Option St :=
  match st.t.getD s .undef with
  | .nils => if o = 0 then (voidV st.h.next k).map fun p => ⟨st.t.set s p.1, st.h.new p.2⟩ else none
  | .slice .. => if o = 0 then some st else none
  | .ptr id 0 0 0 0 => if o = 0 then none else
    match st.h.get id with
    | some ⟨_, false, .segs l⟩ => match segAt l (o - 1) with
      | some .nils => (voidV st.h.next k).bind fun p => (repSeg l (o - 1) p.1).map fun l' => ⟨st.t, (st.h.new p.2).set id (.segs l')⟩
      | some (.slice ..) => some st
      | _ => none
    | _ => none
  | _ => none
def voidAll : List (Nat × Nat × GK) → St → Option St
  | [], st => some st
  | (s, o, k) :: r, st => (voidOne st s o k).bind (voidAll r)
def gcBlks (h : Heap) (m : Nat → Nat) : List Nat → Nat → Option (List Cell)
  | [], _ => some []
  | id :: r, k => match h.get id with
    | some c => (gcBlks h m r (k + 1)).map fun l => ⟨k, c.ro, rnBlk m c.blk⟩ :: l
    | none => none
def gcName (base : Nat) (ids : List Nat) (i : Nat) : Nat := if i < base then i else base + posN ids i
def gcOk (base : Nat) (ids l : List Nat) : Bool := l.all fun i => decide (i < base) || ids.contains i
def gc (base : Nat) (t : List AV) (h : Heap) : Option St :=
  let low := h.blks.filter fun c => decide (c.id < base)
  let ids := (reachN h 1000 (avIds.avIdsL t ++ low.flatMap fun c => blkIds c.blk) []).filter fun i => decide (base ≤ i)
  if gcOk base ids (avIds.avIdsL t) && low.all (fun c => gcOk base ids (blkIds c.blk)) && ids.all (fun id => match h.get id with | some c => gcOk base ids (blkIds c.blk) | none => false) then
    (gcBlks h (gcName base ids) ids base).map fun new => ⟨rnAV.rnL (gcName base ids) t, ⟨base + ids.length, low.map (fun c => { c with blk := rnBlk (gcName base ids) c.blk }) ++ new⟩⟩
  else none
def canonG (cn : Canon) (st : St) : Option St :=
  (frzAll cn.frz st).bind fun st => (voidAll cn.grow st).bind fun st => gc (cn.blks.headD 0) (keepT cn.slots 0 st.t) st.h
def canon (cn : Option Canon) (st : St) : Option St :=
  match cn with
  | none => some st
  | some cn => if cn.next = 0 then canonG cn st else canonO cn st
def canonOk (B : Nat) (cn : Canon) : Bool :=
  if cn.next = 0 then decide (B ≤ cn.blks.headD 0) else
  decide (B ≤ cn.next) && cn.blks.all (· < cn.next) && growOk cn.grow
where growOk : List (Nat × Nat × GK) → Bool
  | [] => true
  | (_, cid, _) :: r => decide (B ≤ cid) && decide (cid < cn.next) && !cn.blks.contains cid && (r.all fun g => g.2.1 != cid) && growOk r
abbrev Kont := AExit → St → Option Res
def canonK (cn : Option Canon) (st : St) (κ : St → Option Res) : Option Res :=
  match canon cn st with
  | some s => κ s
  | none => none
def loopK (cn : Option Canon) (body : St → Kont → Option Res) : Nat → St → Kont → Option Res
  | 0, _, _ => none
  | n + 1, s, κ => body s fun e st' => match e with
    | .normal => canonK cn st' fun s => loopK cn body n s κ
    | .exit i => κ (.exit i) st'
    | .goto l => κ (.goto l) st'
    | .ret => κ .ret st'
def jumpK (cn : Option Canon) (l : Nat) (body : St → Kont → Option Res) : Nat → St → Kont → Option Res
  | 0, _, _ => none
  | n + 1, s, κ => body s fun e st' => match e with
    | .goto l' => if l' = l then canonK cn st' fun s => jumpK cn l body n s κ else none
    | .exit i => κ (.exit i) st'
    | .normal => κ .normal st'
    | .ret => κ .ret st'
def condK (c : Opd) (st : St) (a b : St → Option Res) : Option Res :=
  match c with
  | .c (.bool v) => bif v then a st else b st
  | .t i => match st.t.getD i .undef with
    | .bool v => bif v then a { st with t := st.t.set i (.bool true) } else b { st with t := st.t.set i (.bool false) }
    | _ => none
  | _ => none
def ev (Γ : Env) : ACode → St → Kont → Option Res
  | .skip, st, κ => κ .normal st
  | .reg ops, st, κ => evOps Γ ops st.t st.h fun t h => κ .normal ⟨t, h⟩
  | .draw ops, st, κ =>
    let bs := befs ops []
    if okDraw Γ bs 0 ops then evDraw Γ st.h.next bs 0 ops st.t st.h [] fun t h => κ .normal ⟨t, { h with next := st.h.next + stride * ops.length }⟩ else none
  | .seq cn a b, st, κ => ev Γ a st fun e st' => match e with
    | .normal => canonK cn st' fun s => ev Γ b s κ
    | .exit i => κ (.exit i) st'
    | .goto l => κ (.goto l) st'
    | .ret => κ .ret st'
  | .cond c a b, st, κ => condK c st (fun st => ev Γ a st κ) (fun st => ev Γ b st κ)
  | .block id cn c, st, κ => ev Γ c st fun e st' => match e with
    | .exit i => if i = id then canonK cn st' fun s => κ .normal s else κ (.exit i) st'
    | .normal => canonK cn st' fun s => κ .normal s
    | .goto l => κ (.goto l) st'
    | .ret => κ .ret st'
  | .loop fuel cn c, st, κ => canonK cn st fun s => loopK cn (ev Γ c) fuel s κ
  | .exit id, st, κ => κ (.exit id) st
  | .scope c, st, κ => ev Γ c st fun e st' => match e with
    | .goto _ => none
    | .exit i => κ (.exit i) st'
    | .normal => κ .normal st'
    | .ret => κ .ret st'
  | .jumps fuel l cn c rest, st, κ => ev Γ c st fun e st' => match e with
    | .goto l' => if l' = l then canonK cn st' fun s => jumpK cn l (ev Γ rest) fuel s κ else none
    | .exit i => κ (.exit i) st'
    | .normal => κ .normal st'
    | .ret => κ .ret st'
  | .label _, st, κ => κ .normal st
  | .goto l, st, κ => κ (.goto l) st
  | .ret, st, κ => κ .ret st
inductive ARes where
  | t (i : Nat)
  | cell (i : Nat) (agg : Bool) (n : Nat)
def resK (rs : List ARes) (t : List AV) (h : Heap) (κ : List AV → Option Res) : Option Res :=
  match rs with
  | [] => κ []
  | .t i :: r => resK r t h fun vs => κ (t.getD i .undef :: vs)
  | .cell i agg n :: r => loadK agg n h (t.getD i .undef) fun v => resK r t h fun vs => κ (v :: vs)
structure AFn where
  ntmps : Nat
  results : List ARes
  code : ACode
def retK (vs : List AV) (κ : AV → Option Res) : Option Res :=
  match vs with
  | [v] => κ v
  | vs => if vs.all valOk then κ (.tuple vs) else none
def evFn (Γ : Env) (fn : AFn) (args : List AV) (h : Heap) (κ : AV → Heap → Option Res) : Option Res :=
  ev Γ fn.code ⟨args ++ List.replicate (fn.ntmps - args.length) .undef, h⟩ fun e st => match e with
    | .normal => resK fn.results st.t st.h fun vs => retK vs fun v => κ v st.h
    | .ret => resK fn.results st.t st.h fun vs => retK vs fun v => κ v st.h
    | _ => none
structure Place where
  blk : Nat
  base : Nat
  size : Nat
  lim : Nat
structure Frz where
  size : Nat
  cell : Nat → Option AV
structure Inj where
  pl : Nat → Option Place
  fz : Nat → Option Frz
instance : CoeFun Inj fun _ => Nat → Option Place := ⟨Inj.pl⟩
def FrzS (ι : Inj) (a : Option Addr) (c n z : Nat) (cells : List AV) : Prop :=
  n ≤ c ∧ (c = 0 ∨ ∃ b off f, a = some ⟨b, off, none⟩ ∧ ι.fz b = some f ∧ off + c * z ≤ f.size ∧ ∀ i y, cells[i]? = some y → f.cell (off + i) = some y)
structure SlR (p : Place) (o j len e : Nat) (cap : Option Nat) (a : Option Addr) (c : Nat) : Prop where
  le : len ≤ c
  addr : c = 0 ∨ a = some ⟨p.blk, p.base + (o + j * esz e), none⟩
  exact : ∀ m, cap = some m → c = m ∧ o + (j + m) * esz e ≤ p.size
  fits : o + (j + len) * esz e ≤ p.size
  most : c = 0 ∨ p.base + (o + (j + c) * esz e) ≤ p.lim
def rng (k : IntKind) (n : Int) : Prop := k.signed = false → 0 ≤ n ∧ n < (2 : Int) ^ k.bits
theorem rng_wrap (k : IntKind) (n : Int) : rng k (k.wrap n) := by
  intro h
  have hp : (0 : Int) < 2 ^ k.bits := Int.pow_pos (by decide)
  simp only [IntKind.wrap, h, Bool.false_and, Bool.false_eq_true, if_false]
  exact ⟨Int.emod_nonneg _ (by omega), Int.emod_lt_of_pos _ hp⟩
theorem rng_signed {k : IntKind} (h : k.signed = true) (n : Int) : rng k n := fun h' => by rw [h] at h'; cases h'
theorem rng_byte (b : UInt8) : rng .u8 (b.toNat : Int) := fun _ => ⟨Int.natCast_nonneg _, by have := b.toNat_lt; simp [IntKind.bits]; omega⟩
theorem rng_zero (k : IntKind) : rng k 0 := fun _ => ⟨Int.le_refl _, Int.pow_pos (by decide)⟩
def SR (ι : Inj) : AV → Value → Prop
  | .bool b, v => v = .bool b
  | .int k n, v => v = .int k n ∧ rng k n
  | .str s, v => v = .string s
  | .nilp, v => v = .pointer none
  | .ptr id r e o j, v => ∃ p, ι id = some p ∧ v = .pointer (some ⟨p.blk, p.base + (r * e + o + j), none⟩)
  | .win id o j, v => ∃ p, ι id = some p ∧ v = .pointer (some ⟨p.blk, p.base + (o + j), none⟩)
  | .nils, v => v = .slice none 0 0
  | .slice id o j len e cap, v => ∃ p a c, ι id = some p ∧ v = .slice a len c ∧ SlR p o j len e cap a c
  | .nilf, v => v = .nilFunc
  | .isl k xs, v => ∃ a c, v = .slice a xs.length c ∧ (∀ x ∈ xs, rng k x) ∧ FrzS ι a c xs.length 1 (xs.map (.int k))
  | .islR e xs, v => ∃ a c, v = .slice a xs.length c ∧ e ≠ 0 ∧ (∀ r ∈ xs, RowWf e r) ∧ FrzS ι a c xs.length e (xs.flatMap cellsL)
  | .emp, v => ∃ a, v = .slice a 0 0
  | .nne, v => ∃ b c, v = .slice (some b) 0 c
  | .fptr l o j, v => ∃ b off f, v = .pointer (some ⟨b, off + (o + j), none⟩) ∧ ι.fz b = some f ∧ SegsWf l ∧ noIds l = true ∧ ∀ i y, (cellsL l)[i]? = some y → f.cell (off + i) = some y
  | _, _ => False
def CR (ι : Inj) (l : List AV) (vs : List Value) : Prop := l.length = vs.length ∧ ∀ (i : Nat) v, l[i]? = some v → ∃ x, vs[i]? = some x ∧ SR ι v x
def VA (ι : Inj) : AV → Value → Prop
  | .agg l, v => ∃ cs : Array Value, v = .agg cs ∧ SegsWf l ∧ CR ι (cellsL l) cs.toList
  | a, v => SR ι a v
def VAL (ι : Inj) (l : List AV) (vs : List Value) : Prop := l.length = vs.length ∧ ∀ (i : Nat) v, l[i]? = some v → ∃ x, vs[i]? = some x ∧ VA ι v x
def VR (ι : Inj) : AV → Value → Prop
  | .undef, _ => True
  | .func f a b, v => ∃ xs ys : Array Value, v = .func (.func f) xs ys ∧ VAL ι a xs.toList ∧ VAL ι b ys.toList
  | .tuple l, v => ∃ xs : Array Value, v = .tuple xs ∧ VAL ι l xs.toList
  | a, v => VA ι a v
structure Inj.le (ι ι' : Inj) : Prop where
  pl : ∀ id p, ι id = some p → ι' id = some p
  fz : ∀ k f, ι.fz k = some f → ι'.fz k = some f
theorem Inj.le.refl (ι : Inj) : ι.le ι := ⟨fun _ _ h => h, fun _ _ h => h⟩
theorem Inj.le.trans {a b c : Inj} (h : a.le b) (k : b.le c) : a.le c := ⟨fun id p hp => k.pl id p (h.pl id p hp), fun id p hp => k.fz id p (h.fz id p hp)⟩
theorem FrzS.mono {ι ι' : Inj} (h : ι.le ι') {a : Option Addr} {c n z : Nat} {cells : List AV} (k : FrzS ι a c n z cells) : FrzS ι' a c n z cells :=
  ⟨k.1, k.2.imp id fun ⟨b, off, f, h1, h2, h3⟩ => ⟨b, off, f, h1, h.fz _ _ h2, h3⟩⟩
section
variable {ι ι' : Inj}
theorem SR.mono (h : ι.le ι') {v : AV} {x : Value} (hv : SR ι v x) : SR ι' v x := by
  cases v with
  | ptr => obtain ⟨p, hp, rest⟩ := hv; exact ⟨p, h.pl _ _ hp, rest⟩
  | win => obtain ⟨p, hp, rest⟩ := hv; exact ⟨p, h.pl _ _ hp, rest⟩
  | slice => obtain ⟨p, a, c, hp, rest⟩ := hv; exact ⟨p, a, c, h.pl _ _ hp, rest⟩
  | isl => obtain ⟨a, c, h1, h2, h3⟩ := hv; exact ⟨a, c, h1, h2, h3.mono h⟩
  | islR => obtain ⟨a, c, h1, h2, h3, h4⟩ := hv; exact ⟨a, c, h1, h2, h3, h4.mono h⟩
  | fptr => obtain ⟨b, off, f, h1, h2, h3⟩ := hv; exact ⟨b, off, f, h1, h.fz _ _ h2, h3⟩
  | _ => exact hv
theorem CR.mono (h : ι.le ι') {l : List AV} {vs : List Value} (hv : CR ι l vs) : CR ι' l vs :=
  ⟨hv.1, fun i v hi => let ⟨x, hx, hs⟩ := hv.2 i v hi; ⟨x, hx, hs.mono h⟩⟩
theorem VA.mono (h : ι.le ι') {v : AV} {x : Value} (hv : VA ι v x) : VA ι' v x := by
  cases v with
  | agg l => obtain ⟨cs, e, wf, hc⟩ := hv; exact ⟨cs, e, wf, hc.mono h⟩
  | _ => simp only [VA] at hv ⊢; exact SR.mono h hv
theorem VAL.mono (h : ι.le ι') {l : List AV} {vs : List Value} (hv : VAL ι l vs) : VAL ι' l vs :=
  ⟨hv.1, fun i v hi => let ⟨x, hx, hs⟩ := hv.2 i v hi; ⟨x, hx, hs.mono h⟩⟩
theorem VR.mono (h : ι.le ι') {v : AV} {x : Value} (hv : VR ι v x) : VR ι' v x := by
  cases v with
  | undef => trivial
  | func f a b => obtain ⟨xs, ys, e, h1, h2⟩ := hv; exact ⟨xs, ys, e, h1.mono h, h2.mono h⟩
  | tuple l => obtain ⟨xs, e, h1⟩ := hv; exact ⟨xs, e, h1.mono h⟩
  | _ => simp only [VR] at hv ⊢; exact VA.mono h hv
end
theorem VA.of_SR {ι : Inj} {v : AV} {x : Value} (h : SR ι v x) : VA ι v x := by cases v <;> first | exact h | exact h.elim
theorem VR.of_VA {ι : Inj} {v : AV} {x : Value} (h : VA ι v x) : VR ι v x := by cases v <;> first | exact h | exact h.elim
theorem VR.of_SR {ι : Inj} {v : AV} {x : Value} (h : SR ι v x) : VR ι v x := .of_VA (.of_SR h)
structure RowR (ι : Inj) (w : World) (p : Place) (ro : Bool) (cells : List AV) : Prop where
  row : ∃ (arr : Array Value) (el : TypeId) (fz : Nat × Nat), w.heap[p.blk]? = some (.cells arr el fz) ∧ arr.size = p.lim ∧ p.base + p.size ≤ p.lim ∧
    (∀ i v, cells[i]? = some v → ∃ x, arr[p.base + i]? = some x ∧ SR ι v x) ∧ (ro = false → ∀ o, o < p.lim → ¬ (fz.1 ≤ o ∧ o < fz.2))
def OthR (w : World) (p : Place) (b : Blk) : Prop :=
  match b with
  | .iter s pos => p.base = 0 ∧ w.heap[p.blk]? = some (.stringIter s pos)
  | _ => False
def BlkR (ι : Inj) (w : World) (id : Nat) (c : Cell) : Prop :=
  ∃ p, ι id = some p ∧ c.blk.Wf ∧ c.blk.cells.length = p.size ∧ (p.lim = 0 → p.size = 0) ∧ (p.lim ≠ 0 → RowR ι w p c.ro c.blk.cells ∨ OthR w p c.blk)
def FzR (ι : Inj) (w : World) (k : Nat) (f : Frz) : Prop :=
  ∃ arr el z, w.heap[k]? = some (.cells arr el z) ∧ arr.size = f.size ∧ ∀ o v, f.cell o = some v → noId v = true ∧ oneCell v = true ∧ ∃ x, arr[o]? = some x ∧ SR ι v x
structure HRel (ι : Inj) (h : Heap) (w : World) : Prop where
  blk : ∀ id c, h.get id = some c → BlkR ι w id c
  fz : ∀ k f, ι.fz k = some f → FzR ι w k f ∧ ∀ id c p, h.get id = some c → c.ro = false → ι id = some p → p.lim ≠ 0 → p.blk ≠ k
  disj : ∀ id1 c1 p1 id2 c2 p2, h.get id1 = some c1 → h.get id2 = some c2 → id1 ≠ id2 → c1.ro = false → ι id1 = some p1 → ι id2 = some p2 → p1.lim ≠ 0 → p2.lim ≠ 0 → p1.blk ≠ p2.blk
def Own (ι : Inj) (h : Heap) (k : Nat) : Prop := ∃ id c p, h.get id = some c ∧ c.ro = false ∧ ι id = some p ∧ p.lim ≠ 0 ∧ p.blk = k
structure Step (ι : Inj) (h : Heap) (w : World) (ι' : Inj) (h' : Heap) (w' : World) : Prop where
  le : ι.le ι'
  os : w'.os = w.os
  tape : w'.tape = w.tape
  output : w'.output = w.output
  size : w.heap.size ≤ w'.heap.size
  frame : ∀ k, k < w.heap.size → ¬ Own ι h k → w'.heap[k]? = w.heap[k]?
  own : ∀ k, Own ι' h' k → Own ι h k ∨ w.heap.size ≤ k
  fzo : ∀ k f, ι'.fz k = some f → ι.fz k = some f ∨ Own ι h k ∨ w.heap.size ≤ k
theorem Step.refl (ι : Inj) (h : Heap) (w : World) : Step ι h w ι h w := ⟨.refl _, rfl, rfl, rfl, Nat.le_refl _, fun _ _ _ => rfl, fun _ h => .inl h, fun _ _ h => .inl h⟩
theorem Step.trans {ι1 ι2 ι3 : Inj} {h1 h2 h3 : Heap} {w1 w2 w3 : World} (a : Step ι1 h1 w1 ι2 h2 w2) (b : Step ι2 h2 w2 ι3 h3 w3) : Step ι1 h1 w1 ι3 h3 w3 where
  le := a.le.trans b.le
  os := b.os.trans a.os
  tape := b.tape.trans a.tape
  output := b.output.trans a.output
  size := Nat.le_trans a.size b.size
  frame := fun k hk hn => (b.frame k (Nat.lt_of_lt_of_le hk a.size) (fun ho => (a.own k ho).elim hn (fun hge => by omega))).trans (a.frame k hk hn)
  own := fun k ho => (b.own k ho).elim (a.own k) (fun hge => .inr (Nat.le_trans a.size hge))
  fzo := fun k f hk => (b.fzo k f hk).elim (a.fzo k f) fun h => .inr (h.elim (a.own k) (fun hge => .inr (Nat.le_trans a.size hge)))
def Fresh (ι : Inj) (n : Nat) : Prop := ∀ id, n ≤ id → ι id = none
structure Rel (ι : Inj) (t : List AV) (h : Heap) (a : Act) (w : World) : Prop where
  defers : a.defers = []
  len : t.length = a.tmps.size
  tmps : ∀ i, VR ι (t.getD i .undef) (a.tmps.getD i undef)
  heap : HRel ι h w
theorem findB_ins {nid id : Nat} {ro : Bool} {b : Blk} : ∀ {l : List Cell}, findB nid l = none → findB id (insB ⟨nid, ro, b⟩ l) = if id = nid then some ⟨nid, ro, b⟩ else findB id l
  | [], _ => by
    simp only [insB, findB]
    by_cases h : id = nid
    · simp [h]
    · have h' : ¬ nid = id := fun e => h e.symm
      simp [h, h']
  | d :: r, h => by
    simp only [findB] at h
    by_cases hd : d.id = nid
    · simp [hd] at h
    · simp only [hd, if_false] at h
      simp only [insB]
      split
      · simp only [findB]; by_cases hi : id = nid
        · simp [hi]
        · simp [hi, Ne.symm hi]
      · simp only [findB]
        rw [findB_ins h]
        by_cases hi : id = nid
        · subst hi; simp [hd]
        · simp [hi]
theorem findB_del {id id' : Nat} : ∀ {l : List Cell}, findB id (delB id' l) = if id = id' then none else findB id l
  | [] => by simp [delB, findB]
  | d :: r => by
    simp only [delB]
    split
    · rename_i h
      rw [findB_del]
      by_cases hi : id = id'
      · simp [hi]
      · simp [hi, findB, h, Ne.symm hi]
    · rename_i h
      simp only [findB]
      rw [findB_del]
      by_cases hi : id = id'
      · subst hi; simp [h]
      · simp [hi]
theorem findB_set {id id' : Nat} {b : Blk} : ∀ {l : List Cell}, findB id (setB id' b l) = if id = id' then (findB id l).map (fun c => { c with blk := b }) else findB id l
  | [] => by simp [setB, findB]
  | d :: r => by
    simp only [setB]
    split
    · rename_i h
      simp only [findB]
      by_cases hi : id = id'
      · subst hi; simp [h]
      · have : ¬ d.id = id := fun e => hi (e ▸ h)
        simp [hi, this]
    · rename_i h
      simp only [findB]
      rw [findB_set]
      by_cases hi : id = id'
      · subst hi; simp [h]
      · simp only [hi, if_false]
theorem findB_filter {id : Nat} {f : Nat → Bool} : ∀ {l : List Cell}, findB id (l.filter fun c => f c.id) = if f id then findB id l else none
  | [] => by simp [findB]
  | d :: r => by
    rw [List.filter_cons]
    split
    · rename_i hd
      simp only [findB]
      split
      · rename_i h; subst h; simp [hd]
      · exact findB_filter
    · rename_i hd
      rw [findB_filter]
      simp only [findB]
      by_cases hi : d.id = id
      · subst hi; simp [hd]
      · simp [hi]
end Go.Am
