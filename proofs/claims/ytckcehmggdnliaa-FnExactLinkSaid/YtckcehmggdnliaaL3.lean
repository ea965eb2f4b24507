/- The data level, part 3: what each operation does to the slots. -/
import Derived.Test.YtckcehmggdnliaaL2
namespace Go.Proofs.Ytckcehmggdnliaa.DL
open Go Go.RowKit

inductive TK where
  | int (k : IntKind) | bool | string
  | slice (elem : TypeId)
  | struct (offs : List Nat)
  | array (n : Nat) (elem : TypeId)
  | other

/-- A row of the table of types: its kind, the cells of its zero value, its bytes; of a struct, each field's cells; whether it is a struct of integers alone, whose values may be held against each other. -/
structure TI where
  k : TK
  size : Nat
  zero : List CV
  bytes : Nat
  szs : List Nat
  eq : Bool := false

abbrev Tb := TypeId → TI
abbrev Sl := List SV

def dfl : DV := .val (.int .i64 0)
def hdD (ds : List DV) : DV := ds.headD dfl
def DV.es : DV → List DV
  | .sl _ es => es
  | .val _ => []
def DV.sz : DV → Nat
  | .sl sz _ => sz
  | .val _ => 0
/-- How many elements. -/
def DV.n : DV → Nat
  | .sl 1 es => es.length
  | .sl sz es => es.length / sz
  | .val _ => 0
theorem DV.n_eq (sz : Nat) (es : List DV) : (DV.sl sz es).n = es.length / sz := by
  unfold DV.n
  split <;> simp_all
def DV.asI : DV → Int
  | .val (.int _ n) => n
  | _ => 0
def DV.asB : DV → Bool
  | .val (.bool b) => b
  | _ => false
def DV.asS : DV → ByteArray
  | .val (.string b) => b
  | _ => ByteArray.empty
def DV.isI (k : IntKind) (d : DV) : Prop := d = .val (.int k d.asI)
def DV.isB (d : DV) : Prop := d = .val (.bool d.asB)
def DV.isS (d : DV) : Prop := d = .val (.string d.asS)
def DV.isL (sz : Nat) (d : DV) : Prop := d = .sl sz d.es
def DV.getP : DV → List Nat → DV
  | d, [] => d
  | d, j :: p => (d.es.getD j dfl).getP p
def DV.InP : DV → List Nat → Prop
  | _, [] => True
  | d, j :: p => j < d.es.length ∧ (d.es.getD j dfl).InP p
/-- The cells of the slice at the end of a way are turned by g. -/
def DV.modP (g : List DV → List DV) : DV → List Nat → DV
  | .val v, _ => .val v
  | .sl sz es, [] => .sl sz (g es)
  | .sl sz es, j :: p => .sl sz (es.set j ((es.getD j dfl).modP g p))

def DV.isV : DV → Prop
  | .val _ => True
  | .sl _ _ => False
/-- All scalars. -/
def AllVal (es : List DV) : Prop := ∀ d ∈ es, d.isV
/-- The data at the end of a way is replaced. -/
def DV.setP : DV → DV → List Nat → DV
  | _, x, [] => x
  | .val v, _, _ :: _ => .val v
  | .sl sz es, x, j :: p => .sl sz (es.set j ((es.getD j dfl).setP x p))
def CV.toDV : CV → DV
  | .sc v => .val v
  | .own d | .rd d | .ref _ _ d | .sub _ _ _ d => d
  | _ => dfl
/-- Lent for reading alone. -/
def CV.lent : CV → CV
  | .own d | .ref _ _ d | .sub _ _ _ d => .rd d
  | .hd _ _ => .un
  | c => c
def CV.isOwn : CV → Bool
  | .own _ => true
  | _ => false
/-- Fit to lie in owned memory. -/
def CV.fit : CV → Bool
  | .own _ | .sc _ => true
  | _ => false
def CV.free : CV → Bool
  | .own _ | .sc _ | .rd _ => true
  | _ => false
def RV.isOwn : RV → Bool
  | .cell c => c.isOwn
  | .agg cs => cs.any CV.isOwn
def SV.isOwn : SV → Bool
  | .one r => r.isOwn
  | .tup rs => rs.any RV.isOwn
  | .box _ => true
  | _ => false

def gt (sl : Sl) (t : Nat) : SV := sl.getD t .dead
def killSV (m : Nat) (x : SV) : SV := if m ∈ x.roots then .dead else x
def putT (sl : Sl) (d : Nat) (x : SV) : Sl := (sl.map (killSV d)).set d (killSV d x)
def put (sl : Sl) (d : Option Nat) (x : SV) : Sl :=
  match d with
  | some d => putT sl d x
  | none => sl
/-- What is owned at the top of slot x. -/
def topOwn (x : SV) (p : List Nat) : Option DV :=
  match x, p with
  | .one (.cell (.own d)), [] => some d
  | .box cs, [j] => match cs.getD j .un with
    | .own d => some d
    | _ => none
  | _, _ => none
/-- A header seen with its data. -/
def resC (sl : Sl) : CV → CV
  | .hd s p => match topOwn (gt sl s) p with
    | some d => .ref s p d
    | none => .hd s p
  | c => c
/-- A slot seen, what it owns left where it is. -/
def view (sl : Sl) (t : Nat) : SV :=
  match gt sl t with
  | .one (.cell (.own d)) => .one (.cell (.ref t [] d))
  | .one (.cell c) => .one (.cell (resC sl c))
  | .one (.agg cs) => .one (.agg (cs.map (resC sl)))
  | .box _ => .ptr t [] 0
  | x => x
/-- A slot's value taken out of it, with all that it owns. -/
def takeT (sl : Sl) (t : Nat) : SV × Sl :=
  if (gt sl t).isOwn then (killSV t (gt sl t), putT sl t .dead) else (gt sl t, sl)

def constSV (tb : Tb) (ty : TypeId) : Value → Option SV
  | .int k n => some (.one (.cell (.sc (.int k n))))
  | .bool b => some (.one (.cell (.sc (.bool b))))
  | .string s => some (.one (.cell (.sc (.string s))))
  | .slice none 0 0 => match (tb ty).k with
    | .slice e => some (.one (.cell (.own (.sl (tb e).size []))))
    | _ => none
  | _ => none
def opView (tb : Tb) (ty : TypeId) (sl : Sl) : Operand → Option SV
  | .tmp t => some (view sl t)
  | .const v => constSV tb ty v
  | .func f => some (.cloR f [])
  | .global _ => none
def opTake (tb : Tb) (ty : TypeId) (sl : Sl) : Operand → Option (SV × Sl)
  | .tmp t => some (takeT sl t)
  | .const v => (constSV tb ty v).map (·, sl)
  | .func f => some (.cloR f [], sl)
  | .global _ => none

def sameK : IntKind → IntKind → Bool
  | .i8, .i8 | .i16, .i16 | .i32, .i32 | .i64, .i64 | .u8, .u8 | .u16, .u16 | .u32, .u32 | .u64, .u64 => true
  | _, _ => false
/-- Two integers of one kind. -/
def intV (op : BinOp) (k : IntKind) (a b : Int) : Option (List Prop × Value) :=
  match op with
  | .add => some ([], .int k (k.wrap (a + b)))
  | .sub => some ([], .int k (k.wrap (a - b)))
  | .mul => some ([], .int k (k.wrap (a * b)))
  | .quo => some ([b ≠ 0], .int k (k.wrap (a.tdiv b)))
  | .rem => some ([b ≠ 0], .int k (a.tmod b))
  | .and => some ([], .int k (k.wrap ((BitVec.ofInt k.bits a &&& BitVec.ofInt k.bits b).toNat : Int)))
  | .or => some ([], .int k (k.wrap ((BitVec.ofInt k.bits a ||| BitVec.ofInt k.bits b).toNat : Int)))
  | .xor => some ([], .int k (k.wrap ((BitVec.ofInt k.bits a ^^^ BitVec.ofInt k.bits b).toNat : Int)))
  | .eql => some ([], .bool (decide (a = b)))
  | .neq => some ([], .bool (!decide (a = b)))
  | .lss => some ([], .bool (decide (a < b)))
  | .leq => some ([], .bool (decide (a ≤ b)))
  | .gtr => some ([], .bool (decide (b < a)))
  | .geq => some ([], .bool (decide (b ≤ a)))
  | _ => none
/-- What a binary operation on scalars gives, and when. -/
def binV (op : BinOp) (tk : TK) : Value → Value → Option (List Prop × Value)
  | .int k a, .int k' b =>
    match op with
    | .shl => some ([0 ≤ b], .int k (k.wrap (a * 2 ^ (min b.toNat k.bits))))
    | .shr => some ([0 ≤ b], .int k (a.fdiv (2 ^ (min b.toNat k.bits))))
    | _ => if sameK k k' then intV op k a b else none
  | .bool a, .bool b =>
    match tk, op with
    | .bool, .eql => some ([], .bool (decide (a = b)))
    | .bool, .neq => some ([], .bool (!decide (a = b)))
    | _, _ => none
  | .string a, .string b =>
    match op with
    | .eql => some ([], .bool (decide (a.toList = b.toList)))
    | .neq => some ([], .bool (!decide (a.toList = b.toList)))
    | .add => some ([a.size + b.size ≤ 9223372036854775807], .string (a ++ b))
    | _ => none
  | _, _ => none
def unV (op : UnOp) : Value → Option Value
  | .bool b => match op with | .not => some (.bool !b) | _ => none
  | .int k n => match op with | .neg => some (.int k (k.wrap (0 - n))) | _ => none
  | _ => none
def conV (d : TK) : Value → Option Value
  | .int _ n => match d with | .int k => some (.int k (k.wrap n)) | _ => none
  | _ => none

def setRange {α : Type} (l : List α) (j : Nat) : List α → List α
  | [] => l
  | x :: xs => setRange (l.set j x) (j + 1) xs

/-- The cell at the end of a way from a slot. -/
def getAt : SV → List Nat → CV
  | .one (.cell (.own d)), p => .own (d.getP p)
  | .box cs, j :: p => match cs.getD j .un with
    | .own d => .own (d.getP p)
    | c => match p with | [] => c | _ => .un
  | _, _ => .un
def placeOk : SV → List Nat → Prop
  | .one (.cell (.own d)), p => d.InP p
  | .box cs, j :: p => j < cs.length ∧ match cs.getD j .un with
    | .own d => d.InP p
    | _ => True
  | _, _ => False
/-- Data at a cell whose type's zero is z: the condition, and what is known of it. -/
def typed (z : CV) (d : DV) (sl : DV → CV) : List Prop × CV :=
  match z with
  | .sc (.int k _) => ([d.isI k], .sc (.int k d.asI))
  | .sc (.bool _) => ([d.isB], .sc (.bool d.asB))
  | .sc (.string _) => ([d.isS], .sc (.string d.asS))
  | .own (.sl sz _) => ([d.isL sz], sl (.sl sz d.es))
  | _ => ([False], .un)
/-- A cell loaded from the place (s, p); of a cell of a box all is known. -/
def loadC (s : Nat) (p : List Nat) (z : CV) (x : SV) : Option (List Prop × CV) :=
  match getAt x p with
  | .sc v => some ([], .sc v)
  | .rd d => some ([], .rd d)
  | .own d => match x, p with
    | .box _, [_] => some ([], .hd s p)
    | _, _ => some (placeOk x p :: (typed z d (.ref s p)).1, (typed z d (.ref s p)).2)
  | _ => none
def loadCs (x : SV) (s : Nat) (q : List Nat) : Nat → List CV → Option (List Prop × List CV)
  | _, [] => some ([], [])
  | j, z :: zs => match loadC s (q ++ [j]) z x, loadCs x s q (j + 1) zs with
    | some (c, v), some (cs, vs) => some (c ++ cs, v :: vs)
    | _, _ => none
def loadRs : List DV → List CV → List Prop × List CV
  | _, [] => ([], [])
  | ds, z :: zs => ((typed z (hdD ds) .rd).1 ++ (loadRs ds.tail zs).1, (typed z (hdD ds) .rd).2 :: (loadRs ds.tail zs).2)
def isAggK : TK → Bool
  | .struct _ | .array .. => true
  | _ => false
def wrapCs (k : TK) (cs : List CV) : Option RV :=
  match k with
  | .struct _ | .array .. => some (.agg cs)
  | .other => none
  | _ => match cs with | [c] => some (.cell c) | _ => none
/-- Loading a variable of type ty through a pointer. -/
def loadV (tb : Tb) (ty : TypeId) (sl : Sl) : SV → Option (List Prop × SV)
  | .ptr s q j => match loadCs (gt sl s) s q j (tb ty).zero with
    | some (c, cs) => (wrapCs (tb ty).k cs).map fun r => (c, .one r)
    | none => none
  | .rptr ds => (wrapCs (tb ty).k (loadRs ds (tb ty).zero).2).map fun r => (((tb ty).size ≤ ds.length) :: (loadRs ds (tb ty).zero).1, .one r)
  | _ => none
def cellsOf : SV → Option (List CV)
  | .one (.cell c) => some [c]
  | .one (.agg cs) => some cs
  | _ => none
/-- Cells are written into the container at (q) from j on. -/
def setCs (x : SV) (q : List Nat) (j : Nat) (new : List CV) : SV :=
  match x, q with
  | .box cs, [] => .box (setRange cs j new)
  | .box cs, i :: q => match cs.getD i .un with
    | .own d => .box (cs.set i (.own (d.modP (fun es => setRange es j (new.map CV.toDV)) q)))
    | _ => .dead
  | .one (.cell (.own d)), q => .one (.cell (.own (d.modP (fun es => setRange es j (new.map CV.toDV)) q)))
  | _, _ => .dead
/-- When that is allowed. -/
def setOk (x : SV) (q : List Nat) (j n : Nat) (new : List CV) : Option (List Prop) :=
  match x, q with
  | .box cs, [] => if j + n ≤ cs.length && new.all CV.free then some [] else none
  | .box cs, i :: q => match cs.getD i .un with
    | .own d => if new.all CV.fit then some [d.InP q, j + n ≤ (d.getP q).es.length] else none
    | _ => none
  | .one (.cell (.own d)), q => if new.all CV.fit then some [d.InP q, j + n ≤ (d.getP q).es.length] else none
  | _, _ => none

def fillC (cs : List CV) : List (Nat × List CV) → List CV
  | [] => cs
  | (o, new) :: r => fillC (setRange cs o new) r

end Go.Proofs.Ytckcehmggdnliaa.DL
