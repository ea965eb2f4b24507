/- The library: parts L4 to L4. -/
import Derived.Test.YtlffmhhdgedddaaL3
/- The data level, part 4: the operations, contracts and code at the data level. -/
namespace Go.Proofs.Ytlffmhhdgedddaa.DL
open Go Go.RowKit

abbrev nI (n : Nat) : Int := n
abbrev iC (n : Int) : CV := .sc (.int .i64 n)
abbrev uC (n : Int) : CV := .sc (.int .u8 n)
abbrev bC (b : Bool) : CV := .sc (.bool b)
abbrev sC (b : ByteArray) : CV := .sc (.string b)
abbrev iV (n : Int) : DV := .val (.int .i64 n)
abbrev uV (n : Int) : DV := .val (.int .u8 n)
abbrev bV (b : Bool) : DV := .val (.bool b)
abbrev sV (b : ByteArray) : DV := .val (.string b)
abbrev oneC (c : CV) : SV := .one (.cell c)
abbrev aS (cs : List CV) : SV := .one (.agg cs)

/-- The shape of a call's result: how many results, each a cell or a struct; their cells. -/
inductive RS where
  | one (agg : Bool) (zs : List CV)
  | tup (rs : List (Bool × List CV))
  | bx (zs : List CV)
/-- What is told of a program for a walk: its types; the shapes of results; for each loop (by its first region) what it may change and what it leaves;
slots that are never written; slots that take what they are given out of where it lay; for a function, the argument that it writes through; the shape of what a function value gives; in a region with several orders, for each store by its number: the slot it writes through, the slots it empties. -/
structure Cfg where
  tb : Tb
  sg : FuncId → RS
  ann : Nat → List Nat × List Nat
  pin : List Nat
  mv : List Nat := []
  io : FuncId → Option Nat := fun _ => none
  dy : RS := .one false [.un]
  wr : Nat → List (Nat × Nat × List Nat) := fun _ => []
  /-- Functions that take what that argument owns. -/
  gv : FuncId → Bool := fun _ => false
  /-- Truths are taken apart where they are asked for, and only there. -/
  sp : Bool := false
  /-- Functions that give a cut of a header that they are lent: the argument, and its cell. -/
  ct : FuncId → Option (Nat × Nat) := fun _ => none

/-- A write into the container (s, q0) at cells [j, j + n): what survives of a slot that hangs on s (bx: s is a box). -/
def keepW (bx : Bool) (s : Nat) (q0 : List Nat) (j n : Nat) (x : SV) : SV :=
  if s ∈ x.roots then
    match x with
    | .ptr s' [] j' => .ptr s' [] j'
    | .ptr s' [i] j' => match bx, q0 with
      | true, [] => if i < j ∨ j + n ≤ i then .ptr s' [i] j' else .dead
      | true, _ => .ptr s' [i] j'
      | false, _ => .dead
    | _ => .dead
  else x
def isBox : SV → Bool
  | .box _ => true
  | _ => false
/-- Of the header at a place: the header alone. -/
def hdOf : CV → CV
  | .ref s p _ => .hd s p
  | c => c
/-- What survives of a cell that hangs on s (bx: s is a box). -/
def keepC (bx : Bool) (s : Nat) (q0 : List Nat) (j n : Nat) (c : CV) : CV :=
  if s ∈ c.roots then
    match hdOf c with
    | .hd s' [] => .hd s' []
    | .hd s' [i] => match bx, q0 with
      | true, [] => if i < j ∨ j + n ≤ i then .hd s' [i] else .un
      | true, _ => .hd s' [i]
      | false, _ => .un
    | _ => .un
  else c
/-- A header below another cell of the box survives with its data. -/
def keepD (bx : Bool) (s : Nat) (q0 : List Nat) (j n : Nat) (c : CV) : CV :=
  match c with
  | .ref s' (i :: i2 :: p) d => if s' = s then (match bx, q0 with
    | true, [] => if i < j ∨ j + n ≤ i then .ref s' (i :: i2 :: p) d else .un
    | _, _ => .un) else .ref s' (i :: i2 :: p) d
  | c => keepC bx s q0 j n c
/-- When it does. -/
def refsC (bs : List CV) (s j n : Nat) (c : CV) : List Prop :=
  match c with
  | .ref s' (i :: i2 :: p) d => if s' = s ∧ (i < j ∨ j + n ≤ i) then (match bs.getD i .un with
    | .own d0 => [d0.InP (i2 :: p), d0.getP (i2 :: p) = d]
    | _ => [False]) else []
  | _ => []
def refsX (x : SV) (s : Nat) (q : List Nat) (j n : Nat) : Sl → List Prop
  | [] => []
  | y :: ys => (match x, q, y with
    | .box bs, [], .one (.cell c) => refsC bs s j n c
    | _, _, _ => []) ++ refsX x s q j n ys
/-- What survives of a slot that hangs on s, where s holds x now. -/
def keepX (x : SV) (s : Nat) (q0 : List Nat) (j n : Nat) (y : SV) : SV :=
  match y with
  | .one (.cell c) => .one (.cell (keepD (isBox x) s q0 j n c))
  | .one (.agg cs) => .one (.agg (cs.map (keepC (isBox x) s q0 j n)))
  | y => keepW (isBox x) s q0 j n y
/-- Slot s has been written through: it holds x now. -/
def putW (sl : Sl) (s : Nat) (q0 : List Nat) (j n : Nat) (x : SV) : Sl := (sl.map (keepX x s q0 j n)).set s x

def boxOf (x : SV) : Option (List CV) :=
  match cellsOf x with
  | some cs => if cs.all CV.free then some cs else none
  | none => none

/-- The data of an own or lent slice in an operand. -/
def sliceD : SV → Option DV
  | .one (.cell (.own d)) | .one (.cell (.rd d)) | .one (.cell (.ref _ _ d)) | .one (.cell (.sub _ _ _ d)) | .one (.cell (.vl _ d)) => some d
  | _ => none

/-- The string of a row of bytes. -/
def bytesS (es : List DV) : ByteArray := es.foldl (fun r d => r.push (UInt8.ofNat d.asI.toNat)) ByteArray.empty
def conB : TK → TK → Option DV → Option (List Prop × ByteArray)
  | .int .u8, .string, some (.sl 1 es) => some ([∀ d ∈ es, d.isI .u8], bytesS es)
  | _, _, _ => none

def idxV (x : SV) (i : Int) (sz : Nat) : Option (List Prop × SV) :=
  match x with
  | .one (.cell (.rd d)) | .one (.cell (.vl _ d)) => some ((if d.sz == sz then [0 ≤ i, i < d.n] else [False]), .rptr (d.es.drop (i.toNat * sz)))
  | .one (.cell (.ref s p d)) => some ((if d.sz == sz then [0 ≤ i, i < d.n] else [False]), .ptr s p (i.toNat * sz))
  | _ => none

def cutD (d : DV) (lo hi : Nat) : DV := .sl d.sz ((d.es.take (hi * d.sz)).drop (lo * d.sz))
def boundI (tb : Tb) (ty : TypeId) (sl : Sl) (x : Option Operand) (dfl : Int) : Option Int :=
  match x with
  | none => some dfl
  | some x => match opView tb ty sl x with
    | some (.one (.cell (.sc (.int _ n)))) => some n
    | _ => none
def cutC (d : DV) (sz : Nat) (lo hi : Int) : List Prop := if d.sz == sz && 0 < sz then [0 ≤ lo, lo ≤ hi, hi ≤ d.n] else [False]
/-- The cut of a header. -/
def cutW (sz : Nat) (u : Value) (lo hi : Nat) : Value :=
  match u with
  | .slice a _ cap => .slice (if cap = lo then a else a.map (·.add (lo * sz))) (hi - lo) (cap - lo)
  | u => u
def cutV (tb : Tb) (t : TypeId) (x : SV) (lo hi : Int) : Option (List Prop × SV) :=
  match (tb t).k, x with
  | .slice e, .one (.cell (.rd d)) => some (cutC d (tb e).size lo hi, .one (.cell (.rd (cutD d lo.toNat hi.toNat))))
  | .slice e, .one (.cell (.ref s p d)) => some (cutC d (tb e).size lo hi, .one (.cell (.sub s p (lo.toNat * d.sz) (cutD d lo.toNat hi.toNat))))
  | .string, .one (.cell (.sc (.string b))) => some ([0 ≤ lo, lo ≤ hi, hi ≤ b.size], .one (.cell (.sc (.string (b.extract lo.toNat hi.toNat)))))
  | .slice e, .one (.cell (.vl u d)) => some (cutC d (tb e).size lo hi, .one (.cell (.vl (cutW (tb e).size u lo.toNat hi.toNat) (cutD d lo.toNat hi.toNat))))
  | .slice e, .one (.cell (.sub s p l0 d)) => some (cutC d (tb e).size lo hi, .one (.cell (.sub s p (l0 + lo.toNat * d.sz) (cutD d lo.toNat hi.toNat))))
  | _, _ => none
def lenI : SV → Option Int
  | .one (.cell (.sc (.string b))) => some b.size
  | x => (sliceD x).map fun d => (d.n : Int)
def lenD : DV → Option Int
  | .sl sz es => some (DV.sl sz es).n
  | _ => none
def lenK (k : TK) (x : Option SV) : Option Int :=
  match k, x with
  | .string, some (.one (.cell (.sc (.string b)))) => some b.size
  | .slice _, some x => (sliceD x).bind lenD
  | _, _ => none
def eqCs : List CV → List CV → Option Bool
  | [], [] => some true
  | .sc (.int k a) :: cs, .sc (.int k' b) :: ds => match sameK k k', eqCs cs ds with
    | true, some b' => some (decide (a = b) && b')
    | _, _ => none
  | _, _ => none

def eqA (op : BinOp) (e : Bool) (cs ds : List CV) : Option Bool :=
  match op, e with
  | .eql, true => eqCs cs ds
  | .neq, true => (eqCs cs ds).map fun b => !b
  | _, _ => none
def zeroRows (zs : List CV) (n : Nat) : List DV :=
  match zs with
  | [z] => List.replicate n z.toDV
  | zs => (List.replicate n (zs.map CV.toDV)).flatten
/-- A slice is held against nil. -/
def nilB (op : BinOp) (k : TK) (y : Operand) : Bool :=
  match op, k, y with
  | .eql, .slice _, .const (.slice none 0 0) => true
  | _, _, _ => false
def allTmps : List Operand → Option (List Nat)
  | [] => some []
  | .tmp t :: os => (allTmps os).map (t :: ·)
  | _ :: _ => none
/-- What of a part may lie in a struct or a row. -/
def partC : SV → Option (List CV)
  | .one (.cell c) => if c.free then some [c] else none
  | .one (.agg cs) => if cs.all CV.free then some cs else none
  | _ => none
/-- Parts, taken one by one; each with the cell that it begins at. -/
def takeParts (tb : Tb) (pl : Nat → Option (Nat × Nat)) (total : Nat) : Sl → List (Nat × Operand) → Option (List (Nat × List CV) × Sl)
  | sl, [] => some ([], sl)
  | sl, (i, x) :: ps => match pl i, opTake tb 0 sl x with
    | some (o, n), some (v, sl1) => match partC v, takeParts tb pl total sl1 ps with
      | some cs, some (r, sl2) => if cs.length == n && Nat.ble (o + n) total then some ((o, cs) :: r, sl2) else none
      | _, _ => none
    | _, _ => none
/-- An operation without a call: the condition, what comes into its slot, the slots else. -/
def opV (tb : Tb) (sl : Sl) (ty : TypeId) : Op → Option (List Prop × SV × Sl)
  | .move x => match x with
    | .tmp t => match gt sl t with
      | .tup _ | .one (.agg _) => some ([], takeT sl t)
      | .one (.cell (.own _)) => some ([], .one (.cell (.hd t [])), sl)
      | .one (.cell c) => some ([], .one (.cell c), sl)
      | _ => some ([], view sl t, sl)
    | _ => (opView tb ty sl x).map fun v => ([], v, sl)
  | .assign x => (opTake tb ty sl x).map fun v => ([], v)
  | .alloc e => match (tb e).k with
    | .other => none
    | _ => some ([], .box (tb e).zero, sl)
  | .box _ x => match opTake tb ty sl x with
    | some (v, sl') => (boxOf v).map fun cs => ([], .box cs, sl')
    | none => none
  | .load t a => match opView tb ty sl a with
    | some p => (loadV tb t sl p).map fun cv => (cv.1, cv.2, sl)
    | none => none
  | .store t a x => match opTake tb ty sl x with
    | some (v, sl') => match opView tb ty sl' a, cellsOf v with
      | some (.ptr s q j), some cs => if cs.length != (tb t).size || cs.length == 0 then none else (setOk (gt sl' s) q j cs.length cs).map fun c => (c ++ refsX (gt sl' s) s q j cs.length sl', .und, putW sl' s q j cs.length (setCs (gt sl' s) q j cs))
      | _, _ => none
    | none => none
  | .nilCheck x => match opView tb ty sl x with
    | some (.ptr s q j) => some ([], .ptr s q j, sl)
    | some (.rptr ds) => some ([], .rptr ds, sl)
    | _ => none
  | .binOp op xt x y _ => match nilB op (tb xt).k y, opView tb ty sl x with
    | true, some v => match sliceD v with
      | some (.sl _ es) => some ([], .one (.cell (.nb es)), sl)
      | _ => none
    | true, none => none
    | false, _ => match opView tb ty sl x, opView tb ty sl y with
      | some (.one (.cell (.sc u))), some (.one (.cell (.sc v))) => (binV op (tb xt).k u v).map fun r => (r.1, .one (.cell (.sc r.2)), sl)
      | some (.one (.agg cs)), some (.one (.agg ds)) => (eqA op ((tb xt).eq && cs.length == (tb xt).size) cs ds).map fun r => ([], .one (.cell (.sc (.bool r))), sl)
      | _, _ => none
  | .unOp op _ x => match opView tb ty sl x with
    | some (.one (.cell (.sc u))) => (unV op u).map fun r => ([], .one (.cell (.sc r)), sl)
    | _ => none
  | .convert src dst x => match (tb src).k, opView tb ty sl x with
    | .int _, some (.one (.cell (.sc u))) => (conV (tb dst).k u).map fun r => ([], .one (.cell (.sc r)), sl)
    | .slice e, some v => (conB (tb e).k (tb dst).k (sliceD v)).map fun r => (r.1, .one (.cell (.sc (.string r.2))), sl)
    | _, _ => none
  | .makeSlice t l c => match (tb t).k, opView tb ty sl l, opView tb ty sl c with
    | .slice e, some (.one (.cell (.sc (.int _ n)))), some (.one (.cell (.sc (.int _ m)))) =>
      some ([n = m, 0 ≤ n, (tb e).bytes * n ≤ 281474976710656, n ≤ 9223372036854775807, 0 < (tb e).size],
        .one (.cell (.own (.sl (tb e).size (zeroRows (tb e).zero n.toNat)))), sl)
    | _, _, _ => none
  | .slice t x lo hi mx => match mx, opView tb ty sl x with
    | none, some v => match boundI tb ty sl lo 0, boundI tb ty sl hi ((lenI v).getD 0) with
      | some l, some h => (cutV tb t v l h).map fun r => (r.1, r.2, sl)
      | _, _ => none
    | _, _ => none
  | .fieldAddr t x f => match (tb t).k, opView tb ty sl x with
    | .struct offs, some (.ptr s q j) => if f < offs.length then some ([], .ptr s q (j + offs.getD f 0), sl) else none
    | .struct offs, some (.rptr ds) => if f < offs.length then some ([], .rptr (ds.drop (offs.getD f 0)), sl) else none
    | _, _ => none
  | .indexAddr t x i => match (tb t).k, opView tb ty sl x, opView tb ty sl i with
    | .slice e, some v, some (.one (.cell (.sc (.int _ n)))) => (idxV v n (tb e).size).map fun r => (r.1, r.2, sl)
    | .array len e, some (.ptr s q j), some (.one (.cell (.sc (.int _ (.ofNat n))))) => if Nat.blt n len && Nat.blt 0 (tb e).size then some ([], .ptr s q (j + n * (tb e).size), sl) else none
    | _, _, _ => none
  | .index t x i => match (tb t).k, opView tb ty sl x, opView tb ty sl i with
    | .array len e, some (.one (.agg cs)), some (.one (.cell (.sc (.int _ (.ofNat n))))) => match (tb e).k, cs[n]? with
      | .int _, some (.sc u) => if Nat.blt n len && (tb e).size == 1 then some ([], .one (.cell (.sc u)), sl) else none
      | _, _ => none
    | _, _, _ => none
  | .extract x i => match x with
    | .tmp t => match gt sl t with
      | .tup rs => match rs[i]? with
        | some r => if r.isOwn then some ([], killSV t (.one r), putT sl t (.tup (rs.set i (.cell .un)))) else some ([], .one r, sl)
        | none => none
      | _ => none
    | _ => none
  | .build t ps => match (tb t).k with
    | .struct offs => (takeParts tb (fun i => (offs.zip (tb t).szs)[i]?) (tb t).zero.length sl ps.toList).map fun r => ([], .one (.agg (fillC (tb t).zero r.1)), r.2)
    | .array _ e => if Nat.blt 0 (tb e).size then (takeParts tb (fun i => some (i * (tb e).size, (tb e).size)) (tb t).zero.length sl ps.toList).map fun r => ([], .one (.agg (fillC (tb t).zero r.1)), r.2) else none
    | _ => none
  | .buildSlice t len ps => match (tb t).k with
    | .slice e => if Nat.blt 0 (tb e).size && Nat.ble (len * (tb e).size) 16777216 then match takeParts tb (fun i => some (i * (tb e).size, (tb e).size)) (len * (tb e).size) sl ps.toList with
        | some r => if (fillC (List.replicate len (tb e).zero).flatten r.1).all CV.fit then
            some ([], .one (.cell (.own (.sl (tb e).size ((fillC (List.replicate len (tb e).zero).flatten r.1).map CV.toDV)))), r.2) else none
        | none => none
      else none
    | _ => none
  | .makeFunc fn first captured => match fn, first.toList, allTmps captured.toList with
    | .func f, [], some ss => some ([], .cloS f ss, sl)
    | _, _, _ => none
  | _ => none

/-- The guard of an operation: the slot that its truth lies in. -/
def guardT (ops : List Oper) (g : Nat) : Option Nat := (ops[g]?).bind (·.dst)

/-- What lies in the boxes that a function value holds on to. -/
def capsV (sl : Sl) : List Nat → Option (List (List DV))
  | [] => some []
  | s :: ss => match gt sl s, capsV sl ss with
    | .box cs, some r => if cs.all CV.free then some (cs.map CV.toDV :: r) else none
    | _, _ => none
/-- Arguments as a callee sees them: lent for reading. -/
def argV (sl : Sl) : SV → Option SV
  | .one (.cell c) => some (.one (.cell c.lent))
  | .one (.agg cs) => some (.one (.agg (cs.map CV.lent)))
  | .rptr ds => some (.rptr ds)
  | .cloR f caps => some (.cloR f caps)
  | .cloS f ss => (capsV sl ss).map fun caps => .cloR f caps
  | _ => none
def argsV (tb : Tb) (sl : Sl) : List TypeId → List Operand → Option (List SV)
  | _, [] => some []
  | ts, x :: xs => match (opView tb (ts.headD 0) sl x).bind (argV sl), argsV tb sl ts.tail xs with
    | some v, some vs => some (v :: vs)
    | _, _ => none

/-- A CONTRACT AT THE DATA LEVEL: f called with values that read as args returns; result and arguments read behind it as post says. -/
def Callable (P : Program) (f : FuncId) : Prop := ∃ fn, P.funcs[f]? = some fn ∧ (fn.name == "runtime.NumGoroutine") = false ∧ fn.body.isNone = false
def CallD (P : Program) (f : FuncId) (args : List SV) (post : SV → List SV → Prop) : Prop :=
  Callable P f ∧ ∀ (w : World) (vs : Array Value) (φ : Option Nat → List Nat), RelW φ w ((List.range args.length).flatMap fun t => φ (some t)) args .dead vs undef w → φ none = [] →
    Calls P f vs w fun e w' => ∃ v r args' φ', e = .returned v ∧ post r args' ∧ r.roots = [] ∧ RelW φ' w ((List.range args.length).flatMap fun t => φ (some t)) args' r vs v w'

theorem CallD.mono {P : Program} {f : FuncId} {args : List SV} {post post' : SV → List SV → Prop} (h : CallD P f args post) (hp : ∀ r a, post r a → post' r a) : CallD P f args post' :=
  ⟨h.1, fun w vs φ hr h0 => (h.2 w vs φ hr h0).mono fun _ _ ⟨v, r, a, φ', h1, h2, h3, h4⟩ => ⟨v, r, a, φ', h1, hp _ _ h2, h3, h4⟩⟩

/-- What a result may be for its caller. -/
def closed : SV → Bool
  | .one r => r.roots.isEmpty
  | .tup rs => (rs.flatMap RV.roots).isEmpty
  | .box cs => (cs.flatMap CV.roots).isEmpty
  | .und | .dead => true
  | _ => false

/-- The spine and the heads of lists laid open, so that what follows meets constructors alone. -/
def forceN (n : Nat) (K : Nat → Prop) : Prop :=
  match n with
  | 0 => K 0
  | m + 1 => K (m + 1)
def forceC (c : CV) (K : CV → Prop) : Prop :=
  match c with
  | .un => K .un
  | .sc v => match v with
    | .int k n => K (.sc (.int k n))
    | .bool b => K (.sc (.bool b))
    | .string b => K (.sc (.string b))
    | v => K (.sc v)
  | .rd d => match d with
    | .sl sz es => K (.rd (.sl sz es))
    | d => K (.rd d)
  | .own d => match d with
    | .sl sz es => K (.own (.sl sz es))
    | d => K (.own d)
  | .ref s p d => match d with
    | .sl sz es => K (.ref s p (.sl sz es))
    | d => K (.ref s p d)
  | .sub s p lo d => match d with
    | .sl sz es => K (.sub s p lo (.sl sz es))
    | d => K (.sub s p lo d)
  | .nb es => K (.nb es)
  | .hd s p => K (.hd s p)
  | .vl v d => match d with
    | .sl sz es => K (.vl v (.sl sz es))
    | d => K (.vl v d)
def forceCs (cs : List CV) (K : List CV → Prop) : Prop :=
  match cs with
  | [] => K []
  | c :: cs => forceC c fun c => forceCs cs fun cs => K (c :: cs)
def forceR (r : RV) (K : RV → Prop) : Prop :=
  match r with
  | .cell c => forceC c fun c => K (.cell c)
  | .agg cs => forceCs cs fun cs => K (.agg cs)
def forceRs (rs : List RV) (K : List RV → Prop) : Prop :=
  match rs with
  | [] => K []
  | r :: rs => forceR r fun r => forceRs rs fun rs => K (r :: rs)
def forceS (x : SV) (K : SV → Prop) : Prop :=
  match x with
  | .dead => K .dead
  | .und => K .und
  | .one r => forceR r fun r => K (.one r)
  | .tup rs => forceRs rs fun rs => K (.tup rs)
  | .box cs => forceCs cs fun cs => K (.box cs)
  | .ptr s q j => K (.ptr s q j)
  | .rptr ds => K (.rptr ds)
  | .cloR f c => K (.cloR f c)
  | .cloS f c => K (.cloS f c)
def forceL (sl : Sl) (K : Sl → Prop) : Prop :=
  match sl with
  | [] => K []
  | x :: xs => forceS x fun x => forceL xs fun xs => K (x :: xs)
theorem forceC_eq (c : CV) (K : CV → Prop) : forceC c K = K c := by
  cases c with
  | un => rfl
  | sc v => cases v <;> rfl
  | rd d => cases d <;> rfl
  | own d => cases d <;> rfl
  | ref s p d => cases d <;> rfl
  | sub s p lo d => cases d <;> rfl
  | nb es => rfl
  | hd s p => rfl
  | vl v d => cases d <;> rfl
theorem forceCs_eq (cs : List CV) : ∀ K : List CV → Prop, forceCs cs K = K cs := by
  induction cs with
  | nil => intro K; rfl
  | cons c cs ih => intro K; simp only [forceCs, forceC_eq, ih]
theorem forceR_eq (r : RV) (K : RV → Prop) : forceR r K = K r := by cases r <;> simp only [forceR, forceC_eq, forceCs_eq]
theorem forceRs_eq (rs : List RV) : ∀ K : List RV → Prop, forceRs rs K = K rs := by
  induction rs with
  | nil => intro K; rfl
  | cons r rs ih => intro K; simp only [forceRs, forceR_eq, ih]
theorem forceS_eq (x : SV) (K : SV → Prop) : forceS x K = K x := by cases x <;> simp only [forceS, forceR_eq, forceRs_eq, forceCs_eq]
theorem forceL_eq (sl : Sl) : ∀ K : Sl → Prop, forceL sl K = K sl := by
  induction sl with
  | nil => intro K; rfl
  | cons x xs ih => intro K; simp only [forceL, forceS_eq, ih]
/-- 'put', laid open. -/
def setK (sl : Sl) (d : Nat) (x : SV) (K : Sl → Prop) : Prop :=
  match sl, d with
  | [], _ => K []
  | _ :: ys, 0 => K (x :: ys)
  | y :: ys, d + 1 => setK ys d x fun zs => K (y :: zs)
theorem setK_eq (x : SV) : ∀ (sl : Sl) (d : Nat) (K : Sl → Prop), setK sl d x K = K (sl.set d x)
  | [], d, K => by cases d <;> rfl
  | _ :: ys, 0, K => rfl
  | y :: ys, d + 1, K => by simp only [setK, setK_eq x ys d, List.set]
def rooted (sl : Sl) (d : Nat) : Bool :=
  match sl with
  | [] => false
  | x :: xs => if x.roots.contains d then true else rooted xs d
def putK (pin : List Nat) (sl : Sl) (d : Option Nat) (x : SV) (K : Sl → Prop) : Prop :=
  match d with
  | none => K sl
  | some d => if pin.contains d then False else if rooted sl d then forceL (put sl (some d) x) K else forceS (killSV d x) fun x => setK sl d x K
theorem map_kill (d : Nat) : ∀ sl : Sl, rooted sl d = false → sl.map (killSV d) = sl
  | [], _ => rfl
  | x :: xs, h => by
    simp only [rooted] at h
    by_cases hx : x.roots.contains d = true
    · rw [if_pos hx] at h; cases h
    · rw [if_neg hx] at h
      have hx' : d ∉ x.roots := by simpa using hx
      simp only [List.map, killSV, if_neg hx', map_kill d xs h]
theorem putK_put {pin : List Nat} {sl : Sl} {d : Option Nat} {x : SV} {K : Sl → Prop} (h : putK pin sl d x K) : (∀ t ∈ pin, d ≠ some t) ∧ K (put sl d x) := by
  cases d with
  | none => exact ⟨fun _ _ e => (by cases e), h⟩
  | some d =>
    simp only [putK] at h
    by_cases hp : pin.contains d = true
    · rw [if_pos hp] at h; exact h.elim
    · rw [if_neg hp] at h
      refine ⟨fun t ht e => hp (by cases e; simpa using ht), ?_⟩
      split at h
      · rwa [forceL_eq] at h
      · rename_i hr
        simpa only [forceS_eq, setK_eq, put, putT, map_kill d sl (by simpa using hr)] using h
/-- Some data in cells of these shapes. -/
def exCs : List CV → (List CV → Prop) → Prop
  | [], K => K []
  | .sc (.int k _) :: zs, K => ∃ n : Int, exCs zs fun cs => K (.sc (.int k n) :: cs)
  | .sc (.bool _) :: zs, K => ∃ b : Bool, exCs zs fun cs => K (.sc (.bool b) :: cs)
  | .sc (.string _) :: zs, K => ∃ b : ByteArray, exCs zs fun cs => K (.sc (.string b) :: cs)
  | .own (.sl sz _) :: zs, K => ∃ es : List DV, exCs zs fun cs => K (.own (.sl sz es) :: cs)
  | .rd (.sl sz _) :: zs, K => ∃ es : List DV, exCs zs fun cs => K (.rd (.sl sz es) :: cs)
  | c :: zs, K => exCs zs fun cs => K (c :: cs)
/-- All data in cells of these shapes. -/
def allCs : List CV → (List CV → Prop) → Prop
  | [], K => K []
  | .sc (.int k _) :: zs, K => ∀ n : Int, allCs zs fun cs => K (.sc (.int k n) :: cs)
  | .sc (.bool _) :: zs, K => (allCs zs fun cs => K (.sc (.bool true) :: cs)) ∧ allCs zs fun cs => K (.sc (.bool false) :: cs)
  | .sc (.string _) :: zs, K => ∀ b : ByteArray, allCs zs fun cs => K (.sc (.string b) :: cs)
  | .own (.sl sz _) :: zs, K => ∀ es : List DV, allCs zs fun cs => K (.own (.sl sz es) :: cs)
  | .rd (.sl sz _) :: zs, K => ∀ es : List DV, allCs zs fun cs => K (.rd (.sl sz es) :: cs)
  | c :: zs, K => allCs zs fun cs => K (c :: cs)
/-- A truth that is asked for. -/
def condB (b : Bool) (A B : Prop) : Prop := match b with
  | true => A
  | false => B
/-- Each truth among the cells is taken apart. -/
def splitCs : List CV → (List CV → Prop) → Prop
  | [], K => K []
  | .sc (.bool b) :: zs, K => (b = true → splitCs zs fun cs => K (.sc (.bool true) :: cs)) ∧ (b = false → splitCs zs fun cs => K (.sc (.bool false) :: cs))
  | c :: zs, K => splitCs zs fun cs => K (c :: cs)
/-- The same, where truths are taken apart at once. -/
def splitS (sp : Bool) (cs : List CV) (K : List CV → Prop) : Prop := if sp then K cs else splitCs cs K
def mkRV (agg : Bool) (cs : List CV) : RV := if agg then .agg cs else .cell (cs.headD .un)
def chop : List (Bool × List CV) → List CV → List RV
  | [], _ => []
  | (a, zs) :: rs, cs => mkRV a (cs.take zs.length) :: chop rs (cs.drop zs.length)
def RS.cells : RS → List CV
  | .one _ zs => zs
  | .tup rs => rs.flatMap (·.2)
  | .bx zs => zs
def RS.mk : RS → List CV → SV
  | .one a _, cs => .one (mkRV a cs)
  | .tup rs, cs => .tup (chop rs cs)
  | .bx _, cs => .box cs
def RS.ok : RS → Bool
  | .one a zs => a || !zs.isEmpty
  | .tup rs => rs.all fun r => !r.2.isEmpty
  | .bx _ => false
/-- The result is a box. -/
def RS.isBx : RS → Bool
  | .bx _ => true
  | _ => false
/-- What a callee gives as its own, where its caller takes it for reading alone. -/
def CV.asOwn : CV → CV
  | .rd d => .own d
  | c => c
def CV.fitR : CV → Bool
  | .own _ | .sc _ | .rd _ => true
  | _ => false
/-- A call, its result into slot dst. -/
def callK (P : Program) (sp : Bool) (pin : List Nat) (f : FuncId) (args : List SV) (rs : RS) (dst : Option Nat) (sl : Sl) (K : Sl → Prop) : Prop :=
  if (rs.ok && rs.cells.all CV.fitR) = false then False else exCs rs.cells fun cs => CallD P f args (fun r _ => r = rs.mk (cs.map CV.asOwn)) ∧ splitS sp cs fun cs' => putK pin sl dst (rs.mk cs') K

def conjK : List Prop → Prop → Prop
  | [], K => K
  | c :: cs, K => c ∧ conjK cs K
/-- What comes into a slot; a truth is taken apart at once. -/
def outK (pin : List Nat) (part : Bool) (c : List Prop) (x : SV) (sl : Sl) (dst : Option Nat) (K : Sl → Prop) : Prop :=
  conjK c (match part, x with
    | true, .one (.cell (.sc (.bool t))) => (t = true → putK pin sl dst (.one (.cell (.sc (.bool true)))) K) ∧ (t = false → putK pin sl dst (.one (.cell (.sc (.bool false)))) K)
    | _, x => putK pin sl dst x K)

/-- Operations that make a truth, or read one. -/
def parts : Op → Bool
  | .binOp .. | .load .. | .index .. => true
  | _ => false
def minMax : Builtin → Option Bool
  | .min => some false
  | .max => some true
  | _ => none
def minMaxV (mx : Bool) : SV → SV → Option Value
  | .one (.cell (.sc (.int k a))), .one (.cell (.sc (.int k' b))) => if sameK k k' then some (.int k (if mx then (if a < b then b else a) else (if b < a then b else a))) else none
  | _, _ => none
/-- One operation whose guard is met. -/
def opK0 (P : Program) (C : Cfg) (sl : Sl) (o : Oper) (K : Sl → Prop) : Prop :=
  match o.op with
  | .pick c a b => match opView C.tb o.type sl c with
    | some (.one (.cell (.sc (.bool true)))) => match opView C.tb o.type sl a with
      | some (.one (.cell (.sc u))) => putK C.pin sl o.dst (.one (.cell (.sc u))) K
      | _ => False
    | some (.one (.cell (.sc (.bool false)))) => match opView C.tb o.type sl b with
      | some (.one (.cell (.sc u))) => putK C.pin sl o.dst (.one (.cell (.sc u))) K
      | _ => False
    | _ => False
  | .call c => match c.callee with
    | .value (.func f) => match argsV C.tb sl c.argTypes.toList c.args.toList with
      | some args => callK P C.sp C.pin f args (C.sg f) o.dst sl K
      | none => False
    | .builtin .len => match c.argTypes.toList, c.args.toList with
      | [t], [x] => match lenK (C.tb t).k (opView C.tb t sl x) with
        | some n => putK C.pin sl o.dst (.one (.cell (.sc (.int .i64 n)))) K
        | none => False
      | _, _ => False
    | .builtin b => match minMax b, c.args.toList with
      | some mx, [x, y] => match opView C.tb o.type sl x, opView C.tb o.type sl y with
        | some u, some v => match minMaxV mx u v with
          | some r => putK C.pin sl o.dst (.one (.cell (.sc r))) K
          | none => False
        | _, _ => False
      | _, _ => False
    | _ => False
  | op => match opV C.tb sl o.type op with
    | some (c, x, sl') => forceL sl' fun sl' => outK C.pin (parts op && !C.sp) c x sl' o.dst K
    | none => False

/- Operations that write, or that take what they are given out of where it lay. -/
def bareC : CV → CV
  | .own _ => .un
  | c => c
/-- What survives of a slot that hangs on the box s, when something has been taken out of it. -/
def keepB (s : Nat) (x : SV) : SV :=
  if s ∈ x.roots then
    match x with
    | .ptr s' [] j => .ptr s' [] j
    | .one (.cell (.hd s' [])) => .one (.cell (.hd s' []))
    | _ => .dead
  else x
/-- A variable loaded out of a box; what it owns goes along. -/
def loadMv (tb : Tb) (t : TypeId) (sl : Sl) : SV → Option (SV × Sl)
  | .ptr s [] j => match gt sl s with
    | .box cs => if Nat.ble (j + (tb t).zero.length) cs.length && ((cs.drop j).take (tb t).zero.length).all CV.free then
        (wrapCs (tb t).k ((cs.drop j).take (tb t).zero.length)).map fun r => (.one r, (sl.map (keepB s)).set s (.box (cs.take j ++ (((cs.drop j).take (tb t).zero.length).map bareC ++ cs.drop (j + (tb t).zero.length)))))
      else none
    | _ => none
  | _ => none
def appC (bytes sz : Nat) (d d2 : DV) : List Prop := if d.sz == sz && (d2.sz == sz && Nat.blt 0 sz) then [(d.n + d2.n) * bytes ≤ 140737488355328, d.n + d2.n ≤ 140737488355328] else [False]
/-- 'append': the first is taken; the second is taken, or holds scalars alone. -/
def appV (tb : Tb) (sl : Sl) (t : TypeId) (x : Operand) : Operand → Option (List Prop × SV × Sl)
  | .tmp u => match (tb t).k, opTake tb t sl x with
    | .slice e, some (.one (.cell (.own (.sl sz es))), sl1) => match gt sl1 u with
      | .one (.cell (.own (.sl sz2 es2))) => some (appC (tb e).bytes (tb e).size (.sl sz es) (.sl sz2 es2), .one (.cell (.own (.sl sz (es ++ es2)))), putT sl1 u .dead)
      | _ => match sliceD (view sl1 u) with
        | some (.sl sz2 es2) => some (AllVal es2 :: appC (tb e).bytes (tb e).size (.sl sz es) (.sl sz2 es2), .one (.cell (.own (.sl sz (es ++ es2)))), sl1)
        | _ => none
    | _, _ => none
  | _ => none
/-- The header of what a box owns, taken out of the box where it is asked for. -/
def grabT (sl : Sl) (t : Nat) : Sl :=
  match gt sl t with
  | .one (.cell (.hd s [j])) => match gt sl s with
    | .box cs => match cs.getD j .un with
      | .own d => putT ((sl.map (keepB s)).set s (.box (cs.take j ++ (.un :: cs.drop (j + 1))))) t (.one (.cell (.own d)))
      | _ => sl
    | _ => sl
  | _ => sl
def grabO (sl : Sl) : Operand → Sl
  | .tmp t => grabT sl t
  | _ => sl
/-- A cut of what a slot owns, which is taken. -/
def cutMv (tb : Tb) (sl : Sl) (ty t : TypeId) (s : Nat) (lo hi mx : Option Operand) : Option (List Prop × SV × Sl) :=
  match mx, gt sl s, (tb t).k with
  | none, .one (.cell (.own d)), .slice e => match boundI tb ty sl lo 0, boundI tb ty sl hi d.n with
    | some l, some h => some (cutC d (tb e).size l h, .one (.cell (.own (cutD d l.toNat h.toNat))), putT sl s .dead)
    | _, _ => none
  | _, _, _ => none
def overlay (es : List DV) (j : Nat) (new : List DV) : List DV := setRange es j new
def setDs (x : SV) (q : List Nat) (j : Nat) (new : List DV) : SV :=
  match x, q with
  | .box cs, i :: q => match cs.getD i .un with
    | .own d => .box (cs.set i (.own (d.modP (fun es => overlay es j new) q)))
    | _ => .dead
  | .one (.cell (.own d)), q => .one (.cell (.own (d.modP (fun es => overlay es j new) q)))
  | _, _ => .dead
def setDok (x : SV) (q : List Nat) (j n : Nat) : Option (List Prop) :=
  match x, q with
  | .box cs, i :: q => match cs.getD i .un with
    | .own d => some [d.InP q, j + n ≤ (d.getP q).es.length]
    | _ => none
  | .one (.cell (.own d)), q => some [d.InP q, j + n ≤ (d.getP q).es.length]
  | _, _ => none
def cutOf : SV → Option (Nat × List Nat × Nat × List DV)
  | .one (.cell (.sub s p lo (.sl 1 es))) => some (s, p, lo, es)
  | .one (.cell (.ref s p (.sl 1 es))) => some (s, p, 0, es)
  | _ => none
def cutOfZ : SV → Option (Nat × List Nat × Nat × Nat × List DV)
  | .one (.cell (.sub s p lo (.sl sz es))) => some (s, p, lo, sz, es)
  | .one (.cell (.ref s p (.sl sz es))) => some (s, p, 0, sz, es)
  | _ => none
/-- 'copy' of rows of cells that own nothing. -/
def cpyZ (tb : Tb) (sl : Sl) (t e : TypeId) (x y : Operand) : Option (List Prop × SV × Sl) :=
  match (opView tb t sl x).bind cutOfZ, (opView tb t sl y).bind sliceD with
  | some (s, p, lo, sz, es), some (.sl sz2 es2) => if sz == (tb e).size && (sz2 == sz && Nat.blt 1 sz) then match setDok (gt sl s) p lo (min (DV.sl sz es).n (DV.sl sz2 es2).n * sz) with
      | some c => some (AllVal es2 :: c, .one (.cell (.sc (.int .i64 (min (DV.sl sz es).n (DV.sl sz2 es2).n : Nat)))), putW sl s p lo (min (DV.sl sz es).n (DV.sl sz2 es2).n * sz) (setDs (gt sl s) p lo (es2.take (min (DV.sl sz es).n (DV.sl sz2 es2).n * sz))))
      | none => none
    else none
  | _, _ => none
/-- 'copy' of single cells. -/
def cpyV (tb : Tb) (sl : Sl) (t : TypeId) (x y : Operand) : Option (List Prop × SV × Sl) :=
  match (tb t).k, (opView tb t sl x).bind cutOf, (opView tb t sl y).bind sliceD with
  | .slice e, some (s, p, lo, es), some (.sl 1 es2) => if (tb e).size == 1 then match setDok (gt sl s) p lo (min es.length es2.length) with
      | some c => some (AllVal es2 :: c, .one (.cell (.sc (.int .i64 (min es.length es2.length : Nat)))), putW sl s p lo (min es.length es2.length) (setDs (gt sl s) p lo (es2.take (min es.length es2.length))))
      | none => none
    else none
  | .slice e, _, _ => cpyZ tb sl t e x y
  | _, _, _ => none
/-- A struct that was loaded out of a box (x), and the box's cells from there on: what a callee that writes through its slices sees. -/
def ioAgg (s : Nat) : Nat → List CV → List CV → Option (List CV)
  | _, [], _ => some []
  | _, _ :: _, [] => none
  | j, x :: xs, b :: bs => match (match x, b with
      | .sc v, _ => some (.sc v)
      | .ref s' [j'] _, .own d => if s' == s && j' == j then some (.own d) else none
      | _, _ => none : Option CV), ioAgg s (j + 1) xs bs with
    | some y, some ys => some (y :: ys)
    | _, _ => none
/-- The box that a struct's headers lie in, and the cell that it begins at. -/
def aggAt : Nat → List CV → Option (Nat × Nat)
  | _, [] => none
  | k, x :: xs => match x with
    | .ref s [j] _ => if Nat.ble k j then some (s, j - k) else none
    | _ => aggAt (k + 1) xs
/-- What is owned, one after the other, replaced. -/
def fillOwn : List CV → List CV → List CV
  | [], _ => []
  | y :: ys, ws => match y, ws with
    | .own _, w :: ws => w :: fillOwn ys ws
    | y, ws => y :: fillOwn ys ws
def fillBox : List CV → List CV → List CV → List CV
  | [], _, _ => []
  | b :: bs, [], _ => b :: bs
  | b :: bs, y :: ys, ws => match y, ws with
    | .own _, w :: ws => w :: fillBox bs ys ws
    | _, ws => b :: fillBox bs ys ws
/-- The place that an argument is lent from to be written, and what the callee sees. -/
def ioV (sl : Sl) : SV → Option (List Prop × Nat × List Nat × SV × List CV)
  | .one (.cell (.ref s p (.sl sz es))) => match gt sl s, p with
    | .one (.cell (.own d)), p => some ([d.InP p, d.getP p = .sl sz es], s, p, .one (.cell (.own (.sl sz es))), [.own (.sl sz es)])
    | .box cs, j :: p => match cs.getD j .un with
      | .own d => some ([d.InP p, d.getP p = .sl sz es], s, j :: p, .one (.cell (.own (.sl sz es))), [.own (.sl sz es)])
      | _ => none
    | _, _ => none
  | .ptr s [] 0 => match gt sl s with
    | .box cs => if cs.all CV.fitV then some ([], s, [], .box cs, cs) else none
    | _ => none
  | .one (.agg xs) => match aggAt 0 xs with
    | some (s, o) => match gt sl s with
      | .box bs => (ioAgg s o xs (bs.drop o)).map fun ys => ([], s, [o], .one (.agg ys), ys.filter CV.isOwn)
      | _ => none
    | none => none
  | _ => none
def ioSV (x : SV) (cs : List CV) : SV :=
  match x with
  | .box _ => .box cs
  | .one (.agg ys) => .one (.agg (fillOwn ys cs))
  | _ => .one (.cell (cs.headD .un))
/-- Slot s, when the callee has written what it was lent. -/
def ioSet (x : SV) (p : List Nat) (cs : List CV) : SV :=
  match x, p with
  | .one (.cell (.own d)), p => .one (.cell (.own (d.setP (cs.headD .un).toDV p)))
  | .box _, [] => .box cs
  | .box bs, j :: p => match bs.getD j .un with
    | .own d => .box (bs.set j (.own (d.setP (cs.headD .un).toDV p)))
    | _ => .dead
  | _, _ => .dead
def ioPut (y x : SV) (p : List Nat) (cs : List CV) : SV :=
  match y with
  | .one (.agg ys) => match x, p with
    | .box bs, [o] => .box (bs.take o ++ fillBox (bs.drop o) ys cs)
    | _, _ => .dead
  | _ => ioSet x p cs
/-- A header below a cell of the box that is lent whole, handed over beside it. -/
def refArg (s i : Nat) (y : SV) (v : SV) : Option SV :=
  match y, v with
  | .box _, .one (.cell (.ref s' (j :: p) d)) => if s' = s then some (.one (.cell (.ref i (j :: p) d))) else none
  | _, _ => none
def argsIo (tb : Tb) (sl : Sl) (s i : Nat) (y : SV) : Nat → List TypeId → List Operand → Option (List SV)
  | _, _, [] => some []
  | k, ts, x :: xs => match (if k = i then some y else match opView tb (ts.headD 0) sl x with
      | some v => if v.roots.contains s then refArg s i y v else argV sl v
      | none => none), argsIo tb sl s i y (k + 1) ts.tail xs with
    | some v, some vs => some (v :: vs)
    | _, _ => none
def keepIoC (bx : Bool) (s : Nat) (p : List Nat) (c : CV) : CV :=
  if s ∈ c.roots then
    match c with
    | .hd s' [] => .hd s' []
    | .hd s' [i] => match bx, p with
      | true, _ :: _ => .hd s' [i]
      | _, _ => .un
    | _ => .un
  else c
def keepIo (bx : Bool) (s : Nat) (p : List Nat) (x : SV) : SV :=
  if s ∈ x.roots then
    match x with
    | .ptr s' [] j' => .ptr s' [] j'
    | .one (.cell c) => .one (.cell (keepIoC bx s p c))
    | .one (.agg cs) => .one (.agg (cs.map (keepIoC bx s p)))
    | _ => .dead
  else x
def callIo (P : Program) (C : Cfg) (f : FuncId) (i : Nat) (tys : List TypeId) (args : List Operand) (dst : Option Nat) (sl : Sl) (K : Sl → Prop) : Prop :=
  match (args[i]?).bind fun x => (opView C.tb (tys.getD i 0) sl x).bind (ioV sl) with
  | some (c, s, p, y, zs) => match argsIo C.tb sl s i y 0 tys args with
    | some as => if ((C.sg f).ok && (C.sg f).cells.all CV.fitR && zs.all CV.fitV) = false then False else
      conjK c (exCs (C.sg f).cells fun cs => exCs zs fun ws => ws.all CV.fitV = true ∧ CallD P f as (fun r bs => r = (C.sg f).mk (cs.map CV.asOwn) ∧ bs.getD i .dead = ioSV y ws) ∧
        splitS C.sp cs fun cs' => forceL ((sl.map (keepIo (isBox (gt sl s)) s p)).set s (ioPut y (gt sl s) p ws)) fun sl' => putK C.pin sl' dst ((C.sg f).mk cs') K)
    | none => False
  | none => False
/-- A call that takes what one of its arguments owns. -/
def callGv (P : Program) (C : Cfg) (f : FuncId) (i : Nat) (tys : List TypeId) (args : List Operand) (dst : Option Nat) (sl : Sl) (K : Sl → Prop) : Prop :=
  match args[i]? with
  | some (.tmp t) => match gt sl t with
    | .one (.cell (.own (.sl sz es))) => match argsIo C.tb sl t i (.one (.cell (.own (.sl sz es)))) 0 tys args with
      | some as => if ((C.sg f).ok && (C.sg f).cells.all CV.fitR) = false then False else
        exCs (C.sg f).cells fun cs => CallD P f as (fun r _ => r = (C.sg f).mk (cs.map CV.asOwn)) ∧ splitS C.sp cs fun cs' => forceL (putT sl t .dead) fun sl' => putK C.pin sl' dst ((C.sg f).mk cs') K
      | none => False
    | _ => False
  | _ => False
def vlTo (u : Value) (d : DV) : CV → CV
  | .vl _ _ => .vl u d
  | c => c
/-- A call that gives a box; the value in it that is read is the first argument. -/
def callBx (P : Program) (C : Cfg) (f : FuncId) (tys : List TypeId) (args : List Operand) (dst : Option Nat) (sl : Sl) (K : Sl → Prop) : Prop :=
  match C.sg f, args with
  | .bx zs, x :: _ => match opView C.tb (tys.headD 0) sl x, argsV C.tb sl tys args with
    | some (.one (.cell (.vl u d))), some as => exCs (zs.map (vlTo u d)) fun cs => cs.all CV.fitV = true ∧ CallD P f as (fun r _ => r = .box cs) ∧ splitS C.sp cs fun cs' => putK C.pin sl dst (.box cs') K
    | _, _ => False
  | _, _ => False
def ctD : CV → Option DV
  | .rd d | .ref _ _ d => some d
  | _ => none
def ctRes (c : CV) (lo hi : Nat) : CV :=
  match c with
  | .rd d => .rd (cutD d lo hi)
  | .ref s p d => .sub s p (lo * d.sz) (cutD d lo hi)
  | _ => .un
/-- A call that gives a cut of a header that it is lent (argument i, cell j). -/
def callCt (P : Program) (C : Cfg) (f : FuncId) (i j : Nat) (tys : List TypeId) (args : List Operand) (dst : Option Nat) (sl : Sl) (K : Sl → Prop) : Prop :=
  match (args[i]?).bind fun x => opView C.tb (tys.getD i 0) sl x, argsV C.tb sl tys args with
  | some (.one (.agg cs)), some as => match ctD (cs.getD j .un) with
    | some (.sl sz es) => ∃ lo hi : Int, (0 ≤ lo ∧ lo ≤ hi ∧ hi ≤ (DV.sl sz es).n) ∧ (∀ u : Value, CallD P f (as.set i (.one (.agg ((cs.map CV.lent).set j (.vl u (.sl sz es)))))) fun r _ => r = .one (.cell (.vl (cutW sz u lo.toNat hi.toNat) (cutD (.sl sz es) lo.toNat hi.toNat)))) ∧
        putK C.pin sl dst (.one (.cell (ctRes (cs.getD j .un) lo.toNat hi.toNat))) K
    | _ => False
  | _, _ => False
/-- 'clear' of single cells. -/
def clrV (tb : Tb) (sl : Sl) (t : TypeId) (x : Operand) : Option (List Prop × SV × Sl) :=
  match (tb t).k, (opView tb t sl x).bind cutOf with
  | .slice e, some (s, p, lo, es) => match (tb e).zero with
    | [.sc z] => if (tb e).size == 1 then (match setDok (gt sl s) p lo es.length with
      | some c => some (c, .tup [], putW sl s p lo es.length (setDs (gt sl s) p lo (List.replicate es.length (.val z))))
      | none => none) else none
    | _ => none
  | _, _ => none
def isX (C : Cfg) (o : Oper) : Bool :=
  match o.op with
  | .move (.tmp _) | .load .. | .slice _ (.tmp _) _ _ _ => match o.dst with
    | some d => C.mv.contains d
    | none => false
  | .box _ (.tmp t) => C.pin.contains t
  | .call c => match c.callee with
    | .value (.func f) => (C.io f).isSome || (C.sg f).isBx || (C.ct f).isSome
    | .value (.tmp _) => true
    | .builtin .append | .builtin .copy | .builtin .clear => true
    | _ => false
  | _ => false
/-- A call that gives a cut of a header: it only reads. -/
def isCt (C : Cfg) (o : Oper) : Bool :=
  match o.op with
  | .call c => match c.callee with
    | .value (.func f) => (C.io f).isNone && (!C.gv f && (C.ct f).isSome)
    | _ => false
  | _ => false
def rdO (C : Cfg) (o : Oper) : Bool := !isX C o || isCt C o
def opX (P : Program) (C : Cfg) (sl : Sl) (o : Oper) (K : Sl → Prop) : Prop :=
  match o.op with
  | .move (.tmp t) => forceL (takeT sl t).2 fun sl' => putK C.pin sl' o.dst (takeT sl t).1 K
  | .load t a => match (opView C.tb o.type sl a).bind (loadMv C.tb t sl) with
    | some (x, sl') => forceL sl' fun sl' => putK C.pin sl' o.dst x K
    | none => False
  | .slice t (.tmp s) lo hi mx => match cutMv C.tb sl o.type t s lo hi mx with
    | some (cs, x, sl') => conjK cs (forceL sl' fun sl' => putK C.pin sl' o.dst x K)
    | none => False
  | .call c => match c.callee with
    | .value (.func f) => match C.io f with
      | some i => if C.gv f then callGv P C f i c.argTypes.toList c.args.toList o.dst sl K else callIo P C f i c.argTypes.toList c.args.toList o.dst sl K
      | none => match C.ct f with
        | some (i, j) => callCt P C f i j c.argTypes.toList c.args.toList o.dst sl K
        | none => callBx P C f c.argTypes.toList c.args.toList o.dst sl K
    | .value (.tmp t) => match gt sl t, argsV C.tb sl c.argTypes.toList c.args.toList with
      | .cloR g caps, some args => callK P C.sp C.pin g (args ++ caps.map SV.rptr) C.dy o.dst sl K
      | _, _ => False
    | .builtin .append => match c.argTypes.toList, c.args.toList with
      | [t, t'], [x, y] => if t == t' then match appV C.tb (grabO sl x) t x y with
        | some (cs, v, sl') => conjK cs (forceL sl' fun sl' => putK C.pin sl' o.dst v K)
        | none => False
        else False
      | _, _ => False
    | .builtin .clear => match c.argTypes.toList, c.args.toList with
      | [t], [x] => match clrV C.tb sl t x with
        | some (cs, v, sl') => conjK cs (forceL sl' fun sl' => putK C.pin sl' o.dst v K)
        | none => False
      | _, _ => False
    | .builtin .copy => match c.argTypes.toList, c.args.toList with
      | [t, _], [x, y] => match cpyV C.tb sl t x y with
        | some (cs, v, sl') => conjK cs (forceL sl' fun sl' => putK C.pin sl' o.dst v K)
        | none => False
      | _, _ => False
    | _ => False
  | _ => False
def opK (P : Program) (C : Cfg) (sl : Sl) (o : Oper) (K : Sl → Prop) : Prop := if isX C o then opX P C sl o K else opK0 P C sl o K

/-- A struct that is written through is put into a box: what it owns goes along, the headers stay. -/
def hdsOf (d : Nat) : Nat → List CV → List CV
  | _, [] => []
  | k, c :: cs => (match c with
    | .own _ => .hd d [k]
    | c => c) :: hdsOf d (k + 1) cs
def boxIo (C : Cfg) (o : Oper) : Option (Nat × Nat) :=
  match o.op, o.dst with
  | .box _ (.tmp t), some d => if C.pin.contains t then some (t, d) else none
  | _, _ => none
def boxK (C : Cfg) (o : Oper) (t d : Nat) (sl : Sl) (K : Sl → Prop) : Prop :=
  match gt sl t with
  | .one (.agg cs) => if o.guard.isNone && (cs.all CV.fit && cs.any CV.isOwn) && (!rooted sl t && !rooted sl d) && (!(d == t) && !C.pin.contains d) && Nat.blt d sl.length then
      forceL ((sl.set d (.box cs)).set t (.one (.agg (hdsOf d 0 cs)))) K else False
  | _ => False
def stepK (P : Program) (C : Cfg) (ops : List Oper) (o : Oper) (sl : Sl) (K : Sl → Prop) : Prop :=
  match boxIo C o with
  | some (t, d) => boxK C o t d sl K
  | none => match o.guard with
    | none => opK P C sl o K
    | some (g, want) => match guardT ops g with
      | some t => match gt sl t with
        | .one (.cell (.sc (.bool b))) => if C.sp then
            condB b (forceL (sl.set t (.one (.cell (.sc (.bool true))))) fun sl => if true = want then opK P C sl o K else putK C.pin sl o.dst .und K)
              (forceL (sl.set t (.one (.cell (.sc (.bool false))))) fun sl => if false = want then opK P C sl o K else putK C.pin sl o.dst .und K)
            else if b = want then opK P C sl o K else putK C.pin sl o.dst .und K
        | .und => putK C.pin sl o.dst .und K
        | _ => False
      | none => False

def opsK (P : Program) (C : Cfg) (ops : List Oper) : List Oper → Sl → (Sl → Prop) → Prop
  | [], sl, K => K sl
  | o :: rest, sl, K => stepK P C ops o sl fun sl' => opsK P C ops rest sl' K

/- Regions whose operations may run in more than one order: what must run ahead of an operation, as a number's bits. -/
def afters (o : Oper) : List Nat := (o.after.toList.filter (Region.binds .any)).map (·.on)
def maskOf (tab : List Nat) : List Nat → Nat
  | [] => 0
  | j :: js => (2 ^ j ||| tab.getD j 0) ||| maskOf tab js
def maskTab : List Oper → List Nat → List Nat
  | [], tab => tab
  | o :: os, tab => maskTab os (tab ++ [maskOf tab (afters o)])
/-- No operation waits for one that comes later in the text. -/
def backB : List Nat → Nat → Bool
  | [], _ => true
  | m :: ms, k => Nat.blt m (2 ^ k) && backB ms (k + 1)
/-- All from e on wait for all ahead of e. -/
def cutB (tab : List Nat) (e : Nat) : Bool := (tab.drop e).all fun m => m &&& (2 ^ e - 1) == 2 ^ e - 1
def segLens (tab : List Nat) : Nat → Nat → Nat → List Nat
  | 0, _, _ => []
  | n + 1, e, last => if cutB tab e then (e - last) :: segLens tab n (e + 1) e else segLens tab n (e + 1) last
def tmpsOf (o : Oper) : List Nat := o.op.operands.toList.filterMap fun | .tmp t => some t | _ => none
def guardSl (ops : List Oper) (o : Oper) : List Nat :=
  match o.guard with
  | some (g, _) => (guardT ops g).toList
  | none => []
/-- The slots that an operation looks at. -/
def foot (ops : List Oper) (o : Oper) (sl : Sl) : List Nat := guardSl ops o ++ (tmpsOf o ++ (tmpsOf o).flatMap fun t => (gt sl t).roots)
def wrS (wr : List (Nat × Nat × List Nat)) (j : Nat) : List Nat :=
  match wr.lookup j with
  | some (s, tv) => s :: tv
  | none => []
def wrK (wr : List (Nat × Nat × List Nat)) (j : Nat) : List Nat :=
  match wr.lookup j with
  | some (_, tv) => tv
  | none => []
/-- The slots that operation j sets; and those of them that it does not only write through. -/
def tgts (wr : List (Nat × Nat × List Nat)) (j : Nat) (o : Oper) : List Nat := o.dst.toList ++ wrS wr j
def kills (wr : List (Nat × Nat × List Nat)) (j : Nat) (o : Oper) : List Nat := o.dst.toList ++ wrK wr j
/-- Slot t, looked at by operation k: each operation that sets it runs surely before, or surely after. -/
def lookOk (tab : List Nat) (wr : List (Nat × Nat × List Nat)) (k t : Nat) : List Oper → Nat → Bool
  | [], _ => true
  | o :: os, j => (!(tgts wr j o).contains t || j == k || (Nat.blt j k && (tab.getD k 0).testBit j) || (Nat.blt k j && (tab.getD j 0).testBit k)) && lookOk tab wr k t os (j + 1)
def killsOf (wr : List (Nat × Nat × List Nat)) : List Oper → Nat → List Nat
  | [], _ => []
  | o :: os, j => kills wr j o ++ killsOf wr os (j + 1)
/-- Slot t, which the value of operation k hangs on: each operation that sets it (otherwise than through it) runs surely before. -/
def hangOk (tab : List Nat) (wr : List (Nat × Nat × List Nat)) (k t : Nat) : List Oper → Nat → Bool
  | [], _ => true
  | o :: os, j => (!(kills wr j o).contains t || (Nat.blt j k && (tab.getD k 0).testBit j)) && hangOk tab wr k t os (j + 1)
/-- A slot that a write through s leaves as it is. -/
def kB (s : Nat) (y : SV) : Bool :=
  !y.roots.contains s || match y with
    | .ptr _ [] _ => true
    | .one (.cell (.hd _ [])) => true
    | _ => false
/-- A slot that a write through s, into what one of its cells owns, leaves as it is: s holds a box. -/
def kBd (s : Nat) (y : SV) : Bool :=
  !y.roots.contains s || match y with
    | .ptr _ [] _ | .ptr _ [_] _ => true
    | .one (.cell (.hd _ [])) | .one (.cell (.hd _ [_])) => true
    | _ => false
/-- The mark of a write into what a cell of a box owns: no slot has this number. -/
def deepM : Nat := 1000000
def kBk (tv : List Nat) (s : Nat) (y : SV) : Bool := if tv == [deepM] && !(s == deepM) then kBd s y else kB s y
def kBs (wr : List (Nat × Nat × List Nat)) (y : SV) : Bool := wr.all fun w => kBk w.2.2 w.2.1 y
/-- Two operations with one target run in the text's order. -/
def ordB (tab : List Nat) (wr : List (Nat × Nat × List Nat)) (k : Nat) (ts : List Nat) : List Oper → Nat → Bool
  | [], _ => true
  | o :: os, j => (Nat.ble k j || !(tgts wr j o).any ts.contains || (tab.getD k 0).testBit j) && ordB tab wr k ts os (j + 1)
def ordAll (tab : List Nat) (wr : List (Nat × Nat × List Nat)) (seg : List Oper) (c : Nat) : List Oper → Nat → Bool
  | [], _ => true
  | o :: os, k => ordB tab wr k (tgts wr k o) seg c && ordAll tab wr seg c os (k + 1)
/-- The slot that a store writes through, and the slots that it empties. -/
def deepT (sl : Sl) (s : Nat) (q : List Nat) : List Nat := if !q.isEmpty && isBox (gt sl s) && Nat.ble sl.length deepM then [deepM] else []
def isDeepO : Operand → Bool
  | .tmp t => t == deepM
  | _ => false
def storeT (tb : Tb) (sl : Sl) (ty : TypeId) : Op → Option (Nat × List Nat)
  | .store _ a x => if isDeepO x then none else match opTake tb ty sl x with
    | some (_, sl') => match opView tb ty sl' a with
      | some (.ptr s q _) => some (s, match x with
        | .tmp tx => if (gt sl tx).isOwn then [tx] else deepT sl s q
        | _ => deepT sl s q)
      | _ => none
    | none => none
  | _ => none
def ownForm : SV → Bool
  | .one (.cell (.own _)) => true
  | _ => false
/-- Which cells of a box are owned. -/
def boxForm : SV → List Bool
  | .box cs => cs.map CV.isOwn
  | _ => []
def bxI (x : SV) : Bool := isBox x && x.roots.isEmpty
def bxForm (x : SV) : List Bool := if x.roots.isEmpty then boxForm x else []
def boxF (j : Nat) (x : SV) : Bool := (bxForm x).getD j false
/-- Operations that only read. -/
def still (sl : Sl) : Op → Bool
  | .move (.tmp t) => match gt sl t with
    | .tup rs => !rs.any RV.isOwn
    | .one (.agg cs) => !cs.any CV.isOwn
    | _ => true
  | .assign (.tmp t) | .box _ (.tmp t) => !(gt sl t).isOwn
  | .extract (.tmp t) i => match gt sl t with
    | .tup rs => match rs[i]? with
      | some r => !r.isOwn
      | none => false
    | _ => false
  | .build _ ps | .buildSlice _ _ ps => ps.toList.all fun p => match p.2 with
    | .tmp t => !(gt sl t).isOwn
    | _ => true
  | .move _ | .assign _ | .box .. | .alloc _ | .load .. | .nilCheck _ | .binOp .. | .unOp .. | .convert .. | .makeSlice .. | .slice .. | .fieldAddr .. | .indexAddr .. | .index .. | .pick .. | .call _ => true
  | _ => false
/-- 'append' of a slot's slice to what another one owns. -/
def appT (o : Oper) : Option (Nat × Nat) :=
  match o.op with
  | .call c => match c.callee, c.args.toList with
    | .builtin .append, [.tmp s, .tmp u] => some (s, u)
    | _, _ => none
  | _ => none
/-- What an operation takes out of slot s, where y lies; and what it leaves there. -/
def takeX (C : Cfg) (o : Oper) (s : Nat) (y : SV) : Option (SV × SV) :=
  match o.op with
  | .move (.tmp t) => if t == s && (o.guard.isNone && y.isOwn) then (if isX C o then some (y, .dead) else match y with
      | .tup rs => some (.tup rs, .dead)
      | .one (.agg cs) => some (.one (.agg cs), .dead)
      | _ => none) else none
  | .assign (.tmp t) => if t == s && (o.guard.isNone && y.isOwn) then some (y, .dead) else none
  | .extract (.tmp t) i => if t == s && o.guard.isNone then (match y with
      | .tup rs => match rs[i]? with
        | some r => if r.isOwn then some (.one r, .tup (rs.set i (.cell .un))) else none
        | none => none
      | _ => none) else none
  | _ => none
def isIo (C : Cfg) (o : Oper) : Bool :=
  match o.op with
  | .call c => match c.callee with
    | .value (.func f) => (C.io f).isSome && !C.gv f
    | _ => false
  | _ => false
/-- The slots that parts take, one by one. -/
def owns : Sl → List (Nat × Operand) → List Nat
  | _, [] => []
  | sl, p :: ps => match p.2 with
    | .tmp t => if (gt sl t).isOwn then t :: owns (sl.set t .dead) ps else owns sl ps
    | _ => owns sl ps
/-- The slots that a struct or a row is put together of, and takes. -/
def bldT (sl : Sl) (o : Oper) : Option (List Nat) :=
  match o.op with
  | .build _ ps | .buildSlice _ _ ps => some (owns sl ps.toList)
  | _ => none
/-- The slot that a call writes through. -/
def ioS (C : Cfg) (sl : Sl) (o : Oper) : Option Nat :=
  match o.op with
  | .call c => match c.callee with
    | .value (.func f) => match C.io f with
      | some i => match (c.args.toList[i]?).bind fun x => (opView C.tb (c.argTypes.toList.getD i 0) sl x).bind (ioV sl) with
        | some (_, s, _) => some s
        | none => none
      | none => none
    | _ => none
  | _ => none
/-- A load that takes; the box that it takes from. -/
def isLd (C : Cfg) (o : Oper) : Bool :=
  match o.op with
  | .load .. => isX C o
  | _ => false
def ldS (C : Cfg) (sl : Sl) (o : Oper) : Option Nat :=
  match o.op with
  | .load _ a => match opView C.tb o.type sl a with
    | some (.ptr s [] _) => some s
    | _ => none
  | _ => none
/-- What a reading operation looks at runs surely before it, or surely after. -/
def footOk (tb : Tb) (ops : List Oper) (tab : List Nat) (wr : List (Nat × Nat × List Nat)) (seg : List Oper) (c : Nat) (o : Oper) (k : Nat) (sl : Sl) : Bool :=
  match o.op with
  | .move (.tmp t) => if (ownForm (gt sl t) || bxI (gt sl t)) && !(killsOf wr seg c).contains t then (guardSl ops o).all fun u => lookOk tab wr k u seg c
    else (foot ops o sl).all fun t => lookOk tab wr k t seg c
  | .load ty (.tmp ta) => (match gt sl ta with
    | .ptr s [] j => boxF j (gt sl s) && (tb ty).zero.length == 1 && !(killsOf wr seg c).contains s && (wr.all fun w => !(w.2.1 == s) || w.2.2 == [deepM]) && ((guardSl ops o ++ [ta]).all fun u => lookOk tab wr k u seg c)
    | _ => false) || (foot ops o sl).all fun t => lookOk tab wr k t seg c
  | .fieldAddr _ (.tmp ta) _ => (match gt sl ta with
    | .ptr .. => (guardSl ops o ++ [ta]).all fun u => lookOk tab wr k u seg c
    | .box cs => bxI (.box cs) && !(killsOf wr seg c).contains ta && ((guardSl ops o).all fun u => lookOk tab wr k u seg c)
    | _ => false) || (foot ops o sl).all fun t => lookOk tab wr k t seg c
  | _ => (foot ops o sl).all fun t => lookOk tab wr k t seg c
def segK (P : Program) (C : Cfg) (ops : List Oper) (tab : List Nat) (wr : List (Nat × Nat × List Nat)) (seg : List Oper) (c : Nat) : List Oper → Nat → Sl → (Sl → Prop) → Prop
  | [], _, sl, K => K sl
  | o :: os, k, sl, K => match wr.lookup k with
    | none => if still sl o.op && rdO C o && footOk C.tb ops tab wr seg c o k sl then
        stepK P C ops o sl fun sl' => match o.dst with
          | some d => if ((gt sl' d).roots.all fun t => hangOk tab wr k t seg c) && kBs wr (gt sl' d) then segK P C ops tab wr seg c os (k + 1) sl' K else False
          | none => False
      else False
    | some (s, tv) => match appT o with
      | some (s', u) => match o.dst with
        | some d => if tv == [s, u] then (if s' == s && o.guard.isNone && ownForm (gt sl s) && ownForm (gt sl u) && !(u == s) && !tv.contains d && Nat.blt d sl.length && ((foot ops o sl ++ tv).all fun t => lookOk tab wr k t seg c) &&
            (sl.all fun y => tv.all fun t => !y.roots.contains t) then stepK P C ops o sl fun sl' => (if (gt sl' d).roots.isEmpty then segK P C ops tab wr seg c os (k + 1) sl' K else False) else False) else if s' == s && tv == [s] && o.guard.isNone && ownForm (gt sl s) && !(gt sl u).isOwn && !(u == s) && !(d == s) && Nat.blt s sl.length && ((foot ops o sl ++ [s]).all fun t => lookOk tab wr k t seg c) &&
            (sl.all fun y => !y.roots.contains s) then stepK P C ops o sl fun sl' => segK P C ops tab wr seg c os (k + 1) sl' K else False
        | none => False
      | none => match takeX C o s (gt sl s) with
        | some (x, X) => match o.dst with
          | some d => if tv == [s] && !(d == s) && Nat.blt s sl.length && Nat.blt d sl.length && ((foot ops o sl ++ [s]).all fun t => lookOk tab wr k t seg c) && (sl.all fun y => !y.roots.contains s) then
            setK sl s X fun sl1 => putK C.pin sl1 (some d) x fun sl' => if (gt sl' s).roots.isEmpty && (gt sl' d).roots.isEmpty then segK P C ops tab wr seg c os (k + 1) sl' K else False
            else False
          | none => False
        | none => if isIo C o then (match o.dst with
          | some d => if o.guard.isNone && tv.isEmpty && !(d == s) && Nat.blt s sl.length && Nat.blt d sl.length && (ioS C sl o == some s) && ((foot ops o sl ++ [s]).all fun t => lookOk tab wr k t seg c) && (sl.all fun y => kB s y) then
            stepK P C ops o sl fun sl' => if (ownForm (gt sl s) == ownForm (gt sl' s)) && (bxI (gt sl s) == bxI (gt sl' s)) && ((gt sl' s).roots.isEmpty && (gt sl' d).roots.isEmpty) then segK P C ops tab wr seg c os (k + 1) sl' K else False
            else False
          | none => False)
          else if isLd C o then (match o.dst with
          | some d => if o.guard.isNone && tv.isEmpty && !(d == s) && Nat.blt s sl.length && Nat.blt d sl.length && (ldS C sl o == some s) && ((foot ops o sl ++ [s]).all fun t => lookOk tab wr k t seg c) && (sl.all fun y => kB s y) then
            stepK P C ops o sl fun sl' => if (ownForm (gt sl s) == ownForm (gt sl' s)) && (bxI (gt sl s) == bxI (gt sl' s)) && ((gt sl' s).roots.isEmpty && (gt sl' d).roots.isEmpty) then segK P C ops tab wr seg c os (k + 1) sl' K else False
            else False
          | none => False)
          else match bldT sl o with
          | some ts => (match o.dst with
            | some d => if o.guard.isNone && !isX C o && ts == tv && tv.contains s && !tv.contains d && Nat.blt d sl.length && ((foot ops o sl ++ tv).all fun t => lookOk tab wr k t seg c) && (sl.all fun y => tv.all fun t => !y.roots.contains t) then
              stepK P C ops o sl fun sl' => if (gt sl' d).roots.isEmpty then segK P C ops tab wr seg c os (k + 1) sl' K else False
              else False
            | none => False)
          | none => if !isX C o && o.dst.isNone && o.guard.isNone && (storeT C.tb sl o.type o.op == some (s, tv)) && !tv.contains s &&
            ((foot ops o sl ++ (s :: tv)).all fun t => lookOk tab wr k t seg c) && (sl.all fun y => kBk tv s y && tv.all fun t => !y.roots.contains t) then
          stepK P C ops o sl fun sl' => if (ownForm (gt sl s) == ownForm (gt sl' s)) && (bxI (gt sl s) == bxI (gt sl' s)) && (gt sl' s).roots.isEmpty && (!(tv == [deepM]) || boxForm (gt sl s) == boxForm (gt sl' s) && (gt sl s).roots.isEmpty) then segK P C ops tab wr seg c os (k + 1) sl' K else False
          else False
/-- Operations that move slots: their source. Operations on the heap, whose outcome hangs on the slots that they look at, and on the heap. -/
def srcT : Op → Option Nat
  | .assign (.tmp t) | .move (.tmp t) | .extract (.tmp t) _ => some t
  | _ => none
def heapO : Op → Bool
  | .alloc _ | .box _ (.tmp _) | .store _ (.tmp _) _ => true
  | _ => false
def detO (o : Oper) : Bool := o.guard.isNone && ((srcT o.op).isSome || heapO o.op)
/-- All on the heap ahead of operation k run before it. -/
def heapB (tab : List Nat) (k : Nat) : List Oper → Nat → Bool
  | [], _ => true
  | o :: os, j => (Nat.ble k j || (!heapO o.op || (tab.getD k 0).testBit j)) && heapB tab k os (j + 1)
def detAll (tab : List Nat) (seg : List Oper) (c : Nat) : List Oper → Nat → Bool
  | [], _ => true
  | o :: os, k => (((tmpsOf o).all fun t => lookOk tab [] k t seg c) && (!heapO o.op || heapB tab k seg c)) && detAll tab seg c os (k + 1)
def detSeg (tab : List Nat) (seg : List Oper) (c : Nat) : Bool := seg.all detO && (ordAll tab [] seg c seg c && detAll tab seg c seg c)
/-- What hangs on slots that are written is forgotten. -/
def cleanS (wr : List (Nat × Nat × List Nat)) (ks : List Nat) (sl : Sl) : Sl := sl.map fun y => if kBs wr y && !(ks.any fun t => y.roots.contains t) then y else .dead
def drawnK (P : Program) (C : Cfg) (ops : List Oper) (tab : List Nat) (wr : List (Nat × Nat × List Nat)) : List Nat → Nat → Sl → (Sl → Prop) → Prop
  | [], c, sl, K => if c == ops.length then K sl else False
  | n :: ns, c, sl, K => if Nat.blt 0 n && Nat.ble (c + n) ops.length && cutB tab (c + n) then
      if n == 1 then match ops[c]? with
        | some o => stepK P C ops o sl fun sl' => drawnK P C ops tab wr ns (c + 1) sl' K
        | none => False
      else if detSeg tab ((ops.drop c).take n) c then opsK P C ops ((ops.drop c).take n) sl fun sl' => drawnK P C ops tab wr ns (c + n) sl' K
      else if ordAll tab wr ((ops.drop c).take n) c ((ops.drop c).take n) c then forceL (cleanS wr (killsOf wr ((ops.drop c).take n) c) sl) fun sl =>
        if (killsOf wr ((ops.drop c).take n) c).all (fun d => !rooted sl d) && sl.all (kBs wr) then
          segK P C ops tab wr ((ops.drop c).take n) c ((ops.drop c).take n) c sl fun sl' => drawnK P C ops tab wr ns (c + n) sl' K
        else False
      else False
    else False
/- Takings out of one tuple may run in the text's order: edges that may be added. -/
def sameTup (o o' : Oper) : Bool :=
  match o.op with
  | .extract (.tmp t) _ => match o'.op with
    | .extract (.tmp t') _ => t == t' && (o.guard.isNone && o'.guard.isNone)
    | _ => false
  | .move (.tmp _) => o.guard.isNone
  | _ => false
def apartL (ops : List Oper) (x y : Oper) : Bool :=
  match x.dst with
  | some d => !(tmpsOf y ++ guardSl ops y).contains d && y.dst != some d && (match y.dst with
    | some d' => !(tmpsOf x).contains d'
    | none => true)
  | none => false
/-- Operation i keeps apart from all that neither run surely before it nor wait for it. -/
def freeL (all : List Oper) (tab : List Nat) (i : Nat) (oi : Oper) : List Oper → Nat → Bool
  | [], _ => true
  | o :: os, k => (k == i || (tab.getD i 0).testBit k || (afters o).contains i || apartL all oi o) && freeL all tab i oi os (k + 1)
def addsTo (all : List Oper) (tab : List Nat) (j : Nat) (o : Oper) : List Oper → Nat → List Nat
  | [], _ => []
  | oi :: os, i => if Nat.blt i j && sameTup oi o && (tab.getD i 0 &&& tab.getD j 0) == tab.getD i 0 && freeL all tab i oi all 0 then i :: addsTo all tab j o os (i + 1) else addsTo all tab j o os (i + 1)
def addE (o : Oper) (js : List Nat) : Oper := { o with after := o.after ++ (js.map fun i => (⟨i, .chain⟩ : Edge)).toArray }
def strong (all : List Oper) (tab : List Nat) : List Oper → Nat → List Oper
  | [], _ => []
  | o :: os, j => addE o (addsTo all tab j o all 0) :: strong all tab os (j + 1)
def isEx (o : Oper) : Bool :=
  match o.op with
  | .extract .. => true
  | _ => false
def isCpy (o : Oper) : Bool :=
  match o.op with
  | .call c => match c.callee with
    | .builtin .copy => true
    | _ => false
  | _ => false
def noSel (o : Oper) : Bool :=
  match o.op with
  | .select .. => false
  | _ => true
def drawnR1 (P : Program) (C : Cfg) (id : Nat) (ops : List Oper) (tab : List Nat) (sl : Sl) (K : Sl → Prop) : Prop :=
  if backB tab 0 then drawnK P C ops tab (C.wr id) (segLens tab ops.length 1 0) 0 sl K else False
def drawnR (P : Program) (C : Cfg) (id : Nat) (ops : List Oper) (tab : List Nat) (sl : Sl) (K : Sl → Prop) : Prop :=
  if Nat.blt 1 (ops.filter isEx).length || ops.any isCpy then (if backB tab 0 && ops.all noSel then drawnR1 P C id (strong ops tab ops 0) (maskTab (strong ops tab ops 0) []) sl K else False)
  else drawnR1 P C id ops tab sl K

inductive Ex where
  | normal | exit (id : Nat) | ret
def Ex.toExit : Ex → Exit
  | .normal => .normal
  | .exit id => .exit id
  | .ret => .ret

def thenK (next : Sl → Prop) (Q : Ex → Sl → Prop) : Ex → Sl → Prop
  | .normal, sl => next sl
  | e, sl => Q e sl
def blockK (id : Nat) (Q : Ex → Sl → Prop) : Ex → Sl → Prop
  | .exit id', sl => if id' = id then Q .normal sl else Q (.exit id') sl
  | e, sl => Q e sl

/-- Of one kind, with as many cells. -/
def shapeB : SV → SV → Bool
  | .one (.cell _), .one (.cell _) => true
  | .one (.agg a), .one (.agg b) => a.length == b.length
  | .box a, .box b => a.length == b.length
  | _, _ => false
def svCells : SV → List CV
  | .one (.cell c) => [c]
  | .one (.agg cs) => cs
  | .box cs => cs
  | _ => []
def svMk : SV → List CV → SV
  | .one (.cell _), cs => .one (.cell (cs.headD .un))
  | .one (.agg _), cs => .one (.agg cs)
  | .box _, cs => .box cs
  | x, _ => x
/-- An invariant over data of these shapes, and a bound on the rounds. -/
def InvT : List CV → Type
  | [] => Nat → Prop
  | .sc (.int _ _) :: zs => Int → InvT zs
  | .sc (.bool _) :: zs => Bool → InvT zs
  | .sc (.string _) :: zs => ByteArray → InvT zs
  | .own (.sl _ _) :: zs => List DV → InvT zs
  | .rd (.sl _ _) :: zs => List DV → InvT zs
  | _ :: zs => InvT zs
/-- The invariant, at cells that are of these shapes. -/
def appI : (zs : List CV) → InvT zs → List CV → Nat → Prop
  | [], I, [], n => I n
  | .sc (.int k _) :: zs, I, .sc (.int k' m) :: cs, n => if sameK k k' then appI zs (I m) cs n else False
  | .sc (.bool _) :: zs, I, .sc (.bool b) :: cs, n => appI zs (I b) cs n
  | .sc (.string _) :: zs, I, .sc (.string b) :: cs, n => appI zs (I b) cs n
  | .own (.sl sz _) :: zs, I, .own (.sl sz' es) :: cs, n => if sz == sz' then appI zs (I es) cs n else False
  | .rd (.sl sz _) :: zs, I, .rd (.sl sz' es) :: cs, n => if sz == sz' then appI zs (I es) cs n else False
  | .vl v d :: zs, I, .vl v' d' :: cs, n => v' = v ∧ d' = d ∧ appI zs I cs n
  | _, _, _, _ => False
/-- The slots hv forgotten and taken anew, those of keep as they are, all else dead. -/
def fillS (keep : List Nat) : Nat → Sl → List (Nat × SV) → Sl
  | _, [], _ => []
  | i, x :: sl, hv => (match hv.lookup i with
    | some y => y
    | none => if keep.contains i then x else .dead) :: fillS keep (i + 1) sl hv
def cutHv (sl0 : Sl) : List Nat → List CV → List (Nat × SV)
  | [], _ => []
  | t :: ts, cs => (t, svMk (gt sl0 t) (cs.take (svCells (gt sl0 t)).length)) :: cutHv sl0 ts (cs.drop (svCells (gt sl0 t)).length)
def pickHv (sl : Sl) (hv : List Nat) : List CV := hv.flatMap fun t => svCells (gt sl t)
def sameS (sl sl' : Sl) : List Nat → Prop
  | [] => True
  | [t] => gt sl' t = gt sl t
  | t :: ts => gt sl' t = gt sl t ∧ sameS sl sl' ts

/-- Code at the data level; ann is asked by the number of a loop's first region. -/
def firstR : Code → Nat
  | .region id _ _ => id
  | .seq a _ => firstR a
  | .block _ a => firstR a
  | .loop a => firstR a
  | .scope a => firstR a
  | _ => 0
def dwp (P : Program) (C : Cfg) : Code → (Ex → Sl → Prop) → Sl → Prop
  | .skip, Q, sl => Q .normal sl
  | .region _ ops false, Q, sl => opsK P C ops.toList ops.toList sl (Q .normal)
  | .region id ops true, Q, sl => drawnR P C id ops.toList (maskTab ops.toList []) sl (Q .normal)
  | .seq a b, Q, sl => dwp P C a (thenK (dwp P C b Q) Q) sl
  | .cond c a b, Q, sl => match opView C.tb 0 sl c with
    | some (.one (.cell (.sc (.bool t)))) => if C.sp then condB t (dwp P C a Q sl) (dwp P C b Q sl) else match t with
      | true => dwp P C a Q sl
      | false => dwp P C b Q sl
    | some (.one (.cell (.nb es))) => (es = [] → dwp P C a Q sl) ∧ dwp P C b Q sl
    | _ => False
  | .block id c, Q, sl => dwp P C c (blockK id Q) sl
  | .loop c, Q, sl => if (C.ann (firstR c)).1.all fun t => shapeB (gt sl t) (gt sl t) then forceCs (pickHv sl (C.ann (firstR c)).1) fun zs =>
    ∃ I : InvT zs, (∃ n, appI zs I zs n) ∧
      allCs zs fun cs => ∀ n, appI zs I cs n →
        forceL (fillS (C.ann (firstR c)).2 0 sl (cutHv sl (C.ann (firstR c)).1 cs)) fun sl1 =>
        dwp P C c (thenK (fun sl' => if (C.ann (firstR c)).1.all fun t => shapeB (gt sl t) (gt sl' t) then
          sameS sl sl' (C.ann (firstR c)).2 ∧ ∃ m, m < n ∧ forceCs (pickHv sl' (C.ann (firstR c)).1) fun cs' => appI zs I cs' m else False) Q) sl1 else False
  | .exit id, Q, sl => Q (.exit id) sl
  | .ret, Q, sl => Q .ret sl
  | _, _, _ => False
/-- What comes out of a result's slot. -/
def resV (tb : Tb) (sl : Sl) : ResultVar → Option (RV × Sl)
  | .tmp t => match gt sl t with
    | .one (.cell (.hd s [])) => match gt sl s with
      | .one (.cell (.own d')) => some (.cell (.own d'), putT sl s .dead)
      | _ => none
    | .one (.cell (.hd s [j])) => match gt sl s with
      | .box cs => match cs.getD j .un with
        | .own d' => some (.cell (.own d'), putT sl s .dead)
        | _ => none
      | _ => none
    | .one r => if r.roots.isEmpty then some (r, putT sl t .dead) else none
    | _ => none
  | .cell a ty => match gt sl a with
    | .box cs => if (cs.flatMap CV.roots).isEmpty && cs.length == (tb ty).size then (wrapCs (tb ty).k cs).map fun r => (r, putT sl a .dead) else none
    | _ => none
def resVs (tb : Tb) (sl : Sl) : List ResultVar → Option (List RV × Sl)
  | [] => some ([], sl)
  | r :: rs => match resV tb sl r with
    | some (x, sl') => match resVs tb sl' rs with
      | some (xs, sl'') => some (x :: xs, sl'')
      | none => none
    | none => none
def tupR : List RV → SV
  | [r] => .one r
  | rs => .tup rs
def outArgs (pin : List Nat) : Nat → Nat → Sl → List SV
  | 0, _, _ => []
  | n + 1, i, sl => (if pin.contains i && (gt sl i).roots.isEmpty then gt sl i else .dead) :: outArgs pin n (i + 1) sl
/-- Headers of a box (slot d) from cell k on, and the box's cells: what is owned comes back. -/
def backCs (d : Nat) : Nat → List CV → List CV → Option (List CV)
  | _, [], _ => some []
  | _, _ :: _, [] => none
  | k, c :: cs, b :: bs => match (match c, b with
      | .sc v, _ => some (.sc v)
      | .hd d' [k'], .own x => if d' == d && k' == k then some (.own x) else none
      | _, _ => none : Option CV), backCs d (k + 1) cs bs with
    | some y, some ys => some (y :: ys)
    | _, _ => none
/-- What was put into a box to be written through (boxK) taken out of it. -/
def outSl (pin : List Nat) (sl : Sl) : Sl :=
  match pin with
  | [t] => match gt sl t with
    | .one (.agg cs) => match (gt sl t).roots with
      | d :: _ => match gt sl d with
        | .box bs => match backCs d 0 cs bs with
          | some ys => (sl.map fun _ => SV.dead).set t (.one (.agg ys))
          | none => sl
        | _ => sl
      | [] => sl
    | _ => sl
  | _ => sl
/-- The box that is given as the one result. -/
def retBx (sl : Sl) : List ResultVar → Option (Nat × List CV)
  | [.tmp t] => match gt sl t with
    | .box cs => if (cs.flatMap CV.roots).isEmpty then some (t, cs) else none
    | _ => none
  | _ => none
/-- At the end of a function's body. -/
def retK (C : Cfg) (rs : List ResultVar) (n : Nat) (post : SV → List SV → Prop) : Ex → Sl → Prop
  | .exit _, _ => False
  | _, sl => match retBx sl rs with
    | some (t, cs) => forceL (outArgs C.pin n 0 (putT sl t .dead)) fun as => post (.box cs) as
    | none => match resVs C.tb sl rs with
      | some (xs, sl') => forceS (tupR xs) fun r => forceL (outArgs C.pin n 0 (outSl C.pin sl')) fun as => post r as
      | none => False
def bodyOf (f : Func) : Code := f.body.getD .skip

end Go.Proofs.Ytlffmhhdgedddaa.DL
