/- The library: parts L1 to L3. -/
import Derived.Below
import Derived.Deep.MidRow
/- The data level, part 1: data, what it is for cells of memory to read as data, and how that is kept. -/
namespace Go.Proofs.Ytlffmhhdgedddaa.DL
open Go Go.RowKit

/-- Data: a scalar of the machine, or a slice: the size of an element in cells, and all its cells. -/
inductive DV where
  | val (v : Value)
  | sl (sz : Nat) (es : List DV)

def isSc : Value → Bool
  | .int .. | .bool _ | .string _ | .slice none 0 0 => true
  | _ => false

/-- Block b is a row of at least m cells that may be written. -/
def OwnRow (w : World) (b m : Nat) : Prop := ∃ c el, w.heap[b]? = some (.cells c el (0, 0)) ∧ m ≤ c.size

/-- The cells vs read as the data ds, over the blocks bs; o: each row that is met may be written. -/
inductive Rd (o : Bool) (w : World) : List Value → List DV → List Nat → Prop
  | nil : Rd o w [] [] []
  | sc {v : Value} {vs : List Value} {ds : List DV} {bs : List Nat} : isSc v = true → Rd o w vs ds bs → Rd o w (v :: vs) (.val v :: ds) bs
  | e0 {a : Option Addr} {cap sz : Nat} {vs : List Value} {ds : List DV} {bs : List Nat} : (o = true → cap = 0) → Rd o w vs ds bs →
      Rd o w (.slice a 0 cap :: vs) (.sl sz [] :: ds) bs
  | sl {b off n cap sz : Nat} {us : List Value} {es : List DV} {bs1 : List Nat} {vs : List Value} {ds : List DV} {bs2 : List Nat} :
      w.rangeAt b off us → (o = true → OwnRow w b (off + cap * sz)) → b < w.heap.size → es.length = n * sz → 0 < sz ∧ n ≤ cap →
      Rd o w us es bs1 → Rd o w vs ds bs2 → Rd o w (.slice (some ⟨b, off, none⟩) n cap :: vs) (.sl sz es :: ds) (b :: (bs1 ++ bs2))

theorem Rd.length {o : Bool} {w : World} {vs : List Value} {ds : List DV} {bs : List Nat} (h : Rd o w vs ds bs) : vs.length = ds.length := by
  induction h with
  | nil => rfl
  | sc _ _ ih => simp [ih]
  | e0 _ _ ih => simp [ih]
  | sl _ _ _ _ _ _ _ _ ih => simp [ih]

theorem Rd.weaken {w : World} {vs : List Value} {ds : List DV} {bs : List Nat} (h : Rd true w vs ds bs) : Rd false w vs ds bs := by
  induction h with
  | nil => exact .nil
  | sc h _ ih => exact .sc h ih
  | e0 _ _ ih => exact .e0 (fun h => by cases h) ih
  | sl h1 _ h3 h4 h5 _ _ ih1 ih2 => exact .sl h1 (fun h => by cases h) h3 h4 h5 ih1 ih2

theorem Rd.lt {o : Bool} {w : World} {vs : List Value} {ds : List DV} {bs : List Nat} (h : Rd o w vs ds bs) : ∀ b ∈ bs, b < w.heap.size := by
  induction h with
  | nil => intro b hb; cases hb
  | sc _ _ ih => exact ih
  | e0 _ _ ih => exact ih
  | sl _ _ h3 _ _ _ _ ih1 ih2 =>
    intro b hb
    rcases List.mem_cons.1 hb with rfl | hb
    · exact h3
    · rcases List.mem_append.1 hb with hb | hb
      · exact ih1 b hb
      · exact ih2 b hb

theorem rangeAt_block {w w' : World} {b off : Nat} {us : List Value} (hb : w'.heap[b]? = w.heap[b]?) (h : w.rangeAt b off us) : w'.rangeAt b off us :=
  fun j v hv => (World.cell?_of_block (w := w) hb).trans (h j v hv)

theorem Rd.frame {o : Bool} {w w' : World} {vs : List Value} {ds : List DV} {bs : List Nat} (h : Rd o w vs ds bs)
    (hs : w.heap.size ≤ w'.heap.size) (hb : ∀ b ∈ bs, w'.heap[b]? = w.heap[b]?) : Rd o w' vs ds bs := by
  induction h with
  | nil => exact .nil
  | sc h _ ih => exact .sc h (ih hb)
  | e0 h _ ih => exact .e0 h (ih hb)
  | sl h1 h2 h3 h4 h5 _ _ ih1 ih2 =>
    have hbb := hb _ (List.mem_cons_self ..)
    refine .sl (rangeAt_block hbb h1) (fun ho => ?_) (Nat.lt_of_lt_of_le h3 hs) h4 h5
      (ih1 fun b' h' => hb _ (List.mem_cons_of_mem _ (List.mem_append_left _ h'))) (ih2 fun b' h' => hb _ (List.mem_cons_of_mem _ (List.mem_append_right _ h')))
    obtain ⟨c, el, hc, hm⟩ := h2 ho
    exact ⟨c, el, hbb.trans hc, hm⟩

theorem Rd.append {o : Bool} {w : World} {vs1 vs2 : List Value} {ds1 ds2 : List DV} {bs1 bs2 : List Nat} (h : Rd o w vs1 ds1 bs1) (h' : Rd o w vs2 ds2 bs2) :
    Rd o w (vs1 ++ vs2) (ds1 ++ ds2) (bs1 ++ bs2) := by
  induction h with
  | nil => exact h'
  | sc h _ ih => exact .sc h ih
  | e0 h _ ih => exact .e0 h ih
  | sl h1 h2 h3 h4 h5 hr _ _ ih2 =>
    have := Rd.sl h1 h2 h3 h4 h5 hr ih2
    simpa using this

theorem Rd.split {o : Bool} {w : World} {vs : List Value} {ds : List DV} {bs : List Nat} (h : Rd o w vs ds bs) :
    ∀ k, ∃ b1 b2, Rd o w (vs.take k) (ds.take k) b1 ∧ Rd o w (vs.drop k) (ds.drop k) b2 ∧ bs = b1 ++ b2 := by
  induction h with
  | nil => intro k; exact ⟨[], [], by simpa using .nil, by simpa using .nil, rfl⟩
  | sc h hr ih =>
    intro k
    cases k with
    | zero => exact ⟨[], _, .nil, .sc h hr, rfl⟩
    | succ k =>
      obtain ⟨b1, b2, h1, h2, rfl⟩ := ih k
      exact ⟨b1, b2, by simpa using .sc h h1, by simpa using h2, rfl⟩
  | e0 h hr ih =>
    intro k
    cases k with
    | zero => exact ⟨[], _, .nil, .e0 h hr, rfl⟩
    | succ k =>
      obtain ⟨b1, b2, h1, h2, rfl⟩ := ih k
      exact ⟨b1, b2, by simpa using .e0 h h1, by simpa using h2, rfl⟩
  | @sl b off n cap sz us es bs1 vs ds bs2 h1 h2 h3 h4 h5 hr hr' _ ih2 =>
    intro k
    cases k with
    | zero => exact ⟨[], _, .nil, .sl h1 h2 h3 h4 h5 hr hr', rfl⟩
    | succ k =>
      obtain ⟨b1, b2, g1, g2, rfl⟩ := ih2 k
      refine ⟨b :: (bs1 ++ b1), b2, by simpa using .sl h1 h2 h3 h4 h5 hr g1, by simpa using g2, by simp⟩

theorem Rd.get {o : Bool} {w : World} {vs : List Value} {ds : List DV} {bs : List Nat} (h : Rd o w vs ds bs) {j : Nat} {v : Value} (hj : vs[j]? = some v) :
    ∃ d, ds[j]? = some d ∧ ∃ b1 b2 b3, Rd o w (vs.take j) (ds.take j) b1 ∧ Rd o w [v] [d] b2 ∧ Rd o w (vs.drop (j + 1)) (ds.drop (j + 1)) b3 ∧ bs = b1 ++ (b2 ++ b3) := by
  obtain ⟨b1, b2, h1, h2, rfl⟩ := h.split j
  have hlt : j < vs.length := (List.getElem?_eq_some_iff.1 hj).1
  have hlt' : j < ds.length := by rw [← h.length]; exact hlt
  have hv : vs[j] = v := (List.getElem?_eq_some_iff.1 hj).2
  obtain ⟨b3, b4, h3, h4, rfl⟩ := h2.split 1
  refine ⟨ds[j], List.getElem?_eq_getElem hlt', b1, b3, b4, h1, ?_, ?_, rfl⟩
  · have e1 : (vs.drop j).take 1 = [v] := by rw [List.drop_eq_getElem_cons hlt, hv]; rfl
    have e2 : (ds.drop j).take 1 = [ds[j]] := by rw [List.drop_eq_getElem_cons hlt']; rfl
    rwa [e1, e2] at h3
  · simpa [List.drop_drop] using h4

/-- What a call, or an operation, keeps: all blocks that were there, but for those of F. -/
structure Ext (F : List Nat) (w w' : World) : Prop where
  os : w'.os = w.os
  tape : w'.tape = w.tape
  output : w'.output = w.output
  size : w.heap.size ≤ w'.heap.size
  block : ∀ k, k < w.heap.size → k ∉ F → w'.heap[k]? = w.heap[k]?

theorem Ext.refl (F : List Nat) (w : World) : Ext F w w := ⟨rfl, rfl, rfl, Nat.le_refl _, fun _ _ _ => rfl⟩
theorem Ext.trans {F : List Nat} {a b c : World} (h : Ext F a b) (k : Ext F b c) : Ext F a c :=
  ⟨k.os.trans h.os, k.tape.trans h.tape, k.output.trans h.output, Nat.le_trans h.size k.size, fun i hi hn => (k.block i (Nat.lt_of_lt_of_le hi h.size) hn).trans (h.block i hi hn)⟩
theorem Ext.mono {F G : List Nat} {a b : World} (h : Ext F a b) (hs : ∀ x ∈ F, x < a.heap.size → x ∈ G) : Ext G a b :=
  ⟨h.os, h.tape, h.output, h.size, fun i hi hn => h.block i hi fun hm => hn (hs _ hm hi)⟩
theorem Ext.drew (F : List Nat) (w : World) (n : Nat) : Ext F w { w with drawn := n } := ⟨rfl, rfl, rfl, Nat.le_refl _, fun _ _ _ => rfl⟩
theorem Ext.alloc (w : World) (o : Obj) : Ext [] w (w.alloc o) :=
  ⟨rfl, rfl, rfl, by show w.heap.size ≤ (w.heap.push o).size; simp, fun k hk _ => Below.heap_alloc w o k hk⟩
theorem Ext.below {w w' : World} (h : Ext [] w w') : Below w.heap.size w w' := ⟨h.os, h.tape, h.output, h.size, fun k hk => h.block k hk (by simp)⟩
theorem Ext.of_below {w w' : World} (h : Below w.heap.size w w') : Ext [] w w' := ⟨h.os, h.tape, h.output, h.size, fun k hk _ => h.block k hk⟩
theorem heap_setCells (b : Nat) : ∀ (vs : List Value) (o : Nat) (w : World) (k : Nat), k ≠ b → (w.setCells b o vs).heap[k]? = w.heap[k]?
  | [], _, _, _, _ => rfl
  | v :: vs, o, w, k, h => by
    rw [World.setCells, heap_setCells b vs (o + 1) _ k h, Below.heap_setCell _ _ _ _ h]

end Go.Proofs.Ytlffmhhdgedddaa.DL

/- The data level, part 2: what a frame's slots are known to hold, and how that is kept. -/
namespace Go.Proofs.Ytlffmhhdgedddaa.DL
open Go Go.RowKit

/-- What is known of one cell: nothing; this very scalar; readable and written by nobody; owned; the header that lies at a place (s: slot, p: the way down from it); a cut of such a header;
a truth that, where it holds, tells that es is empty; the header at a place, and no more; this very value, readable and written by nobody. -/
inductive CV where
  | un
  | sc (v : Value)
  | rd (d : DV)
  | own (d : DV)
  | ref (s : Nat) (p : List Nat) (d : DV)
  | sub (s : Nat) (p : List Nat) (lo : Nat) (d : DV)
  | nb (es : List DV)
  | hd (s : Nat) (p : List Nat)
  | vl (v : Value) (d : DV)

inductive RV where
  | cell (c : CV)
  | agg (cs : List CV)

inductive SV where
  | dead
  | und
  | one (r : RV)
  | tup (rs : List RV)
  | box (cs : List CV)
  | ptr (s : Nat) (q : List Nat) (j : Nat)
  | rptr (ds : List DV)
  | cloR (f : FuncId) (caps : List (List DV))
  | cloS (f : FuncId) (ss : List Nat)

def CV.roots : CV → List Nat
  | .ref s _ _ | .sub s _ _ _ | .hd s _ => [s]
  | _ => []

def locOf : Value → Option (Nat × Nat)
  | .pointer (some ⟨b, o, none⟩) => some (b, o)
  | .slice (some ⟨b, o, none⟩) _ _ => some (b, o)
  | _ => none

/-- The value at the end of a way down, over blocks of F alone. -/
def hdr (w : World) (F : List Nat) : Value → List Nat → Option Value
  | v, [] => some v
  | v, j :: p =>
    match locOf v with
    | some (b, o) => if b ∈ F then (w.cell? ⟨b, o + j, none⟩).bind fun u => hdr w F u p else none
    | none => none

def valAt (ts : Array Value) (t : Nat) : Value := ts.getD t undef

section
variable (w : World) (φ : Option Nat → List Nat) (f : Nat → Value)
def CVRel (v : Value) (ψ : List Nat) : CV → Prop
  | .un => True
  | .sc u => v = u ∧ isSc u = true ∧ ψ = []
  | .rd d => ψ = [] ∧ ∃ bs, Rd false w [v] [d] bs ∧ ∀ b ∈ bs, ∀ t, b ∉ φ t
  | .own d => Rd true w [v] [d] ψ
  | .ref s p d => ψ = [] ∧ hdr w (φ (some s)) (f s) p = some v ∧ ∃ bs, Rd false w [v] [d] bs ∧ ∀ b ∈ bs, b ∈ φ (some s)
  | .sub s p lo d => ψ = [] ∧ ∃ a n cap a' n' cap' bs, hdr w (φ (some s)) (f s) p = some (.slice a n cap) ∧ v = .slice a' n' cap' ∧
      (0 < n' → ∃ b o, a = some ⟨b, o, none⟩ ∧ a' = some ⟨b, o + lo, none⟩) ∧ Rd false w [v] [d] bs ∧ ∀ b ∈ bs, b ∈ φ (some s)
  | .nb es => ψ = [] ∧ ∃ b, v = .bool b ∧ (b = true → es = [])
  | .hd s p => ψ = [] ∧ hdr w (φ (some s)) (f s) p = some v
  | .vl u d => ψ = [] ∧ v = u ∧ ∃ bs, Rd false w [v] [d] bs ∧ ∀ b ∈ bs, ∀ t, b ∉ φ t

inductive CVs : List Value → List CV → List Nat → Prop
  | nil : CVs [] [] []
  | cons {v : Value} {c : CV} {ψ : List Nat} {vs : List Value} {cs : List CV} {ψs : List Nat} : CVRel w φ f v ψ c → CVs vs cs ψs → CVs (v :: vs) (c :: cs) (ψ ++ ψs)

def RVRel (v : Value) (ψ : List Nat) : RV → Prop
  | .cell c => CVRel w φ f v ψ c
  | .agg cs => ∃ vs : Array Value, v = .agg vs ∧ CVs w φ f vs.toList cs ψ

inductive RVs : List Value → List RV → List Nat → Prop
  | nil : RVs [] [] []
  | cons {v : Value} {r : RV} {ψ : List Nat} {vs : List Value} {rs : List RV} {ψs : List Nat} : RVRel w φ f v ψ r → RVs vs rs ψs → RVs (v :: vs) (r :: rs) (ψ ++ ψs)

/-- A pointer to cells that read as ds and that nobody writes. -/
def PtrRd (v : Value) (ds : List DV) : Prop :=
  ∃ b o vs bs, v = .pointer (some ⟨b, o, none⟩) ∧ w.rangeAt b o vs ∧ b < w.heap.size ∧ Rd false w vs ds bs ∧ (∀ t, b ∉ φ t) ∧ ∀ b' ∈ bs, ∀ t, b' ∉ φ t

inductive PtrRds : List Value → List (List DV) → Prop
  | nil : PtrRds [] []
  | cons {v : Value} {ds : List DV} {vs : List Value} {cs : List (List DV)} : PtrRd w φ v ds → PtrRds vs cs → PtrRds (v :: vs) (ds :: cs)

def SlotRel (v : Value) (ψ : List Nat) : SV → Prop
  | .dead => True
  | .und => v = undef
  | .one r => RVRel w φ f v ψ r
  | .tup rs => ∃ vs : Array Value, v = .tuple vs ∧ RVs w φ f vs.toList rs ψ
  | .box cs => (∀ c ∈ cs, c.roots = []) ∧ ∃ b c el ψs, v = .pointer (some ⟨b, 0, none⟩) ∧ w.heap[b]? = some (.cells c el (0, 0)) ∧ CVs w φ f c.toList cs ψs ∧ ψ = b :: ψs
  | .ptr s q j => ψ = [] ∧ ∃ h b o, hdr w (φ (some s)) (f s) q = some h ∧ locOf h = some (b, o) ∧ v = .pointer (some ⟨b, o + j, none⟩)
  | .rptr ds => ψ = [] ∧ PtrRd w φ v ds
  | .cloR g caps => ψ = [] ∧ ∃ ps : Array Value, v = .func (.func g) #[] ps ∧ PtrRds w φ ps.toList caps
  | .cloS g ss => ψ = [] ∧ ∃ ps : Array Value, v = .func (.func g) #[] ps ∧ ps.toList = ss.map f
end

def RV.roots : RV → List Nat
  | .cell c => c.roots
  | .agg cs => cs.flatMap CV.roots
def SV.roots : SV → List Nat
  | .one r => r.roots
  | .tup rs => rs.flatMap RV.roots
  | .box cs => cs.flatMap CV.roots
  | .ptr s _ _ => [s]
  | .cloS _ ss => ss
  | _ => []

/-- From (w, φ, f) to (w', φ', f') the blocks of ψ, what the roots R lead to, and all that nobody owns is as it was. -/
structure Kept (w : World) (φ : Option Nat → List Nat) (f : Nat → Value) (w' : World) (φ' : Option Nat → List Nat) (f' : Nat → Value) (ψ : List Nat) (R : List Nat) : Prop where
  size : w.heap.size ≤ w'.heap.size
  blocks : ∀ b ∈ ψ, w'.heap[b]? = w.heap[b]?
  roots : ∀ r ∈ R, f' r = f r ∧ φ' (some r) = φ (some r) ∧ ∀ b ∈ φ (some r), w'.heap[b]? = w.heap[b]?
  free : ∀ b, b < w.heap.size → (∀ t, b ∉ φ t) → w'.heap[b]? = w.heap[b]? ∧ ∀ t, b ∉ φ' t

section
variable {w w' : World} {φ φ' : Option Nat → List Nat} {f f' : Nat → Value}
theorem Kept.sub {ψ ψ' R R' : List Nat} (h : Kept w φ f w' φ' f' ψ R) (hψ : ∀ b ∈ ψ', b ∈ ψ) (hR : ∀ r ∈ R', r ∈ R) : Kept w φ f w' φ' f' ψ' R' :=
  ⟨h.size, fun b hb => h.blocks b (hψ b hb), fun r hr => h.roots r (hR r hr), h.free⟩

theorem hdr_kept {F : List Nat} (hb : ∀ b ∈ F, w'.heap[b]? = w.heap[b]?) : ∀ (p : List Nat) (v : Value), hdr w' F v p = hdr w F v p
  | [], _ => rfl
  | j :: p, v => by
    simp only [hdr]
    cases hl : locOf v with
    | none => rfl
    | some bo =>
      obtain ⟨b, o⟩ := bo
      dsimp only
      by_cases hF : b ∈ F
      · rw [if_pos hF, if_pos hF, World.cell?_of_block (w := w) (a := ⟨b, o + j, none⟩) (hb b hF)]
        congr 1
        funext u
        exact hdr_kept hb p u
      · rw [if_neg hF, if_neg hF]

theorem CVRel.kept {v : Value} {ψ : List Nat} {c : CV} (h : CVRel w φ f v ψ c) (k : Kept w φ f w' φ' f' ψ c.roots) : CVRel w' φ' f' v ψ c := by
  cases c with
  | un => exact h
  | sc u => exact h
  | rd d =>
    obtain ⟨h1, bs, h2, h3⟩ := h
    refine ⟨h1, bs, h2.frame k.size fun b hb => (k.free b (h2.lt b hb) (h3 b hb)).1, fun b hb => (k.free b (h2.lt b hb) (h3 b hb)).2⟩
  | own d => exact Rd.frame h k.size k.blocks
  | ref s p d =>
    obtain ⟨h1, h2, bs, h3, h4⟩ := h
    obtain ⟨e1, e2, e3⟩ := k.roots s (by simp [CV.roots])
    refine ⟨h1, ?_, bs, h3.frame k.size fun b hb => e3 b (h4 b hb), fun b hb => by rw [e2]; exact h4 b hb⟩
    rw [e1, e2, hdr_kept e3]; exact h2
  | sub s p lo d =>
    obtain ⟨h1, a, n, cap, a', n', cap', bs, h2, h3, h4, h5, h6⟩ := h
    obtain ⟨e1, e2, e3⟩ := k.roots s (by simp [CV.roots])
    refine ⟨h1, a, n, cap, a', n', cap', bs, ?_, h3, h4, h5.frame k.size fun b hb => e3 b (h6 b hb), fun b hb => by rw [e2]; exact h6 b hb⟩
    rw [e1, e2, hdr_kept e3]; exact h2
  | nb es => exact h
  | hd s p =>
    obtain ⟨h1, h2⟩ := h
    obtain ⟨e1, e2, e3⟩ := k.roots s (by simp [CV.roots])
    exact ⟨h1, by rw [e1, e2, hdr_kept e3]; exact h2⟩
  | vl u d =>
    obtain ⟨h1, h0, bs, h2, h3⟩ := h
    exact ⟨h1, h0, bs, h2.frame k.size fun b hb => (k.free b (h2.lt b hb) (h3 b hb)).1, fun b hb => (k.free b (h2.lt b hb) (h3 b hb)).2⟩

theorem CVs.kept {vs : List Value} {ψ : List Nat} {cs : List CV} (h : CVs w φ f vs cs ψ) (k : Kept w φ f w' φ' f' ψ (cs.flatMap CV.roots)) : CVs w' φ' f' vs cs ψ := by
  induction h with
  | nil => exact .nil
  | cons h _ ih =>
    exact .cons (h.kept (k.sub (fun b hb => List.mem_append_left _ hb) fun r hr => by simp [hr]))
      (ih (k.sub (fun b hb => List.mem_append_right _ hb) fun r hr => by simp only [List.flatMap_cons, List.mem_append]; exact .inr hr))

theorem RVRel.kept {v : Value} {ψ : List Nat} {r : RV} (h : RVRel w φ f v ψ r) (k : Kept w φ f w' φ' f' ψ r.roots) : RVRel w' φ' f' v ψ r := by
  cases r with
  | cell c => exact CVRel.kept h k
  | agg cs => obtain ⟨vs, h1, h2⟩ := h; exact ⟨vs, h1, h2.kept k⟩

theorem RVs.kept {vs : List Value} {ψ : List Nat} {rs : List RV} (h : RVs w φ f vs rs ψ) (k : Kept w φ f w' φ' f' ψ (rs.flatMap RV.roots)) : RVs w' φ' f' vs rs ψ := by
  induction h with
  | nil => exact .nil
  | cons h _ ih =>
    exact .cons (h.kept (k.sub (fun b hb => List.mem_append_left _ hb) fun r hr => by simp [hr]))
      (ih (k.sub (fun b hb => List.mem_append_right _ hb) fun r hr => by simp only [List.flatMap_cons, List.mem_append]; exact .inr hr))

theorem PtrRd.kept {v : Value} {ds : List DV} (h : PtrRd w φ v ds) (hs : w.heap.size ≤ w'.heap.size)
    (hf : ∀ b, b < w.heap.size → (∀ t, b ∉ φ t) → w'.heap[b]? = w.heap[b]? ∧ ∀ t, b ∉ φ' t) : PtrRd w' φ' v ds := by
  obtain ⟨b, o, vs, bs, h1, h2, h3, h4, h5, h6⟩ := h
  exact ⟨b, o, vs, bs, h1, rangeAt_block (hf b h3 h5).1 h2, Nat.lt_of_lt_of_le h3 hs, h4.frame hs fun b hb => (hf b (h4.lt b hb) (h6 b hb)).1, (hf b h3 h5).2,
    fun b hb => (hf b (h4.lt b hb) (h6 b hb)).2⟩

theorem PtrRds.kept {vs : List Value} {cs : List (List DV)} (h : PtrRds w φ vs cs) (hs : w.heap.size ≤ w'.heap.size)
    (hf : ∀ b, b < w.heap.size → (∀ t, b ∉ φ t) → w'.heap[b]? = w.heap[b]? ∧ ∀ t, b ∉ φ' t) : PtrRds w' φ' vs cs := by
  induction h with
  | nil => exact .nil
  | cons h _ ih => exact .cons (h.kept hs hf) ih

theorem SlotRel.kept {v : Value} {ψ : List Nat} {x : SV} (h : SlotRel w φ f v ψ x) (k : Kept w φ f w' φ' f' ψ x.roots) : SlotRel w' φ' f' v ψ x := by
  cases x with
  | dead => exact h
  | und => exact h
  | one r => exact RVRel.kept h k
  | tup rs => obtain ⟨vs, h1, h2⟩ := h; exact ⟨vs, h1, h2.kept k⟩
  | box cs =>
    obtain ⟨hr, b, c, el, ψs, h1, h2, h3, rfl⟩ := h
    exact ⟨hr, b, c, el, ψs, h1, (k.blocks b (List.mem_cons_self ..)).trans h2, h3.kept (k.sub (fun b hb => List.mem_cons_of_mem _ hb) fun r hr => hr), rfl⟩
  | ptr s q j =>
    obtain ⟨h1, h, b, o, h2, h3, h5⟩ := h
    obtain ⟨e1, e2, e3⟩ := k.roots s (by simp [SV.roots])
    exact ⟨h1, h, b, o, by rw [e1, e2, hdr_kept e3]; exact h2, h3, h5⟩
  | rptr ds => exact ⟨h.1, h.2.kept k.size k.free⟩
  | cloR g caps => obtain ⟨h1, ps, h2, h3⟩ := h; exact ⟨h1, ps, h2, h3.kept k.size k.free⟩
  | cloS g ss =>
    obtain ⟨h1, ps, h2, h3⟩ := h
    exact ⟨h1, ps, h2, h3.trans (List.map_congr_left fun s hs => ((k.roots s (by simpa [SV.roots] using hs)).1).symm)⟩
end

/-- What slot t is known to hold, or (none) the value in flight. -/
def sget (st : List SV) (fx : SV) : Option Nat → Option SV
  | some t => st[t]?
  | none => some fx
def vget (ts : Array Value) (fv : Value) : Option Nat → Value
  | some t => valAt ts t
  | none => fv

/-- The slots st describe the frame ts in the world w; fx describes a value in flight, fv; φ: what each owns; since w0 only blocks of F0 have changed. -/
structure RelW (φ : Option Nat → List Nat) (w0 : World) (F0 : List Nat) (st : List SV) (fx : SV) (ts : Array Value) (fv : Value) (w : World) : Prop where
  len : ts.size = st.length
  slot : ∀ t x, sget st fx t = some x → SlotRel w φ (valAt ts) (vget ts fv t) (φ t) x
  nd : ∀ t, (φ t).Nodup
  dj : ∀ s t, s ≠ t → ∀ b ∈ φ s, b ∉ φ t
  lt : ∀ t, ∀ b ∈ φ t, b < w.heap.size ∧ (w0.heap.size ≤ b ∨ b ∈ F0)
  ext : Ext F0 w0 w

/-- THE MASTER STEP: the slots of M change, and own new blocks or what slots of M owned; only blocks of M's are written. -/
theorem RelW.update {φ φ' : Option Nat → List Nat} {w0 w w' : World} {F0 : List Nat} {st st' : List SV} {fx fx' : SV} {ts ts' : Array Value} {fv fv' : Value}
    (h : RelW φ w0 F0 st fx ts fv w) (M : List (Option Nat))
    (hlen' : ts'.size = st'.length) (hx : Ext (M.flatMap φ) w w')
    (hφ : ∀ t, t ∉ M → φ' t = φ t)
    (hφM : ∀ m ∈ M, ∀ b ∈ φ' m, b < w'.heap.size ∧ ((∃ m' ∈ M, b ∈ φ m') ∨ w.heap.size ≤ b))
    (hnd : ∀ m ∈ M, (φ' m).Nodup) (hdj : ∀ m ∈ M, ∀ m' ∈ M, m ≠ m' → ∀ b ∈ φ' m, b ∉ φ' m')
    (hts : ∀ t, t ∉ M → vget ts' fv' t = vget ts fv t)
    (hst : ∀ t, t ∉ M → sget st' fx' t = sget st fx t ∧ ∀ x, sget st fx t = some x → (∀ r ∈ x.roots, some r ∉ M) ∨ SlotRel w' φ' (valAt ts') (vget ts' fv' t) (φ' t) x)
    (hrel : ∀ m ∈ M, ∀ x, sget st' fx' m = some x → SlotRel w' φ' (valAt ts') (vget ts' fv' m) (φ' m) x) : RelW φ' w0 F0 st' fx' ts' fv' w' := by
  have own_ne : ∀ t, t ∉ M → ∀ b ∈ φ t, b ∉ M.flatMap φ := fun t ht b hb hm => by
    obtain ⟨m, hm, hbm⟩ := List.mem_flatMap.1 hm
    exact h.dj t m (fun e => ht (e ▸ hm)) b hb hbm
  have same : ∀ t, t ∉ M → ∀ b ∈ φ t, w'.heap[b]? = w.heap[b]? := fun t ht b hb => hx.block b (h.lt t b hb).1 (own_ne t ht b hb)
  have free : ∀ b, b < w.heap.size → (∀ t, b ∉ φ t) → w'.heap[b]? = w.heap[b]? ∧ ∀ t, b ∉ φ' t := fun b hb hf => by
    refine ⟨hx.block b hb fun hm => ?_, fun t ht => ?_⟩
    · obtain ⟨m, _, hbm⟩ := List.mem_flatMap.1 hm
      exact hf m hbm
    · by_cases hM : t ∈ M
      · rcases (hφM t hM b ht).2 with ⟨m, _, hm⟩ | hn
        · exact hf m hm
        · omega
      · rw [hφ t hM] at ht; exact hf t ht
  refine ⟨hlen', fun t x hx' => ?_, fun t => ?_, fun s t hne b hb hb' => ?_, fun t b hb => ?_, ?_⟩
  · by_cases hM : t ∈ M
    · exact hrel t hM x hx'
    · obtain ⟨e1, e2⟩ := hst t hM
      rw [e1] at hx'
      rcases e2 x hx' with e2 | e2
      · rw [hts t hM, hφ t hM]
        refine (h.slot t x hx').kept ⟨hx.size, same t hM, fun r hr => ?_, free⟩
        have hrM := e2 r hr
        exact ⟨hts (some r) hrM, hφ (some r) hrM, same (some r) hrM⟩
      · exact e2
  · by_cases hM : t ∈ M
    · exact hnd t hM
    · rw [hφ t hM]; exact h.nd t
  · by_cases hs : s ∈ M <;> by_cases ht : t ∈ M
    · exact hdj s hs t ht hne b hb hb'
    · rw [hφ t ht] at hb'
      rcases (hφM s hs b hb).2 with ⟨m, hm, hbm⟩ | hn
      · exact h.dj m t (fun e => ht (e ▸ hm)) b hbm hb'
      · have := (h.lt t b hb').1; omega
    · rw [hφ s hs] at hb
      rcases (hφM t ht b hb').2 with ⟨m, hm, hbm⟩ | hn
      · exact h.dj m s (fun e => hs (e ▸ hm)) b hbm hb
      · have := (h.lt s b hb).1; omega
    · rw [hφ s hs] at hb; rw [hφ t ht] at hb'; exact h.dj s t hne b hb hb'
  · by_cases hM : t ∈ M
    · obtain ⟨h1, h2⟩ := hφM t hM b hb
      refine ⟨h1, ?_⟩
      rcases h2 with ⟨m, _, hm⟩ | hn
      · exact (h.lt m b hm).2
      · exact .inl (Nat.le_trans h.ext.size hn)
    · rw [hφ t hM] at hb
      exact ⟨Nat.lt_of_lt_of_le (h.lt t b hb).1 hx.size, (h.lt t b hb).2⟩
  · refine ⟨hx.os.trans h.ext.os, hx.tape.trans h.ext.tape, hx.output.trans h.ext.output, Nat.le_trans h.ext.size hx.size, fun k hk hn => ?_⟩
    refine (hx.block k (Nat.lt_of_lt_of_le hk h.ext.size) fun hm => ?_).trans (h.ext.block k hk hn)
    obtain ⟨m, _, hbm⟩ := List.mem_flatMap.1 hm
    rcases (h.lt m k hbm).2 with h' | h'
    · omega
    · exact hn h'

end Go.Proofs.Ytlffmhhdgedddaa.DL

/- The data level, part 3: what each operation does to the slots. -/
namespace Go.Proofs.Ytlffmhhdgedddaa.DL
open Go Go.RowKit

inductive TK where
  | int (k : IntKind) | bool | string
  | slice (elem : TypeId)
  | struct (offs : List Nat)
  | array (n : Nat) (elem : TypeId)
  | other

/-- A row of the table of types: its kind, the cells of its zero value, its bytes; of a struct, each field's cells; whether it is a struct of integers alone, whose values may be held against each other. -/
structure TI where
  k : TK
  size : Nat
  zero : List CV
  bytes : Nat
  szs : List Nat
  eq : Bool := false

abbrev Tb := TypeId → TI
abbrev Sl := List SV

def dfl : DV := .val (.int .i64 0)
def hdD (ds : List DV) : DV := ds.headD dfl
def DV.es : DV → List DV
  | .sl _ es => es
  | .val _ => []
def DV.sz : DV → Nat
  | .sl sz _ => sz
  | .val _ => 0
/-- How many elements. -/
def DV.n : DV → Nat
  | .sl 1 es => es.length
  | .sl sz es => es.length / sz
  | .val _ => 0
theorem DV.n_eq (sz : Nat) (es : List DV) : (DV.sl sz es).n = es.length / sz := by
  unfold DV.n
  split <;> simp_all
def DV.asI : DV → Int
  | .val (.int _ n) => n
  | _ => 0
def DV.asB : DV → Bool
  | .val (.bool b) => b
  | _ => false
def DV.asS : DV → ByteArray
  | .val (.string b) => b
  | _ => ByteArray.empty
def DV.isI (k : IntKind) (d : DV) : Prop := d = .val (.int k d.asI)
def DV.isB (d : DV) : Prop := d = .val (.bool d.asB)
def DV.isS (d : DV) : Prop := d = .val (.string d.asS)
def DV.isL (sz : Nat) (d : DV) : Prop := d = .sl sz d.es
def DV.getP : DV → List Nat → DV
  | d, [] => d
  | d, j :: p => (d.es.getD j dfl).getP p
def DV.InP : DV → List Nat → Prop
  | _, [] => True
  | d, j :: p => j < d.es.length ∧ (d.es.getD j dfl).InP p
/-- The cells of the slice at the end of a way are turned by g. -/
def DV.modP (g : List DV → List DV) : DV → List Nat → DV
  | .val v, _ => .val v
  | .sl sz es, [] => .sl sz (g es)
  | .sl sz es, j :: p => .sl sz (es.set j ((es.getD j dfl).modP g p))

def DV.isV : DV → Prop
  | .val _ => True
  | .sl _ _ => False
/-- All scalars. -/
def AllVal (es : List DV) : Prop := ∀ d ∈ es, d.isV
/-- The data at the end of a way is replaced. -/
def DV.setP : DV → DV → List Nat → DV
  | _, x, [] => x
  | .val v, _, _ :: _ => .val v
  | .sl sz es, x, j :: p => .sl sz (es.set j ((es.getD j dfl).setP x p))
def CV.toDV : CV → DV
  | .sc v => .val v
  | .own d | .rd d | .ref _ _ d | .sub _ _ _ d | .vl _ d => d
  | _ => dfl
/-- Lent for reading alone. -/
def CV.lent : CV → CV
  | .own d | .ref _ _ d | .sub _ _ _ d => .rd d
  | .hd _ _ => .un
  | c => c
def CV.isOwn : CV → Bool
  | .own _ => true
  | _ => false
/-- Fit to lie in owned memory. -/
def CV.fit : CV → Bool
  | .own _ | .sc _ => true
  | _ => false
/-- Fit to lie in a box that is lent to be written. -/
def CV.fitV : CV → Bool
  | .own _ | .sc _ | .vl _ _ => true
  | _ => false
def CV.free : CV → Bool
  | .own _ | .sc _ | .rd _ | .vl _ _ => true
  | _ => false
def RV.isOwn : RV → Bool
  | .cell c => c.isOwn
  | .agg cs => cs.any CV.isOwn
def SV.isOwn : SV → Bool
  | .one r => r.isOwn
  | .tup rs => rs.any RV.isOwn
  | .box _ => true
  | _ => false

def gt (sl : Sl) (t : Nat) : SV := sl.getD t .dead
def killSV (m : Nat) (x : SV) : SV := if m ∈ x.roots then .dead else x
def putT (sl : Sl) (d : Nat) (x : SV) : Sl := (sl.map (killSV d)).set d (killSV d x)
def put (sl : Sl) (d : Option Nat) (x : SV) : Sl :=
  match d with
  | some d => putT sl d x
  | none => sl
/-- What is owned at the top of slot x. -/
def topOwn (x : SV) (p : List Nat) : Option DV :=
  match x, p with
  | .one (.cell (.own d)), [] => some d
  | .box cs, [j] => match cs.getD j .un with
    | .own d => some d
    | _ => none
  | _, _ => none
/-- A header seen with its data. -/
def resC (sl : Sl) : CV → CV
  | .hd s p => match topOwn (gt sl s) p with
    | some d => .ref s p d
    | none => .hd s p
  | c => c
/-- A slot seen, what it owns left where it is. -/
def view (sl : Sl) (t : Nat) : SV :=
  match gt sl t with
  | .one (.cell (.own d)) => .one (.cell (.ref t [] d))
  | .one (.cell c) => .one (.cell (resC sl c))
  | .one (.agg cs) => .one (.agg (cs.map (resC sl)))
  | .box _ => .ptr t [] 0
  | x => x
/-- A slot's value taken out of it, with all that it owns. -/
def takeT (sl : Sl) (t : Nat) : SV × Sl :=
  if (gt sl t).isOwn then (killSV t (gt sl t), putT sl t .dead) else (gt sl t, sl)

def constSV (tb : Tb) (ty : TypeId) : Value → Option SV
  | .int k n => some (.one (.cell (.sc (.int k n))))
  | .bool b => some (.one (.cell (.sc (.bool b))))
  | .string s => some (.one (.cell (.sc (.string s))))
  | .slice none 0 0 => match (tb ty).k with
    | .slice e => some (.one (.cell (.own (.sl (tb e).size []))))
    | _ => none
  | .pointer none => some .dead
  | _ => none
def opView (tb : Tb) (ty : TypeId) (sl : Sl) : Operand → Option SV
  | .tmp t => some (view sl t)
  | .const v => constSV tb ty v
  | .func f => some (.cloR f [])
  | .global _ => none
def opTake (tb : Tb) (ty : TypeId) (sl : Sl) : Operand → Option (SV × Sl)
  | .tmp t => some (takeT sl t)
  | .const v => (constSV tb ty v).map (·, sl)
  | .func f => some (.cloR f [], sl)
  | .global _ => none

def sameK : IntKind → IntKind → Bool
  | .i8, .i8 | .i16, .i16 | .i32, .i32 | .i64, .i64 | .u8, .u8 | .u16, .u16 | .u32, .u32 | .u64, .u64 => true
  | _, _ => false
/-- Two integers of one kind. -/
def intV (op : BinOp) (k : IntKind) (a b : Int) : Option (List Prop × Value) :=
  match op with
  | .add => some ([], .int k (k.wrap (a + b)))
  | .sub => some ([], .int k (k.wrap (a - b)))
  | .mul => some ([], .int k (k.wrap (a * b)))
  | .quo => some ([b ≠ 0], .int k (k.wrap (a.tdiv b)))
  | .rem => some ([b ≠ 0], .int k (a.tmod b))
  | .and => some ([], .int k (k.wrap ((BitVec.ofInt k.bits a &&& BitVec.ofInt k.bits b).toNat : Int)))
  | .or => some ([], .int k (k.wrap ((BitVec.ofInt k.bits a ||| BitVec.ofInt k.bits b).toNat : Int)))
  | .xor => some ([], .int k (k.wrap ((BitVec.ofInt k.bits a ^^^ BitVec.ofInt k.bits b).toNat : Int)))
  | .eql => some ([], .bool (decide (a = b)))
  | .neq => some ([], .bool (!decide (a = b)))
  | .lss => some ([], .bool (decide (a < b)))
  | .leq => some ([], .bool (decide (a ≤ b)))
  | .gtr => some ([], .bool (decide (b < a)))
  | .geq => some ([], .bool (decide (b ≤ a)))
  | _ => none
/-- What a binary operation on scalars gives, and when. -/
def binV (op : BinOp) (tk : TK) : Value → Value → Option (List Prop × Value)
  | .int k a, .int k' b =>
    match op with
    | .shl => some ([0 ≤ b], .int k (k.wrap (a * 2 ^ (min b.toNat k.bits))))
    | .shr => some ([0 ≤ b], .int k (a.fdiv (2 ^ (min b.toNat k.bits))))
    | _ => if sameK k k' then intV op k a b else none
  | .bool a, .bool b =>
    match tk, op with
    | .bool, .eql => some ([], .bool (decide (a = b)))
    | .bool, .neq => some ([], .bool (!decide (a = b)))
    | _, _ => none
  | .string a, .string b =>
    match op with
    | .eql => some ([], .bool (decide (a.toList = b.toList)))
    | .neq => some ([], .bool (!decide (a.toList = b.toList)))
    | .add => some ([a.size + b.size ≤ 9223372036854775807], .string (a ++ b))
    | _ => none
  | _, _ => none
def unV (op : UnOp) : Value → Option Value
  | .bool b => match op with | .not => some (.bool !b) | _ => none
  | .int k n => match op with | .neg => some (.int k (k.wrap (0 - n))) | _ => none
  | _ => none
def conV (d : TK) : Value → Option Value
  | .int _ n => match d with | .int k => some (.int k (k.wrap n)) | _ => none
  | _ => none

def setRange {α : Type} (l : List α) (j : Nat) : List α → List α
  | [] => l
  | x :: xs => setRange (l.set j x) (j + 1) xs

/-- The cell at the end of a way from a slot. -/
def getAt : SV → List Nat → CV
  | .one (.cell (.own d)), p => .own (d.getP p)
  | .box cs, j :: p => match cs.getD j .un with
    | .own d => .own (d.getP p)
    | c => match p with | [] => c | _ => .un
  | _, _ => .un
def placeOk : SV → List Nat → Prop
  | .one (.cell (.own d)), p => d.InP p
  | .box cs, j :: p => j < cs.length ∧ match cs.getD j .un with
    | .own d => d.InP p
    | _ => True
  | _, _ => False
/-- Data at a cell whose type's zero is z: the condition, and what is known of it. -/
def typed (z : CV) (d : DV) (sl : DV → CV) : List Prop × CV :=
  match z with
  | .sc (.int k _) => ([d.isI k], .sc (.int k d.asI))
  | .sc (.bool _) => ([d.isB], .sc (.bool d.asB))
  | .sc (.string _) => ([d.isS], .sc (.string d.asS))
  | .own (.sl sz _) => ([d.isL sz], sl (.sl sz d.es))
  | _ => ([False], .un)
/-- A cell loaded from the place (s, p); of a cell of a box all is known. -/
def loadC (s : Nat) (p : List Nat) (z : CV) (x : SV) : Option (List Prop × CV) :=
  match getAt x p with
  | .sc v => some ([], .sc v)
  | .rd d => some ([], .rd d)
  | .vl v d => some ([], .vl v d)
  | .own d => match x, p with
    | .box _, [_] => some ([], .hd s p)
    | _, _ => some (placeOk x p :: (typed z d (.ref s p)).1, (typed z d (.ref s p)).2)
  | _ => none
def loadCs (x : SV) (s : Nat) (q : List Nat) : Nat → List CV → Option (List Prop × List CV)
  | _, [] => some ([], [])
  | j, z :: zs => match loadC s (q ++ [j]) z x, loadCs x s q (j + 1) zs with
    | some (c, v), some (cs, vs) => some (c ++ cs, v :: vs)
    | _, _ => none
def loadRs : List DV → List CV → List Prop × List CV
  | _, [] => ([], [])
  | ds, z :: zs => ((typed z (hdD ds) .rd).1 ++ (loadRs ds.tail zs).1, (typed z (hdD ds) .rd).2 :: (loadRs ds.tail zs).2)
def isAggK : TK → Bool
  | .struct _ | .array .. => true
  | _ => false
def wrapCs (k : TK) (cs : List CV) : Option RV :=
  match k with
  | .struct _ | .array .. => some (.agg cs)
  | .other => none
  | _ => match cs with | [c] => some (.cell c) | _ => none
/-- Out of a box, a header is loaded without its data (they are looked up where they are used). -/
def hdR (x : SV) (q : List Nat) (r : RV) : RV :=
  match x, q, r with
  | .box _, [], .cell (.ref s [i] _) => .cell (.hd s [i])
  | _, _, r => r
/-- Loading a variable of type ty through a pointer. -/
def loadV (tb : Tb) (ty : TypeId) (sl : Sl) : SV → Option (List Prop × SV)
  | .ptr s q j => match loadCs (gt sl s) s q j (tb ty).zero with
    | some (c, cs) => (wrapCs (tb ty).k cs).map fun r => (c, .one (hdR (gt sl s) q r))
    | none => none
  | .rptr ds => (wrapCs (tb ty).k (loadRs ds (tb ty).zero).2).map fun r => (((tb ty).size ≤ ds.length) :: (loadRs ds (tb ty).zero).1, .one r)
  | _ => none
def cellsOf : SV → Option (List CV)
  | .one (.cell c) => some [c]
  | .one (.agg cs) => some cs
  | _ => none
/-- Cells are written into the container at (q) from j on. -/
def setCs (x : SV) (q : List Nat) (j : Nat) (new : List CV) : SV :=
  match x, q with
  | .box cs, [] => .box (setRange cs j new)
  | .box cs, i :: q => match cs.getD i .un with
    | .own d => .box (cs.set i (.own (d.modP (fun es => setRange es j (new.map CV.toDV)) q)))
    | _ => .dead
  | .one (.cell (.own d)), q => .one (.cell (.own (d.modP (fun es => setRange es j (new.map CV.toDV)) q)))
  | _, _ => .dead
/-- When that is allowed. -/
def setOk (x : SV) (q : List Nat) (j n : Nat) (new : List CV) : Option (List Prop) :=
  match x, q with
  | .box cs, [] => if j + n ≤ cs.length && new.all CV.free then some [] else none
  | .box cs, i :: q => match cs.getD i .un with
    | .own d => if new.all CV.fit then some [d.InP q, j + n ≤ (d.getP q).es.length] else none
    | _ => none
  | .one (.cell (.own d)), q => if new.all CV.fit then some [d.InP q, j + n ≤ (d.getP q).es.length] else none
  | _, _ => none

def fillC (cs : List CV) : List (Nat × List CV) → List CV
  | [] => cs
  | (o, new) :: r => fillC (setRange cs o new) r

end Go.Proofs.Ytlffmhhdgedddaa.DL
