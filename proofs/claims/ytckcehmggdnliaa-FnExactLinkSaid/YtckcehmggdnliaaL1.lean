/- The data level, part 1: data, what it is for cells of memory to read as data, and how that is kept. -/
import Derived.Below
import Derived.Deep.MidRow
namespace Go.Proofs.Ytckcehmggdnliaa.DL
open Go Go.RowKit

/-- Data: a scalar of the machine, or a slice: the size of an element in cells, and all its cells. -/
inductive DV where
  | val (v : Value)
  | sl (sz : Nat) (es : List DV)

def isSc : Value → Bool
  | .int .. | .bool _ | .string _ => true
  | _ => false

/-- Block b is a row of at least m cells that may be written. -/
def OwnRow (w : World) (b m : Nat) : Prop := ∃ c el, w.heap[b]? = some (.cells c el (0, 0)) ∧ m ≤ c.size

/-- The cells vs read as the data ds, over the blocks bs; o: each row that is met may be written. -/
inductive Rd (o : Bool) (w : World) : List Value → List DV → List Nat → Prop
  | nil : Rd o w [] [] []
  | sc {v : Value} {vs : List Value} {ds : List DV} {bs : List Nat} : isSc v = true → Rd o w vs ds bs → Rd o w (v :: vs) (.val v :: ds) bs
  | e0 {a : Option Addr} {cap sz : Nat} {vs : List Value} {ds : List DV} {bs : List Nat} : (o = true → cap = 0) → Rd o w vs ds bs →
      Rd o w (.slice a 0 cap :: vs) (.sl sz [] :: ds) bs
  | sl {b off n cap sz : Nat} {us : List Value} {es : List DV} {bs1 : List Nat} {vs : List Value} {ds : List DV} {bs2 : List Nat} :
      w.rangeAt b off us → (o = true → OwnRow w b (off + cap * sz)) → b < w.heap.size → es.length = n * sz → 0 < sz ∧ n ≤ cap →
      Rd o w us es bs1 → Rd o w vs ds bs2 → Rd o w (.slice (some ⟨b, off, none⟩) n cap :: vs) (.sl sz es :: ds) (b :: (bs1 ++ bs2))

theorem Rd.length {o : Bool} {w : World} {vs : List Value} {ds : List DV} {bs : List Nat} (h : Rd o w vs ds bs) : vs.length = ds.length := by
  induction h with
  | nil => rfl
  | sc _ _ ih => simp [ih]
  | e0 _ _ ih => simp [ih]
  | sl _ _ _ _ _ _ _ _ ih => simp [ih]

theorem Rd.weaken {w : World} {vs : List Value} {ds : List DV} {bs : List Nat} (h : Rd true w vs ds bs) : Rd false w vs ds bs := by
  induction h with
  | nil => exact .nil
  | sc h _ ih => exact .sc h ih
  | e0 _ _ ih => exact .e0 (fun h => by cases h) ih
  | sl h1 _ h3 h4 h5 _ _ ih1 ih2 => exact .sl h1 (fun h => by cases h) h3 h4 h5 ih1 ih2

theorem Rd.lt {o : Bool} {w : World} {vs : List Value} {ds : List DV} {bs : List Nat} (h : Rd o w vs ds bs) : ∀ b ∈ bs, b < w.heap.size := by
  induction h with
  | nil => intro b hb; cases hb
  | sc _ _ ih => exact ih
  | e0 _ _ ih => exact ih
  | sl _ _ h3 _ _ _ _ ih1 ih2 =>
    intro b hb
    rcases List.mem_cons.1 hb with rfl | hb
    · exact h3
    · rcases List.mem_append.1 hb with hb | hb
      · exact ih1 b hb
      · exact ih2 b hb

theorem rangeAt_block {w w' : World} {b off : Nat} {us : List Value} (hb : w'.heap[b]? = w.heap[b]?) (h : w.rangeAt b off us) : w'.rangeAt b off us :=
  fun j v hv => (World.cell?_of_block (w := w) hb).trans (h j v hv)

theorem Rd.frame {o : Bool} {w w' : World} {vs : List Value} {ds : List DV} {bs : List Nat} (h : Rd o w vs ds bs)
    (hs : w.heap.size ≤ w'.heap.size) (hb : ∀ b ∈ bs, w'.heap[b]? = w.heap[b]?) : Rd o w' vs ds bs := by
  induction h with
  | nil => exact .nil
  | sc h _ ih => exact .sc h (ih hb)
  | e0 h _ ih => exact .e0 h (ih hb)
  | sl h1 h2 h3 h4 h5 _ _ ih1 ih2 =>
    have hbb := hb _ (List.mem_cons_self ..)
    refine .sl (rangeAt_block hbb h1) (fun ho => ?_) (Nat.lt_of_lt_of_le h3 hs) h4 h5
      (ih1 fun b' h' => hb _ (List.mem_cons_of_mem _ (List.mem_append_left _ h'))) (ih2 fun b' h' => hb _ (List.mem_cons_of_mem _ (List.mem_append_right _ h')))
    obtain ⟨c, el, hc, hm⟩ := h2 ho
    exact ⟨c, el, hbb.trans hc, hm⟩

theorem Rd.append {o : Bool} {w : World} {vs1 vs2 : List Value} {ds1 ds2 : List DV} {bs1 bs2 : List Nat} (h : Rd o w vs1 ds1 bs1) (h' : Rd o w vs2 ds2 bs2) :
    Rd o w (vs1 ++ vs2) (ds1 ++ ds2) (bs1 ++ bs2) := by
  induction h with
  | nil => exact h'
  | sc h _ ih => exact .sc h ih
  | e0 h _ ih => exact .e0 h ih
  | sl h1 h2 h3 h4 h5 hr _ _ ih2 =>
    have := Rd.sl h1 h2 h3 h4 h5 hr ih2
    simpa using this

theorem Rd.split {o : Bool} {w : World} {vs : List Value} {ds : List DV} {bs : List Nat} (h : Rd o w vs ds bs) :
    ∀ k, ∃ b1 b2, Rd o w (vs.take k) (ds.take k) b1 ∧ Rd o w (vs.drop k) (ds.drop k) b2 ∧ bs = b1 ++ b2 := by
  induction h with
  | nil => intro k; exact ⟨[], [], by simpa using .nil, by simpa using .nil, rfl⟩
  | sc h hr ih =>
    intro k
    cases k with
    | zero => exact ⟨[], _, .nil, .sc h hr, rfl⟩
    | succ k =>
      obtain ⟨b1, b2, h1, h2, rfl⟩ := ih k
      exact ⟨b1, b2, by simpa using .sc h h1, by simpa using h2, rfl⟩
  | e0 h hr ih =>
    intro k
    cases k with
    | zero => exact ⟨[], _, .nil, .e0 h hr, rfl⟩
    | succ k =>
      obtain ⟨b1, b2, h1, h2, rfl⟩ := ih k
      exact ⟨b1, b2, by simpa using .e0 h h1, by simpa using h2, rfl⟩
  | @sl b off n cap sz us es bs1 vs ds bs2 h1 h2 h3 h4 h5 hr hr' _ ih2 =>
    intro k
    cases k with
    | zero => exact ⟨[], _, .nil, .sl h1 h2 h3 h4 h5 hr hr', rfl⟩
    | succ k =>
      obtain ⟨b1, b2, g1, g2, rfl⟩ := ih2 k
      refine ⟨b :: (bs1 ++ b1), b2, by simpa using .sl h1 h2 h3 h4 h5 hr g1, by simpa using g2, by simp⟩

theorem Rd.get {o : Bool} {w : World} {vs : List Value} {ds : List DV} {bs : List Nat} (h : Rd o w vs ds bs) {j : Nat} {v : Value} (hj : vs[j]? = some v) :
    ∃ d, ds[j]? = some d ∧ ∃ b1 b2 b3, Rd o w (vs.take j) (ds.take j) b1 ∧ Rd o w [v] [d] b2 ∧ Rd o w (vs.drop (j + 1)) (ds.drop (j + 1)) b3 ∧ bs = b1 ++ (b2 ++ b3) := by
  obtain ⟨b1, b2, h1, h2, rfl⟩ := h.split j
  have hlt : j < vs.length := (List.getElem?_eq_some_iff.1 hj).1
  have hlt' : j < ds.length := by rw [← h.length]; exact hlt
  have hv : vs[j] = v := (List.getElem?_eq_some_iff.1 hj).2
  obtain ⟨b3, b4, h3, h4, rfl⟩ := h2.split 1
  refine ⟨ds[j], List.getElem?_eq_getElem hlt', b1, b3, b4, h1, ?_, ?_, rfl⟩
  · have e1 : (vs.drop j).take 1 = [v] := by rw [List.drop_eq_getElem_cons hlt, hv]; rfl
    have e2 : (ds.drop j).take 1 = [ds[j]] := by rw [List.drop_eq_getElem_cons hlt']; rfl
    rwa [e1, e2] at h3
  · simpa [List.drop_drop] using h4

/-- What a call, or an operation, keeps: all blocks that were there, but for those of F. -/
structure Ext (F : List Nat) (w w' : World) : Prop where
  os : w'.os = w.os
  tape : w'.tape = w.tape
  output : w'.output = w.output
  size : w.heap.size ≤ w'.heap.size
  block : ∀ k, k < w.heap.size → k ∉ F → w'.heap[k]? = w.heap[k]?

theorem Ext.refl (F : List Nat) (w : World) : Ext F w w := ⟨rfl, rfl, rfl, Nat.le_refl _, fun _ _ _ => rfl⟩
theorem Ext.trans {F : List Nat} {a b c : World} (h : Ext F a b) (k : Ext F b c) : Ext F a c :=
  ⟨k.os.trans h.os, k.tape.trans h.tape, k.output.trans h.output, Nat.le_trans h.size k.size, fun i hi hn => (k.block i (Nat.lt_of_lt_of_le hi h.size) hn).trans (h.block i hi hn)⟩
theorem Ext.mono {F G : List Nat} {a b : World} (h : Ext F a b) (hs : ∀ x ∈ F, x < a.heap.size → x ∈ G) : Ext G a b :=
  ⟨h.os, h.tape, h.output, h.size, fun i hi hn => h.block i hi fun hm => hn (hs _ hm hi)⟩
theorem Ext.drew (F : List Nat) (w : World) (n : Nat) : Ext F w { w with drawn := n } := ⟨rfl, rfl, rfl, Nat.le_refl _, fun _ _ _ => rfl⟩
theorem Ext.alloc (w : World) (o : Obj) : Ext [] w (w.alloc o) :=
  ⟨rfl, rfl, rfl, by show w.heap.size ≤ (w.heap.push o).size; simp, fun k hk _ => Below.heap_alloc w o k hk⟩
theorem Ext.below {w w' : World} (h : Ext [] w w') : Below w.heap.size w w' := ⟨h.os, h.tape, h.output, h.size, fun k hk => h.block k hk (by simp)⟩
theorem Ext.of_below {w w' : World} (h : Below w.heap.size w w') : Ext [] w w' := ⟨h.os, h.tape, h.output, h.size, fun k hk _ => h.block k hk⟩
theorem heap_setCells (b : Nat) : ∀ (vs : List Value) (o : Nat) (w : World) (k : Nat), k ≠ b → (w.setCells b o vs).heap[k]? = w.heap[k]?
  | [], _, _, _, _ => rfl
  | v :: vs, o, w, k, h => by
    rw [World.setCells, heap_setCells b vs (o + 1) _ k h, Below.heap_setCell _ _ _ _ h]

end Go.Proofs.Ytckcehmggdnliaa.DL
