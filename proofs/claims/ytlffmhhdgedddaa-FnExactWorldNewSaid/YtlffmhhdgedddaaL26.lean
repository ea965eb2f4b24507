/- The library: parts L26 to L26. -/
import Derived.Test.YtlffmhhdgedddaaL25
/- The data level, part 26: tables, checked by the kernel. -/
namespace Go.Proofs.Ytlffmhhdgedddaa.DL
open Go Go.RowKit

def nth {α : Type} (d : α) : List α → Nat → α
  | [], _ => d
  | x :: _, 0 => x
  | _ :: xs, n + 1 => nth d xs n
theorem nth_mem {α : Type} {d : α} : ∀ (l : List α) (n : Nat), nth d l n = d ∨ l[n]? = some (nth d l n)
  | [], _ => .inl rfl
  | x :: _, 0 => .inr rfl
  | _ :: xs, n + 1 => by
    rcases nth_mem xs n with h | h
    · exact .inl h
    · exact .inr (by simpa [nth] using h)

def valB : Value → Value → Bool
  | .int k n, .int k' n' => sameK k k' && n == n'
  | .bool b, .bool b' => b == b'
  | .string s, .string s' => s.size == 0 && s'.size == 0
  | .slice none 0 0, .slice none 0 0 => true
  | _, _ => false
theorem valB_eq {u v : Value} (h : valB u v = true) : u = v := by
  unfold valB at h
  split at h
  · simp only [Bool.and_eq_true, beq_iff_eq] at h
    rw [sameK_eq h.1, h.2]
  · rw [beq_iff_eq.1 h]
  · rename_i s s'
    simp only [Bool.and_eq_true, beq_iff_eq] at h
    have e : ∀ b : ByteArray, b.size = 0 → b = ByteArray.empty := fun b hb => by
      cases b with
      | mk d =>
        have : d = #[] := Array.eq_empty_of_size_eq_zero hb
        subst this; rfl
    rw [e s h.1, e s' h.2]
  · rfl
  · cases h
def valsB : List Value → List Value → Bool
  | [], [] => true
  | u :: us, v :: vs => valB u v && valsB us vs
  | _, _ => false
theorem valsB_eq : ∀ {us vs : List Value}, valsB us vs = true → us = vs
  | [], [], _ => rfl
  | u :: us, v :: vs, h => by
    simp only [valsB, Bool.and_eq_true] at h
    rw [valB_eq h.1, valsB_eq h.2]
  | [], _ :: _, h => by cases h
  | _ :: _, [], h => by cases h

def placesB : Option (List (Nat × Nat)) → List (Nat × Nat) → Bool
  | some l, m => decide (l = m)
  | none, _ => false
theorem placesB_eq {l : Option (List (Nat × Nat))} {m : List (Nat × Nat)} (h : placesB l m = true) : l = some m := by
  cases l with
  | none => cases h
  | some l => simpa [placesB] using h
def tiB (P : Program) (t : TypeId) (i : TI) : Bool :=
  match i.k with
  | .other => i.size == 0
  | k => (match P.info? t with
      | some j => j.size == i.size && j.bytes == i.bytes && match j.zero with
        | some z => valsB z.cells.toList (i.zero.map zeroV)
        | none => false
      | none => false) && i.zero.all zeroOk && i.zero.length == i.size && Nat.blt 0 i.size && match k, P.underlying t with
    | .int k, some (.int k') => sameK k' k && i.size == 1
    | .bool, some .bool => i.size == 1
    | .string, some .string => i.size == 1
    | .slice e, some (.slice e') => e' == e && i.size == 1
    | .struct offs, some (.struct fs) => fs.toList.map (·.offset) == offs && (fs.toList.all fun f => (P.info? f.type).any fun j => j.size != 0) &&
      placesB (fs.toList.mapM (fun f => (P.info? f.type).map fun j => (f.offset, j.size))) (offs.zip i.szs)
    | .array n e, some (.array n' e') => n' == n && e' == e
    | _, _ => false

theorem tiB_ok {P : Program} {t : TypeId} {i : TI} (h : tiB P t i = true) : TIok P t i := by
  unfold tiB at h
  unfold TIok
  have info : (match P.info? t with
      | some j => j.size == i.size && j.bytes == i.bytes && match j.zero with
        | some z => valsB z.cells.toList (i.zero.map zeroV)
        | none => false
      | none => false) = true → ∃ j z, P.info? t = some j ∧ j.size = i.size ∧ j.zero = some z ∧ z.cells.toList = i.zero.map zeroV ∧ j.bytes = i.bytes := fun h => by
    split at h
    · rename_i j hj
      simp only [Bool.and_eq_true, beq_iff_eq] at h
      obtain ⟨⟨h1, h2⟩, h3⟩ := h
      split at h3
      · rename_i z hz
        exact ⟨j, z, hj, h1, hz, valsB_eq h3, h2⟩
      · cases h3
    · cases h
  cases hk : i.k with
  | other => rw [hk] at h; simpa using h
  | int k =>
    rw [hk] at h
    simp only [Bool.and_eq_true, beq_iff_eq] at h
    obtain ⟨⟨⟨⟨h1, h2⟩, h3⟩, h4⟩, h5⟩ := h
    refine ⟨info h1, h2, h3, Nat.le_of_ble_eq_true h4, ?_⟩
    split at h5 <;> simp_all
    rename_i e _; exact sameK_eq h5.1
  | bool =>
    rw [hk] at h
    simp only [Bool.and_eq_true, beq_iff_eq] at h
    obtain ⟨⟨⟨⟨h1, h2⟩, h3⟩, h4⟩, h5⟩ := h
    refine ⟨info h1, h2, h3, Nat.le_of_ble_eq_true h4, ?_⟩
    split at h5 <;> simp_all
  | string =>
    rw [hk] at h
    simp only [Bool.and_eq_true, beq_iff_eq] at h
    obtain ⟨⟨⟨⟨h1, h2⟩, h3⟩, h4⟩, h5⟩ := h
    refine ⟨info h1, h2, h3, Nat.le_of_ble_eq_true h4, ?_⟩
    split at h5 <;> simp_all
  | slice e =>
    rw [hk] at h
    simp only [Bool.and_eq_true, beq_iff_eq] at h
    obtain ⟨⟨⟨⟨h1, h2⟩, h3⟩, h4⟩, h5⟩ := h
    refine ⟨info h1, h2, h3, Nat.le_of_ble_eq_true h4, ?_⟩
    split at h5 <;> simp_all
  | struct offs =>
    rw [hk] at h
    simp only [Bool.and_eq_true, beq_iff_eq] at h
    obtain ⟨⟨⟨⟨h1, h2⟩, h3⟩, h4⟩, h5⟩ := h
    refine ⟨info h1, h2, h3, Nat.le_of_ble_eq_true h4, ?_⟩
    split at h5
    all_goals first
      | (rename_i e1 e2; cases e1; done)
      | (simp only [Bool.and_eq_true, beq_iff_eq] at h5; rename_i o fs e1 e2; cases e1; exact ⟨fs, e2, h5.1.1, h5.1.2, placesB_eq h5.2⟩)
      | simp_all
  | array n e =>
    rw [hk] at h
    simp only [Bool.and_eq_true, beq_iff_eq] at h
    obtain ⟨⟨⟨⟨h1, h2⟩, h3⟩, h4⟩, h5⟩ := h
    refine ⟨info h1, h2, h3, Nat.le_of_ble_eq_true h4, ?_⟩
    split at h5 <;> simp_all

def noTI : TI := ⟨.other, 0, [], 0, [], false⟩
def tisB (P : Program) : List TI → Nat → Bool
  | [], _ => true
  | i :: is, t => (tiB P t i && (!i.eq || eqTyB P t i.size)) && tisB P is (t + 1)
theorem tisB_at {P : Program} : ∀ (l : List TI) (t n : Nat) (i : TI), tisB P l t = true → l[n]? = some i → tiB P (t + n) i = true ∧ (!i.eq || eqTyB P (t + n) i.size) = true
  | [], _, _, _, _, h => by simp at h
  | x :: xs, t, 0, i, hb, h => by
    simp only [List.getElem?_cons_zero, Option.some.injEq] at h
    subst h
    simp only [tisB, Bool.and_eq_true] at hb
    exact hb.1
  | x :: xs, t, n + 1, i, hb, h => by
    simp only [tisB, Bool.and_eq_true] at hb
    have := tisB_at xs (t + 1) n i hb.2 (by simpa using h)
    rwa [show t + 1 + n = t + (n + 1) by omega] at this
theorem tbOk_of {P : Program} {l : List TI} (h : tisB P l 0 = true) : TbOk P (nth noTI l) := fun t => by
  rcases nth_mem (d := noTI) l t with e | e
  · rw [e]; exact ⟨tiB_ok rfl, fun h => by cases h⟩
  · obtain ⟨h1, h2⟩ := tisB_at l 0 t _ h e
    rw [Nat.zero_add] at h1 h2
    exact ⟨tiB_ok h1, fun he => by simpa [he] using h2⟩

mutual
def Sh.beq : Sh → Sh → Bool
  | .int k, .int k' => sameK k k'
  | .bool, .bool => true
  | .str, .str => true
  | .sl e, .sl e' => Sh.beqs e e'
  | _, _ => false
def Sh.beqs : List Sh → List Sh → Bool
  | [], [] => true
  | a :: as, b :: bs => Sh.beq a b && Sh.beqs as bs
  | _, _ => false
end
mutual
theorem Sh.beq_eq : ∀ {a b : Sh}, Sh.beq a b = true → a = b
  | .int k, .int k', h => by rw [sameK_eq h]
  | .bool, .bool, _ => rfl
  | .str, .str, _ => rfl
  | .sl e, .sl e', h => by rw [Sh.beqs_eq h]
  | .int _, .bool, h | .int _, .str, h | .int _, .sl _, h | .bool, .int _, h | .bool, .str, h | .bool, .sl _, h | .str, .int _, h | .str, .bool, h | .str, .sl _, h
  | .sl _, .int _, h | .sl _, .bool, h | .sl _, .str, h => by cases h
theorem Sh.beqs_eq : ∀ {a b : List Sh}, Sh.beqs a b = true → a = b
  | [], [], _ => rfl
  | a :: as, b :: bs, h => by
    simp only [Sh.beqs, Bool.and_eq_true] at h
    rw [Sh.beq_eq h.1, Sh.beqs_eq h.2]
  | [], _ :: _, h | _ :: _, [], h => by cases h
end

def tileB (P : Program) (sh : TypeId → Option (List Sh)) : List Field → Nat → List Sh → Bool
  | [], _, es => es.isEmpty
  | f :: fs, off, es => f.offset == off && match sh f.type with
    | some e1 => P.cellsOf f.type == e1.length && Sh.beqs (es.take e1.length) e1 && tileB P sh fs (off + e1.length) (es.drop e1.length)
    | none => false
theorem tileB_ok {P : Program} {sh : TypeId → Option (List Sh)} : ∀ {fs : List Field} {off : Nat} {es : List Sh}, tileB P sh fs off es = true → Tile P sh fs off es
  | [], _, es, h => (by
    have e : es = [] := by simpa [tileB] using h
    subst e; rfl)
  | f :: fs, off, es, h => by
    simp only [tileB, Bool.and_eq_true, beq_iff_eq] at h
    obtain ⟨h1, h2⟩ := h
    split at h2
    · rename_i e1 he
      simp only [Bool.and_eq_true, beq_iff_eq] at h2
      refine ⟨h1, e1, es.drop e1.length, he, h2.1.1, ?_, tileB_ok h2.2⟩
      have := Sh.beqs_eq h2.1.2
      conv => lhs; rw [← List.take_append_drop e1.length es, this]
    · cases h2
def shB (P : Program) (sh : TypeId → Option (List Sh)) (t : TypeId) (es : List Sh) : Bool :=
  match P.underlying t with
  | some .bool => Sh.beqs es [.bool]
  | some (.int k) => Sh.beqs es [.int k]
  | some .string => Sh.beqs es [.str]
  | some (.slice e) => match sh e with
    | some e1 => Sh.beqs es [.sl e1] && P.cellsOf e == e1.length && Nat.blt 0 e1.length
    | none => false
  | some (.struct fs) => P.cellsOf t == es.length && tileB P sh fs.toList 0 es
  | _ => false
def shsB (P : Program) (sh : TypeId → Option (List Sh)) : List (Option (List Sh)) → Nat → Bool
  | [], _ => true
  | none :: is, t => shsB P sh is (t + 1)
  | some es :: is, t => shB P sh t es && shsB P sh is (t + 1)
theorem shsB_at {P : Program} {sh : TypeId → Option (List Sh)} : ∀ (l : List (Option (List Sh))) (t n : Nat) (es : List Sh), shsB P sh l t = true → l[n]? = some (some es) → shB P sh (t + n) es = true
  | [], _, _, _, _, h => by simp at h
  | x :: xs, t, 0, es, hb, h => by
    simp only [List.getElem?_cons_zero, Option.some.injEq] at h
    subst h
    simp only [shsB, Bool.and_eq_true] at hb
    exact hb.1
  | x :: xs, t, n + 1, es, hb, h => by
    have hb' : shsB P sh xs (t + 1) = true := by
      cases x with
      | none => exact hb
      | some y => simp only [shsB, Bool.and_eq_true] at hb; exact hb.2
    have := shsB_at xs (t + 1) n es hb' (by simpa using h)
    rwa [show t + 1 + n = t + (n + 1) by omega] at this
theorem shOk_of {P : Program} {l : List (Option (List Sh))} (h : shsB P (nth none l) l 0 = true) : ShOk P (nth none l) := fun t es ht => by
  have hm : l[t]? = some (some es) := by
    rcases nth_mem (d := (none : Option (List Sh))) l t with e | e
    · rw [ht] at e; cases e
    · rw [ht] at e; exact e
  have hb := shsB_at l 0 t es h hm
  rw [Nat.zero_add] at hb
  unfold shB at hb
  split at hb
  · rename_i hu; simp only [hu]; exact Sh.beqs_eq hb
  · rename_i hu; simp only [hu]; exact Sh.beqs_eq hb
  · rename_i hu; simp only [hu]; exact Sh.beqs_eq hb
  · rename_i e hu
    simp only [hu]
    split at hb
    · rename_i e1 he
      simp only [Bool.and_eq_true, beq_iff_eq] at hb
      exact ⟨e1, he, Sh.beqs_eq hb.1.1, hb.1.2, Nat.le_of_ble_eq_true hb.2⟩
    · cases hb
  · rename_i fs hu
    simp only [hu]
    simp only [Bool.and_eq_true, beq_iff_eq] at hb
    exact ⟨hb.1, tileB_ok hb.2⟩
  · cases hb
end Go.Proofs.Ytlffmhhdgedddaa.DL
