/- Contracts of small functions: trees of rooms drawn. -/
import Derived.Test.YthmpdfmdhfgaaaaHTq
import Derived.Test.YthmpdfmdhfgaaaaHP
import Derived.Test.YthmpdfmdhfgaaaaHRS
namespace Go.Proofs.Ythmpdfmdhfgaaaa
open Go Go.Proofs.Ythmpdfmdhfgaaaa.DL
set_option maxRecDepth 100000

theorem zeroN_ok : zeroN.ok := by
  refine ⟨?_, ?_, ?_, ?_, ?_, ?_, ?_, ?_, ⟨by decide, fun x hx => by cases hx⟩, ?_, ?_, ⟨by decide, fun x hx => by cases hx⟩, ⟨by decide, fun x hx => by cases hx⟩⟩ <;> (show I64 0; unfold I64; omega)
theorem getD_okN {l : List Node} (h : ∀ n ∈ l, n.ok) (k : Nat) : (l.getD k zeroN).ok := by
  by_cases hk : k < l.length
  · have : l.getD k zeroN = l[k] := by simp [List.getD_eq_getElem?_getD, hk]
    rw [this]; exact h _ (List.getElem_mem hk)
  · have : l.getD k zeroN = zeroN := by simp [List.getD_eq_getElem?_getD, List.getElem?_eq_none (show l.length ≤ k by omega)]
    rw [this]; exact zeroN_ok
theorem upd_okN {l : List Node} (h : ∀ n ∈ l, n.ok) {k : Nat} {f : Node → Node} (hf : ∀ n, n.ok → (f n).ok) : ∀ n ∈ upd l k f, n.ok := fun n hn => by
  unfold upd at hn
  rcases List.mem_or_eq_of_mem_set hn with hn | rfl
  · exact h n hn
  · exact hf _ (getD_okN h k)
theorem link_okN {l : List Node} (h : ∀ n ∈ l, n.ok) (up k : Int) : ∀ n ∈ linkL l up k, n.ok := by
  have g := getD_okN h up.toNat
  have h5 : ∀ n ∈ link5 l up k, n.ok := by
    unfold link5
    refine upd_okN (upd_okN (upd_okN (upd_okN (upd_okN h ?_) ?_) ?_) ?_) ?_ <;> (rintro n ⟨o1, o2, o3, o4, o5, o6, o7, o8, o9, o10, o11, o12, o13⟩; refine ⟨?_, ?_, ?_, ?_, ?_, ?_, ?_, ?_, ?_, ?_, ?_, ?_, ?_⟩ <;> first | assumption | exact wrap_I64 _ | exact g.2.2.1 | exact g.2.2.2.2.2.1 | (show I64 0; unfold I64; omega))
  unfold linkL
  split
  · split
    · refine upd_okN h5 ?_
      rintro n ⟨o1, o2, o3, o4, o5, o6, o7, o8, o9, o10, o11, o12, o13⟩
      exact ⟨o1, o2, o3, o4, o5, o6, o7, wrap_I64 _, o9, o10, o11, o12, o13⟩
    · exact h5
  · exact h
theorem link_len (l : List Node) (up k : Int) : (linkL l up k).length = l.length := by
  unfold linkL
  split
  · split
    · rw [upd_length, link5_length]
    · exact link5_length ..
  · rfl
/-- A room as it is drawn, in a table of N. -/
structure N0 (N : Nat) (n : Node) : Prop where
  st : n.st = 1
  gen : n.gen = 1
  ep : 0 ≤ n.ep ∧ n.ep ≤ 1
  up : 0 ≤ n.up ∧ n.up ≤ (N : Int) - 1
  upEp : 0 ≤ n.upEp ∧ n.upEp ≤ 1
  first : 0 ≤ n.first ∧ n.first ≤ N
  next : 0 ≤ n.next ∧ n.next ≤ N
  prev : 0 ≤ n.prev ∧ n.prev ≤ N
  ch : n.chunks = []
  cur : n.cur = 0
  bump : n.bump = 0
  th : n.things = []
  tags : n.tags = []
  one : N = 1 → n.upEp = 0 ∧ n.prev = 0
/-- A room of such a table in which one number may be another one. -/
structure N1 (N : Nat) (n : Node) : Prop where
  st : 1 ≤ n.st ∧ n.st ≤ 2
  gen : n.gen = 1
  ep : 0 ≤ n.ep ∧ n.ep ≤ 2
  up : -1 ≤ n.up ∧ n.up ≤ 9
  upEp : 0 ≤ n.upEp ∧ n.upEp ≤ 1
  first : 0 ≤ n.first ∧ n.first ≤ 7
  next : 0 ≤ n.next ∧ n.next ≤ 7
  prev : 0 ≤ n.prev ∧ n.prev ≤ 7
  ch : n.chunks = []
  cur : n.cur = 0
  bump : n.bump = 0
  th : n.things = []
  tags : n.tags = []
  far : n.up = (N : Int) + 1 → n.st = 1 ∧ n.upEp = 0 ∧ n.prev = 0
theorem N0.to {N : Nat} {n : Node} (h : N0 N n) (hN : N ≤ 6) : N1 N n := by
  obtain ⟨a1, a2, a3, a4, a5, a6, a7, a8, a9, a10, a11, a12, a13, a14⟩ := h
  exact ⟨by omega, a2, by omega, by omega, a5, by omega, by omega, by omega, a9, a10, a11, a12, a13, fun h => by omega⟩
def newN (e : Int) : Node := ⟨1, 1, e, 0, 0, 0, 0, 0, [], 0, 0, [], []⟩
theorem newN_N0 {N : Nat} (hN : 1 ≤ N) {e : Int} (he : 0 ≤ e ∧ e ≤ 1) : N0 N (newN e) := by
  refine ⟨rfl, rfl, he, ?_, ?_, ?_, ?_, ?_, rfl, rfl, rfl, rfl, rfl, fun _ => ⟨rfl, rfl⟩⟩ <;> (show (0 : Int) ≤ 0 ∧ (0 : Int) ≤ _; omega)
theorem N1.ok {N : Nat} {n : Node} (h : N1 N n) : n.ok := by
  obtain ⟨a1, a2, a3, a4, a5, a6, a7, a8, a9, a10, a11, a12, a13, a14⟩ := h
  unfold Node.ok I64 Ints
  rw [a9, a12, a13]
  exact ⟨by omega, by omega, by omega, by omega, by omega, by omega, by omega, by omega, ⟨by decide, fun x hx => by cases hx⟩, by omega, by omega, ⟨by decide, fun x hx => by cases hx⟩, ⟨by decide, fun x hx => by cases hx⟩⟩
theorem N1.sz {N : Nat} {n : Node} (h : N1 N n) : n.sz = 0 := by
  unfold Node.sz
  rw [h.ch, h.th, h.tags]; rfl
theorem szs_zero : ∀ {l : List Node}, (∀ n ∈ l, n.sz = 0) → szs l = 0
  | [], _ => rfl
  | n :: l, h => by
    have h1 := h n List.mem_cons_self
    have h2 := szs_zero fun m hm => h m (List.mem_cons_of_mem _ hm)
    unfold szs
    omega
theorem totN_zero {l : List Node} (h : ∀ n ∈ l, n.sz = 0) : totN l = l.length := by
  unfold totN
  rw [szs_zero h]; omega
end Go.Proofs.Ythmpdfmdhfgaaaa
