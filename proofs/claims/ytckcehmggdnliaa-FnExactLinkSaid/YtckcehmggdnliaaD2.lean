/- Well-shaped inputs are the cells of plain data. -/
import Derived.Test.YtckcehmggdnliaaD1
import Derived.Test.YtckcehmggdnliaaL25
namespace Go.Proofs.Ytckcehmggdnliaa
open Go Go.Proofs.Ytckcehmggdnliaa.DL Go.RowKit

theorem i64_wf {n : Int} (h : (Lit.int .i64 n).wf = true) : I64 n := by
  simp only [Lit.wf, Bool.and_eq_true, decide_eq_true_eq] at h
  have e1 : IntKind.i64.min = -9223372036854775808 := by decide
  have e2 : IntKind.i64.max = 9223372036854775807 := by decide
  rw [e1, e2] at h
  exact h
theorem u8_wf {n : Int} (h : (Lit.int .u8 n).wf = true) : 0 ≤ n ∧ n ≤ 255 := by
  simp only [Lit.wf, Bool.and_eq_true, decide_eq_true_eq] at h
  have e1 : IntKind.u8.min = 0 := by decide
  have e2 : IntKind.u8.max = 255 := by decide
  rw [e1, e2] at h
  exact h
abbrev M63 : Nat := 9223372036854775807
theorem maxLen_M : maxLen = M63 := by unfold maxLen; rfl

theorem rows_inv {α : Type} {e : List Sh} {enc : α → List DV} {ok : α → Prop} (h : ∀ r, WTs e r → ∃ a, r = enc a ∧ ok a) : ∀ rows : List (List DV), (∀ r ∈ rows, WTs e r) → ∃ l : List α, rows.flatten = flat enc l ∧ l.length = rows.length ∧ ∀ a ∈ l, ok a
  | [], _ => ⟨[], rfl, rfl, fun a ha => by cases ha⟩
  | r :: rows, hr => by
    obtain ⟨a, h1, h2⟩ := h r (hr r (List.mem_cons_self ..))
    obtain ⟨l, h3, h4, h5⟩ := rows_inv h rows fun r hr' => hr r (List.mem_cons_of_mem _ hr')
    refine ⟨a :: l, by simp [flat, h1] at h3 ⊢; exact h3, by simp [h4], fun b hb => ?_⟩
    rcases List.mem_cons.1 hb with rfl | hb
    · exact h2
    · exact h5 b hb
theorem sl_inv {α : Type} {e : List Sh} {enc : α → List DV} {ok : α → Prop} (h : ∀ r, WTs e r → ∃ a, r = enc a ∧ ok a) {d : DV} (hd : WT (.sl e) d) : ∃ l : List α, d = .sl e.length (flat enc l) ∧ l.length ≤ M63 ∧ ∀ a ∈ l, ok a := by
  cases hd with
  | sl h1 h2 =>
    obtain ⟨l, h3, h4, h5⟩ := rows_inv h _ h2
    exact ⟨l, by rw [h3], by rw [h4, ← maxLen_M]; exact h1, h5⟩
theorem ints_flat (l : List Int) : flat (fun n => [iV n]) l = ints l := by
  induction l with
  | nil => rfl
  | cons a l ih => rw [flat_cons, ih]; rfl
theorem byts_flat (l : List Int) : flat (fun n => [uV n]) l = byts l := by
  induction l with
  | nil => rfl
  | cons a l ih => rw [flat_cons, ih]; rfl
theorem nil_inv {ds : List DV} (h : WTs [] ds) : ds = [] := by cases h; rfl
theorem cons_inv {s : Sh} {ss : List Sh} {ds : List DV} (h : WTs (s :: ss) ds) : ∃ d r, ds = d :: r ∧ WT s d ∧ WTs ss r := by
  cases h with
  | cons h1 h2 => exact ⟨_, _, rfl, h1, h2⟩
theorem int_inv {d : DV} (h : WT (.int .i64) d) : ∃ n, d = iV n ∧ I64 n := by
  cases h with
  | int h => exact ⟨_, rfl, i64_wf h⟩
theorem u8_inv {d : DV} (h : WT (.int .u8) d) : ∃ n, d = uV n ∧ 0 ≤ n ∧ n ≤ 255 := by
  cases h with
  | int h => exact ⟨_, rfl, u8_wf h⟩
theorem ints_inv {d : DV} (h : WT (.sl [.int .i64]) d) : ∃ l : List Int, d = .sl 1 (ints l) ∧ l.length ≤ M63 ∧ ∀ a ∈ l, I64 a := by
  obtain ⟨l, h1, h2, h3⟩ := sl_inv (enc := fun n => [iV n]) (ok := I64) (fun r hr => by
    obtain ⟨d, r', rfl, g1, g2⟩ := cons_inv hr
    obtain ⟨n, rfl, hn⟩ := int_inv g1
    rw [nil_inv g2]
    exact ⟨n, rfl, hn⟩) h
  exact ⟨l, by rw [h1, ints_flat]; rfl, h2, h3⟩
theorem byts_inv {d : DV} (h : WT (.sl [.int .u8]) d) : ∃ l : List Int, d = .sl 1 (byts l) ∧ l.length ≤ M63 ∧ ∀ a ∈ l, 0 ≤ a ∧ a ≤ 255 := by
  obtain ⟨l, h1, h2, h3⟩ := sl_inv (enc := fun n => [uV n]) (ok := fun n => 0 ≤ n ∧ n ≤ 255) (fun r hr => by
    obtain ⟨d, r', rfl, g1, g2⟩ := cons_inv hr
    obtain ⟨n, rfl, hn⟩ := u8_inv g1
    rw [nil_inv g2]
    exact ⟨n, rfl, hn⟩) h
  exact ⟨l, by rw [h1, byts_flat]; rfl, h2, h3⟩

def Conf.ok (c : Conf) : Prop := I64 c.chunks ∧ I64 c.size ∧ I64 c.slots ∧ I64 c.tax ∧ I64 c.slice ∧ I64 c.gens
def Thing.ok (t : Thing) : Prop := I64 t.pos ∧ I64 t.len ∧ I64 t.run
def Handle.ok (h : Handle) : Prop := I64 h.slot ∧ I64 h.gen
def Ref.ok (r : Ref) : Prop := r.h.ok ∧ I64 r.ep ∧ I64 r.no
def Ints (l : List Int) : Prop := l.length ≤ M63 ∧ ∀ a ∈ l, I64 a
def Node.ok (n : Node) : Prop := I64 n.st ∧ I64 n.gen ∧ I64 n.ep ∧ I64 n.up ∧ I64 n.upEp ∧ I64 n.first ∧ I64 n.next ∧ I64 n.prev ∧ Ints n.chunks ∧ I64 n.cur ∧ I64 n.bump ∧ (n.things.length ≤ M63 ∧ ∀ t ∈ n.things, t.ok) ∧ Ints n.tags
def Waste.ok (x : Waste) : Prop := I64 x.slot ∧ I64 x.first ∧ Ints x.tags ∧ Ints x.chunks ∧ I64 x.done
theorem conf_inv {ds : List DV} (h : WTs [.int .i64, .int .i64, .int .i64, .int .i64, .int .i64, .int .i64] ds) : ∃ c : Conf, ds = [iV c.chunks, iV c.size, iV c.slots, iV c.tax, iV c.slice, iV c.gens] ∧ c.ok := by
  obtain ⟨d1, r, rfl, h1, h⟩ := cons_inv h
  obtain ⟨d2, r, rfl, h2, h⟩ := cons_inv h
  obtain ⟨d3, r, rfl, h3, h⟩ := cons_inv h
  obtain ⟨d4, r, rfl, h4, h⟩ := cons_inv h
  obtain ⟨d5, r, rfl, h5, h⟩ := cons_inv h
  obtain ⟨d6, r, rfl, h6, h⟩ := cons_inv h
  rw [nil_inv h]
  obtain ⟨a1, rfl, k1⟩ := int_inv h1
  obtain ⟨a2, rfl, k2⟩ := int_inv h2
  obtain ⟨a3, rfl, k3⟩ := int_inv h3
  obtain ⟨a4, rfl, k4⟩ := int_inv h4
  obtain ⟨a5, rfl, k5⟩ := int_inv h5
  obtain ⟨a6, rfl, k6⟩ := int_inv h6
  exact ⟨⟨a1, a2, a3, a4, a5, a6⟩, rfl, k1, k2, k3, k4, k5, k6⟩
theorem thing_inv {ds : List DV} (h : WTs [.int .i64, .int .i64, .int .i64] ds) : ∃ t : Thing, ds = t.enc ∧ t.ok := by
  obtain ⟨d1, r, rfl, h1, h⟩ := cons_inv h
  obtain ⟨d2, r, rfl, h2, h⟩ := cons_inv h
  obtain ⟨d3, r, rfl, h3, h⟩ := cons_inv h
  rw [nil_inv h]
  obtain ⟨a1, rfl, k1⟩ := int_inv h1
  obtain ⟨a2, rfl, k2⟩ := int_inv h2
  obtain ⟨a3, rfl, k3⟩ := int_inv h3
  exact ⟨⟨a1, a2, a3⟩, rfl, k1, k2, k3⟩
theorem handle_inv {ds : List DV} (h : WTs [.int .i64, .int .i64] ds) : ∃ t : Handle, ds = [iV t.slot, iV t.gen] ∧ t.ok := by
  obtain ⟨d1, r, rfl, h1, h⟩ := cons_inv h
  obtain ⟨d2, r, rfl, h2, h⟩ := cons_inv h
  rw [nil_inv h]
  obtain ⟨a1, rfl, k1⟩ := int_inv h1
  obtain ⟨a2, rfl, k2⟩ := int_inv h2
  exact ⟨⟨a1, a2⟩, rfl, k1, k2⟩
theorem ref_inv {ds : List DV} (h : WTs [.int .i64, .int .i64, .int .i64, .int .i64] ds) : ∃ r : Ref, ds = [iV r.h.slot, iV r.h.gen, iV r.ep, iV r.no] ∧ r.ok := by
  obtain ⟨d1, r, rfl, h1, h⟩ := cons_inv h
  obtain ⟨d2, r, rfl, h2, h⟩ := cons_inv h
  obtain ⟨d3, r, rfl, h3, h⟩ := cons_inv h
  obtain ⟨d4, r, rfl, h4, h⟩ := cons_inv h
  rw [nil_inv h]
  obtain ⟨a1, rfl, k1⟩ := int_inv h1
  obtain ⟨a2, rfl, k2⟩ := int_inv h2
  obtain ⟨a3, rfl, k3⟩ := int_inv h3
  obtain ⟨a4, rfl, k4⟩ := int_inv h4
  exact ⟨⟨⟨a1, a2⟩, a3, a4⟩, rfl, ⟨k1, k2⟩, k3, k4⟩
theorem things_inv {d : DV} (h : WT (.sl [.int .i64, .int .i64, .int .i64]) d) : ∃ l : List Thing, d = .sl 3 (thgs l) ∧ l.length ≤ M63 ∧ ∀ t ∈ l, t.ok :=
  sl_inv (enc := Thing.enc) (ok := Thing.ok) (fun _ hr => thing_inv hr) h
theorem waste_inv {ds : List DV} (h : WTs [.int .i64, .int .i64, .sl [.int .i64], .sl [.int .i64], .int .i64] ds) : ∃ x : Waste, ds = x.enc ∧ x.ok := by
  obtain ⟨d1, r, rfl, h1, h⟩ := cons_inv h
  obtain ⟨d2, r, rfl, h2, h⟩ := cons_inv h
  obtain ⟨d3, r, rfl, h3, h⟩ := cons_inv h
  obtain ⟨d4, r, rfl, h4, h⟩ := cons_inv h
  obtain ⟨d5, r, rfl, h5, h⟩ := cons_inv h
  rw [nil_inv h]
  obtain ⟨a1, rfl, k1⟩ := int_inv h1
  obtain ⟨a2, rfl, k2⟩ := int_inv h2
  obtain ⟨a3, rfl, k3⟩ := ints_inv h3
  obtain ⟨a4, rfl, k4⟩ := ints_inv h4
  obtain ⟨a5, rfl, k5⟩ := int_inv h5
  exact ⟨⟨a1, a2, a3, a4, a5⟩, rfl, k1, k2, k3, k4, k5⟩
theorem node_inv {ds : List DV} (h : WTs [.int .i64, .int .i64, .int .i64, .int .i64, .int .i64, .int .i64, .int .i64, .int .i64, .sl [.int .i64], .int .i64, .int .i64, .sl [.int .i64, .int .i64, .int .i64], .sl [.int .i64]] ds) :
    ∃ n : Node, ds = n.enc ∧ n.ok := by
  obtain ⟨d1, r, rfl, h1, h⟩ := cons_inv h
  obtain ⟨d2, r, rfl, h2, h⟩ := cons_inv h
  obtain ⟨d3, r, rfl, h3, h⟩ := cons_inv h
  obtain ⟨d4, r, rfl, h4, h⟩ := cons_inv h
  obtain ⟨d5, r, rfl, h5, h⟩ := cons_inv h
  obtain ⟨d6, r, rfl, h6, h⟩ := cons_inv h
  obtain ⟨d7, r, rfl, h7, h⟩ := cons_inv h
  obtain ⟨d8, r, rfl, h8, h⟩ := cons_inv h
  obtain ⟨d9, r, rfl, h9, h⟩ := cons_inv h
  obtain ⟨d10, r, rfl, h10, h⟩ := cons_inv h
  obtain ⟨d11, r, rfl, h11, h⟩ := cons_inv h
  obtain ⟨d12, r, rfl, h12, h⟩ := cons_inv h
  obtain ⟨d13, r, rfl, h13, h⟩ := cons_inv h
  rw [nil_inv h]
  obtain ⟨a1, rfl, k1⟩ := int_inv h1
  obtain ⟨a2, rfl, k2⟩ := int_inv h2
  obtain ⟨a3, rfl, k3⟩ := int_inv h3
  obtain ⟨a4, rfl, k4⟩ := int_inv h4
  obtain ⟨a5, rfl, k5⟩ := int_inv h5
  obtain ⟨a6, rfl, k6⟩ := int_inv h6
  obtain ⟨a7, rfl, k7⟩ := int_inv h7
  obtain ⟨a8, rfl, k8⟩ := int_inv h8
  obtain ⟨a9, rfl, k9⟩ := ints_inv h9
  obtain ⟨a10, rfl, k10⟩ := int_inv h10
  obtain ⟨a11, rfl, k11⟩ := int_inv h11
  obtain ⟨a12, rfl, k12⟩ := things_inv h12
  obtain ⟨a13, rfl, k13⟩ := ints_inv h13
  exact ⟨⟨a1, a2, a3, a4, a5, a6, a7, a8, a9, a10, a11, a12, a13⟩, rfl, k1, k2, k3, k4, k5, k6, k7, k8, k9, k10, k11, k12, k13⟩
theorem nodes_inv {d : DV} (h : WT (.sl [.int .i64, .int .i64, .int .i64, .int .i64, .int .i64, .int .i64, .int .i64, .int .i64, .sl [.int .i64], .int .i64, .int .i64, .sl [.int .i64, .int .i64, .int .i64], .sl [.int .i64]]) d) :
    ∃ l : List Node, d = .sl 13 (nods l) ∧ l.length ≤ M63 ∧ ∀ t ∈ l, t.ok := sl_inv (enc := Node.enc) (ok := Node.ok) (fun _ hr => node_inv hr) h
theorem wastes_inv {d : DV} (h : WT (.sl [.int .i64, .int .i64, .sl [.int .i64], .sl [.int .i64], .int .i64]) d) : ∃ l : List Waste, d = .sl 5 (wsts l) ∧ l.length ≤ M63 ∧ ∀ t ∈ l, t.ok :=
  sl_inv (enc := Waste.enc) (ok := Waste.ok) (fun _ hr => waste_inv hr) h
end Go.Proofs.Ytckcehmggdnliaa
