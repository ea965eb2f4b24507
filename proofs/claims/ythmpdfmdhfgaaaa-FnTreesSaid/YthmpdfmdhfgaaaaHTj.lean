/- Trees of rooms: what linking did, unlinking takes back. -/
import Derived.Test.YthmpdfmdhfgaaaaHTi
namespace Go.Proofs.Ythmpdfmdhfgaaaa
open Go Go.Proofs.Ythmpdfmdhfgaaaa.DL
set_option maxRecDepth 100000

theorem upd_ne {l : List Node} {k j : Nat} {f : Node → Node} (h : j ≠ k) : (upd l k f).getD j zeroN = l.getD j zeroN := by
  rw [upd_at, if_neg fun g => h g.1]
theorem upd_eq {l : List Node} {k : Nat} {f : Node → Node} (h : k < l.length) : (upd l k f).getD k zeroN = f (l.getD k zeroN) := by
  rw [upd_at, if_pos ⟨rfl, h⟩]
/-- The last four updates of unlinking. -/
def off4 (l : List Node) (k : Nat) : List Node := upd (upd (upd (upd l k fun n => { n with up := 0 }) k fun n => { n with upEp := 0 }) k fun n => { n with next := 0 }) k fun n => { n with prev := 0 }
theorem off4_len (l : List Node) (k : Nat) : (off4 l k).length = l.length := by simp only [off4, upd_length]
theorem off4_ne {l : List Node} {k j : Nat} (h : j ≠ k) : (off4 l k).getD j zeroN = l.getD j zeroN := by
  unfold off4
  rw [upd_ne h, upd_ne h, upd_ne h, upd_ne h]
theorem off4_eq {l : List Node} {k : Nat} (h : k < l.length) {n : Node} (hn : l.getD k zeroN = n) : (off4 l k).getD k zeroN = ⟨n.st, n.gen, n.ep, 0, 0, n.first, 0, 0, n.chunks, n.cur, n.bump, n.things, n.tags⟩ := by
  unfold off4
  rw [upd_eq (by simp only [upd_length]; exact h), upd_eq (by simp only [upd_length]; exact h), upd_eq (by simp only [upd_length]; exact h), upd_eq h, hn]
theorem off4_nods {l : List Node} {k : Nat} (h : k < l.length) : ((((nods l).set (k * 13 + 3) (iV 0)).set (k * 13 + 4) (iV 0)).set (k * 13 + 6) (iV 0)).set (k * 13 + 7) (iV 0) = nods (off4 l k) := by
  rw [set_up h, set_upEp (by rw [upd_length]; exact h), set_next (by rw [upd_length, upd_length]; exact h), set_prev (by rw [upd_length, upd_length, upd_length]; exact h)]
  rfl
theorem first_first (n : Node) (a : Int) : ({ ({ n with first := a } : Node) with first := n.first } : Node) = n := by cases n; rfl
theorem prev_prev (n : Node) (a : Int) (h : n.prev = 0) : ({ ({ n with prev := a } : Node) with prev := 0 } : Node) = n := by cases n; simp only at h; subst h; rfl
theorem TH.unlinkX {b : List Node} {u : Nat} (h : TH b u) : unlinkD (lk b u) b.length = nods (exB b) := by
  have hL := h.len
  have hU := h.up
  have hf := (h.node h.slot).first
  have hlast : (exB b).getD b.length zeroN = newN 0 := t_last b
  have sN : slotB (lk b u) (b.length : Int) = true := by rw [slot_lk]; exact slot_ext.2 (by omega)
  have eN : (lk b u).getD b.length zeroN = ⟨1, 1, 0, (u : Int) + 1, (nodeAt (exB b) (u : Int)).ep, 0, (nodeAt (exB b) (u : Int)).first, 0, [], 0, 0, [], []⟩ := h.atN
  have eU : (lk b u).getD u zeroN = { (exB b).getD u zeroN with first := (b.length : Int) + 1 } := h.atU
  have l0 : (lk b u).length = b.length + 1 := lk_len b u
  have eA : unA (lk b u) b.length (0 - 1) 0 (nodeAt (exB b) (u : Int)).first u = nods (upd (lk b u) u fun n => { n with first := (nodeAt (exB b) (u : Int)).first }) := by
    unfold unA
    rw [slot_lk, slot_neg (by omega), if_neg (by simp), slot_lk, h.slot]
    have e1 : firstAt (lk b u) u = IntKind.i64.wrap ((b.length : Int) + 1) := by
      show (nodeAt (lk b u) (u : Int)).first = _
      rw [h.atU, wrap_id] <;> omega
    rw [e1, if_pos (by simp)]
    exact set_first (by rw [l0]; omega) _
  have ext1 : ∀ x : List Node, x.length = b.length + 1 → x.getD b.length zeroN = ⟨1, 1, 0, (u : Int) + 1, (nodeAt (exB b) (u : Int)).ep, 0, (nodeAt (exB b) (u : Int)).first, 0, [], 0, 0, [], []⟩ →
      (∀ j, j < b.length → x.getD j zeroN = (exB b).getD j zeroN) → nods (off4 x b.length) = nods (exB b) := fun x hx h1 h2 => by
    congr 1
    refine ext_getD (by rw [off4_len, hx, exB_len]) fun j hj => ?_
    rw [off4_len, hx] at hj
    by_cases e : j = b.length
    · subst e
      rw [off4_eq (by omega) h1, hlast]
      rfl
    · rw [off4_ne e]
      exact h2 j (by omega)
  have eU' : (upd (lk b u) u fun n => { n with first := (nodeAt (exB b) (u : Int)).first }).getD u zeroN = (exB b).getD u zeroN := by
    rw [upd_eq (by omega), eU]
    exact first_first _ _
  unfold unlinkD
  rw [if_pos sN, Int.toNat_natCast, eN]
  simp only
  rw [show (u : Int) + 1 - 1 = u by omega, wrap_id (n := (u : Int)) (by omega) (by omega), wrap_id (n := (nodeAt (exB b) (u : Int)).first - 1) (by omega) (by omega), wrap_id (n := (0 : Int) - 1) (by omega) (by omega)]
  unfold unD unB
  rw [eA, slot_lk, Int.toNat_natCast]
  by_cases hF : (nodeAt (exB b) (u : Int)).first = 0
  · rw [slot_neg (b := b) (j := (nodeAt (exB b) (u : Int)).first - 1) (by omega), if_neg (by simp), off4_nods (by rw [upd_length, l0]; omega)]
    refine ext1 _ (by rw [upd_length, l0]) (by rw [upd_ne (by omega), eN]) fun j hj => ?_
    by_cases e2 : j = u
    · subst e2
      exact eU'
    · rw [upd_ne e2, h.atJ j, if_neg (by omega), if_neg e2, if_neg fun g => g.1 hF]
  · obtain ⟨f1, f2, f3, f4, f5, f6, f7⟩ := h.fst hF
    obtain ⟨p1, p2⟩ := slot_ext.1 f1
    obtain ⟨w, hw⟩ := Int.eq_ofNat_of_zero_le p1
    rw [hw] at f6 f7 f3
    rw [if_pos f1, hw, Int.toNat_natCast, set_prev (by rw [upd_length, l0]; omega), off4_nods (by rw [upd_length, upd_length, l0]; omega)]
    refine ext1 _ (by rw [upd_length, upd_length, l0]) (by rw [upd_ne (by omega), upd_ne (by omega), eN]) fun j hj => ?_
    by_cases e3 : j = w
    · subst e3
      rw [upd_eq (by rw [upd_length, l0]; omega), upd_ne (by omega), h.atJ j, if_neg (by omega), if_neg (by omega), if_pos ⟨hF, by omega⟩]
      exact prev_prev _ _ f3
    · rw [upd_ne e3]
      by_cases e2 : j = u
      · subst e2
        exact eU'
      · rw [upd_ne e2, h.atJ j, if_neg (by omega), if_neg e2, if_neg fun g => by omega]
end Go.Proofs.Ythmpdfmdhfgaaaa
