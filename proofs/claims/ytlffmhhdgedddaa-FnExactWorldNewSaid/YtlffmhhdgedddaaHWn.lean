/- Contracts of small functions: a world made new. -/
import Derived.Test.YtlffmhhdgedddaaHPn
namespace Go.Proofs.Ytlffmhhdgedddaa
open Go Go.Proofs.Ytlffmhhdgedddaa.DL
set_option maxRecDepth 100000

/-- The slice that has no memory, as a value. -/
abbrev nilV : Value := .slice none 0 0
/-- Data in which slices without memory read as empty slices. -/
inductive Soft : List DV → List DV → Prop
  | nil : Soft [] []
  | same {d : DV} {ds es : List DV} : Soft ds es → Soft (d :: ds) (d :: es)
  | soft {k : Nat} {ds es : List DV} : Soft ds es → Soft (.val nilV :: ds) (.sl k [] :: es)
theorem Soft.len {ds es : List DV} (h : Soft ds es) : ds.length = es.length := by
  induction h with
  | nil => rfl
  | same _ ih => simp [ih]
  | soft _ ih => simp [ih]
theorem Soft.app {a b c d : List DV} (h : Soft a b) (h' : Soft c d) : Soft (a ++ c) (b ++ d) := by
  induction h with
  | nil => exact h'
  | same _ ih => exact .same ih
  | soft _ ih => exact .soft ih
theorem Soft.rd {o : Bool} {w : World} {vs : List Value} {ds es : List DV} {bs : List Nat} (h : Rd o w vs ds bs) (hs : Soft ds es) : Rd o w vs es bs := by
  induction h generalizing es with
  | nil => cases hs; exact .nil
  | sc h1 _ ih =>
    cases hs with
    | same hs => exact .sc h1 (ih hs)
    | soft hs => exact .e0 (fun _ => rfl) (ih hs)
  | e0 h1 _ ih =>
    cases hs with
    | same hs => exact .e0 h1 (ih hs)
  | sl h1 h2 h3 h4 h5 h6 _ _ ih =>
    cases hs with
    | same hs => exact .sl h1 h2 h3 h4 h5 h6 (ih hs)
/-- A result that owns such data. -/
theorem CallD.soft {P : Program} {f : FuncId} {args : List SV} {sz : Nat} {ds es : List DV} (h : CallD P f args fun r _ => r = oneC (.own (.sl sz ds))) (hs : Soft ds es) : CallD P f args fun r _ => r = oneC (.own (.sl sz es)) :=
  ⟨h.1, fun w vs φ hr h0 => (h.2 w vs φ hr h0).mono fun _ w' ⟨v, r, a, φ', h1, h2, h3, h4⟩ => by
    subst h2
    refine ⟨v, oneC (.own (.sl sz es)), a, φ', h1, rfl, rfl, ⟨h4.len, fun t x hx => ?_, h4.nd, h4.dj, h4.lt, h4.ext⟩⟩
    cases t with
    | some t => exact h4.slot (some t) x hx
    | none =>
      have hx : x = oneC (.own (.sl sz es)) := by
        simp only [sget, Option.some.injEq] at hx
        exact hx.symm
      subst hx
      have h5 : Rd true w' [v] [.sl sz ds] (φ' none) := h4.slot none _ rfl
      show Rd true w' [v] [.sl sz es] (φ' none)
      generalize φ' none = bs at h5
      cases h5 with
      | e0 g1 g2 => cases hs; exact .e0 g1 g2
      | sl g1 g2 g3 g4 g5 g6 g7 => exact .sl g1 g2 g3 (by rw [← hs.len]; exact g4) g5 (hs.rd g6) g7⟩
def rp (n : Nat) (x : List DV) : List DV := (List.replicate n x).flatten
theorem rp_len {n : Nat} {x : List DV} (h : x.length = 13) : (rp n x).length = n * 13 := by
  unfold rp
  induction n with
  | zero => rfl
  | succ n ih => rw [List.replicate_succ, List.flatten_cons, List.length_append, ih, h]; omega
theorem rp_add (a b : Nat) (x : List DV) : rp (a + b) x = rp a x ++ rp b x := by
  unfold rp
  rw [← List.flatten_append, List.replicate_append_replicate]
theorem rp_take {a b : Nat} {x : List DV} (h : x.length = 13) (hab : a ≤ b) : (rp b x).take (a * 13) = rp a x := by
  have : b = a + (b - a) := by omega
  rw [this, rp_add, List.take_append_of_le_length (by rw [rp_len h]; omega), List.take_of_length_le (by rw [rp_len h]; omega)]
theorem rp_drop {a b : Nat} {x : List DV} (h : x.length = 13) (hab : a ≤ b) : (rp b x).drop (a * 13) = rp (b - a) x := by
  have e : b = a + (b - a) := by omega
  conv => lhs; rw [e, rp_add]
  rw [List.drop_append, rp_len h, Nat.sub_self, List.drop_of_length_le (by rw [rp_len h]; omega)]
  rfl
theorem rp_set {x z : List DV} (hx : x.length = 13) (hz : z.length = 13) {a b q : Nat} (h : q ≤ b) : overlay (rp a x ++ rp b z) (a * 13) (rp q x) = rp (a + q) x ++ rp (b - q) z := by
  unfold overlay
  rw [setRange_eq _ _ _ (by rw [List.length_append, rp_len hx, rp_len hz, rp_len hx]; omega)]
  rw [List.take_append_of_le_length (by rw [rp_len hx]; omega), List.take_of_length_le (by rw [rp_len hx]; omega), rp_len hx, rp_add, List.append_assoc]
  congr 2
  rw [List.drop_append, rp_len hx, List.drop_of_length_le (by rw [rp_len hx]; omega), List.nil_append, show a * 13 + q * 13 - a * 13 = q * 13 by omega, rp_drop hz h]
theorem n_rp {n : Nat} {x : List DV} (h : x.length = 13) : (DV.sl 13 (rp n x)).n = n := by
  rw [DV.n_eq, rp_len h]; omega
theorem AllVal_rp {n : Nat} {x : List DV} (h : AllVal x) : AllVal (rp n x) := fun d hd => by
  unfold rp at hd
  obtain ⟨l, hl, hd⟩ := List.mem_flatten.1 hd
  rw [(List.mem_replicate.1 hl).2] at hd
  exact h d hd
theorem Soft.rp {x y : List DV} (h : Soft x y) : ∀ n, Soft (rp n x) (rp n y)
  | 0 => .nil
  | n + 1 => by
    have e : ∀ z : List DV, Go.Proofs.Ytlffmhhdgedddaa.rp (n + 1) z = z ++ Go.Proofs.Ytlffmhhdgedddaa.rp n z := fun z => by unfold Go.Proofs.Ytlffmhhdgedddaa.rp; rw [List.replicate_succ, List.flatten_cons]
    rw [e, e]
    exact h.app (Soft.rp h n)
end Go.Proofs.Ytlffmhhdgedddaa
