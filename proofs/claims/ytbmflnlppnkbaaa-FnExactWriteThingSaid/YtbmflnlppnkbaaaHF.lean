/- Contracts of small functions: bytes read and replaced, in a memory and in a thing. -/
import Derived.Test.YtbmflnlppnkbaaaHE
namespace Go.Proofs.Ytbmflnlppnkbaaa
open Go Go.Proofs.Ytbmflnlppnkbaaa.DL

abbrev tB (l : List Int) (b : Bool) : SV := .tup [.cell (.own (.sl 1 (byts l))), .cell (bC b)]
/-- A memory of a length has k bytes from i on. -/
def there (len : Nat) (i k : Int) : Bool := decide (0 ≤ i) && decide (0 ≤ k) && decide (i + k ≤ len)
theorem c_l2There {l : List Int} (hl : l.length ≤ 1048576) {i k : Int} (hi : I64 i) (hk : I64 k) : CallD Try.prog F_spec_l2There [rB l, iS i, iS k] fun r _ => r = bS (there l.length i k) := by
  refine k_spec_l2There ?_
  unfold vc_spec_l2There there
  unfold I64 at hi hk
  simp only [nI, n_byts, decide_eq_true_eq, decide_eq_false_iff_not]
  refine ⟨fun h1 => ⟨fun h2 => ⟨fun h3 => ⟨fun h4 => bS_eq ?_, fun h4 => bS_eq ?_⟩, fun h3 => bS_eq ?_⟩, fun h2 => bS_eq ?_⟩, fun h1 => bS_eq ?_⟩ <;>
    (try rw [wrap_id (by omega) (by omega)] at h4) <;> rw [eq_comm] <;> simp only [Bool.and_eq_true, Bool.and_eq_false_iff, decide_eq_true_eq, decide_eq_false_iff_not] <;> omega
theorem c_hasB {n : Nat} (hn : n ≤ 1048576) {i k : Int} (hi : I64 i) (hk : I64 k) : CallD Try.prog F_impl_has [iS n, iS i, iS k] fun r _ => r = bS (there n i k) := by
  refine k_impl_has ?_
  unfold vc_impl_has there
  unfold I64 at hi hk
  simp only [decide_eq_true_eq, decide_eq_false_iff_not]
  refine ⟨fun h1 => ⟨fun h2 => ⟨_, c_within _ _ _, fun h3 => bS_eq ?_, fun h3 => bS_eq ?_⟩, fun h2 => bS_eq ?_⟩, fun h1 => bS_eq ?_⟩ <;>
    (try rw [wrap_id (by omega) (by omega)] at h3) <;> (try simp only [within, Bool.and_eq_true, Bool.and_eq_false_iff, decide_eq_true_eq, decide_eq_false_iff_not] at h3) <;> rw [eq_comm] <;>
    simp only [Bool.and_eq_true, Bool.and_eq_false_iff, decide_eq_true_eq, decide_eq_false_iff_not] <;> omega

def getR (l : List Int) (i k : Int) : List Int := if there l.length i k then (l.take (i + k).toNat).drop i.toNat else []
theorem c_GetAtS {l : List Int} (hl : l.length ≤ 1048576) {i k : Int} (hi : I64 i) (hk : I64 k) : CallD Try.prog F_spec_GetAt [rB l, iS i, iS k] fun r _ => r = tB (getR l i k) (there l.length i k) := by
  refine k_spec_GetAt ?_
  unfold vc_spec_GetAt getR
  refine ⟨_, c_l2There hl hi hk, fun h => ?_, fun h => by rw [h]; rfl⟩
  have h' := h
  simp only [there, Bool.and_eq_true, decide_eq_true_eq] at h'
  rw [h, wrap_id (by omega) (by omega)]
  simp only [nI, n_one, Nat.mul_one, take_byts, drop_byts, byts_length, List.nil_append, List.length_nil]
  refine ⟨by omega, by omega, by omega, AllVal_byts _, ?_, ?_, rfl⟩
  · simp; omega
  · simp; omega
theorem c_GetAt {l : List Int} (hl : l.length ≤ 1048576) {i k : Int} (hi : I64 i) (hk : I64 k) : CallD Try.prog F_impl_GetAt [rB l, iS i, iS k] fun r _ => r = tB (getR l i k) (there l.length i k) := by
  refine k_impl_GetAt ?_
  unfold vc_impl_GetAt getR
  simp only [nI, n_byts]
  refine ⟨_, c_hasB hl hi hk, fun h => ?_, fun h => by rw [h]; rfl⟩
  have h' := h
  simp only [there, Bool.and_eq_true, decide_eq_true_eq] at h'
  rw [h, wrap_id (by omega) (by omega)]
  simp only [Nat.mul_one, take_byts, drop_byts]
  exact ⟨by omega, by omega, by omega, _, c_cloneB (by simp; omega), rfl⟩

/-- Where bytes of a thing begin, and whether the memory has them. -/
def inThing (n : Nat) (t : Thing) (off k : Int) : Bool := decide (0 ≤ off) && decide (0 ≤ k) && decide (off + k ≤ t.len) && there n (IntKind.i64.wrap (t.pos + off)) k
theorem c_l11In {t : Thing} (ht : t.ok) {off k : Int} (ho : I64 off) (hk : I64 k) : CallD Try.prog F_spec_l11In [thingS t, iS off, iS k] fun r _ =>
    r = bS (decide (0 ≤ off) && decide (0 ≤ k) && decide (off + k ≤ t.len) && (decide (t.pos < 0) || decide (0 ≤ IntKind.i64.wrap (t.pos + off)))) := by
  obtain ⟨h1, h2, h3⟩ := ht
  refine k_spec_l11In ?_
  unfold vc_spec_l11In
  unfold I64 at *
  simp only [decide_eq_true_eq, decide_eq_false_iff_not]
  refine ⟨fun g1 => ⟨fun g2 => ⟨fun g3 => ⟨fun g4 => ⟨fun g5 => bS_eq ?_, fun g5 => ⟨fun g6 => bS_eq ?_, fun g6 => bS_eq ?_⟩⟩, fun g4 => bS_eq ?_⟩, fun g3 => bS_eq ?_⟩, fun g2 => bS_eq ?_⟩, fun g1 => bS_eq ?_⟩ <;>
    (try rw [wrap_id (n := t.len - off) (by omega) (by omega)] at g4) <;> rw [eq_comm] <;> simp only [Bool.and_eq_true, Bool.or_eq_true, Bool.and_eq_false_iff, Bool.or_eq_false_iff, decide_eq_true_eq, decide_eq_false_iff_not] <;> omega
def startN (t : Thing) (off k : Int) : Int := if 0 ≤ off ∧ 0 ≤ k ∧ off + k ≤ t.len ∧ 0 ≤ IntKind.i64.wrap (t.pos + off) then IntKind.i64.wrap (t.pos + off) else 0
theorem startN_in {n : Nat} {t : Thing} {off k : Int} (h : inThing n t off k = true) : startN t off k = IntKind.i64.wrap (t.pos + off) := by
  simp only [inThing, there, Bool.and_eq_true, decide_eq_true_eq] at h
  unfold startN
  rw [if_pos (by omega)]
theorem c_startOf {l : List Int} (hl : l.length ≤ 1048576) {t : Thing} (ht : t.ok) {off k : Int} (ho : I64 off) (hk : I64 k) :
    CallD Try.prog F_impl_startOf [rB l, thingS t, iS off, iS k] fun r _ => r = .tup [.cell (iC (startN t off k)), .cell (bC (inThing l.length t off k))] := by
  obtain ⟨h1, h2, h3⟩ := ht
  have same : ∀ {n n' : Int} {b b' : Bool}, n = n' → b = b' → (SV.tup [.cell (iC n), .cell (bC b)] : SV) = .tup [.cell (iC n'), .cell (bC b')] := fun h h' => by rw [h, h']
  have out : ¬ (0 ≤ off ∧ 0 ≤ k ∧ off + k ≤ t.len ∧ 0 ≤ IntKind.i64.wrap (t.pos + off)) → (SV.tup [.cell (iC 0), .cell (bC false)] : SV) = .tup [.cell (iC (startN t off k)), .cell (bC (inThing l.length t off k))] := fun h => by
    refine same ?_ ?_
    · unfold startN; rw [if_neg h]
    · cases g : inThing l.length t off k with
      | false => rfl
      | true =>
        simp only [inThing, there, Bool.and_eq_true, decide_eq_true_eq] at g
        omega
  refine k_impl_startOf ?_
  unfold vc_impl_startOf
  unfold I64 at *
  simp only [decide_eq_true_eq, decide_eq_false_iff_not, nI, n_byts]
  refine ⟨fun g => out (by omega), fun g1 => ⟨fun g => out (by omega), fun g2 => ⟨fun g => out (by omega), fun g3 => ?_⟩⟩⟩
  rw [wrap_id (n := t.len - k) (by omega) (by omega)]
  refine ⟨fun g => out (by omega), fun g4 => ⟨fun g => out (by omega), fun g5 => ⟨_, c_hasB hl (wrap_I64 _) hk, fun g6 => same ?_ ?_, fun g6 => same ?_ ?_⟩⟩⟩
  · unfold startN; rw [if_pos (by omega)]
  · simp only [inThing, g6, Bool.and_true]; rw [eq_comm]; simp only [Bool.and_eq_true, decide_eq_true_eq]; omega
  · unfold startN; rw [if_pos (by omega)]
  · simp [inThing, g6]

/-- What is read, and whether it is there. -/
def readR (l : List Int) (t : Thing) (off k : Int) : List Int := if inThing l.length t off k then getR l (IntKind.i64.wrap (t.pos + off)) k else []
theorem c_ReadThing {l : List Int} (hl : l.length ≤ 1048576) {t : Thing} (ht : t.ok) {off k : Int} (ho : I64 off) (hk : I64 k) :
    CallD Try.prog F_impl_ReadThing [rB l, thingS t, iS off, iS k] fun r _ => r = tB (readR l t off k) (inThing l.length t off k) := by
  refine k_impl_ReadThing ?_
  unfold vc_impl_ReadThing
  refine ⟨_, _, c_startOf hl ht ho hk, fun h => ?_, fun h => by unfold readR; rw [h]; rfl⟩
  have e : there l.length (IntKind.i64.wrap (t.pos + off)) k = true := by
    have := h
    simp only [inThing, Bool.and_eq_true] at this
    exact this.2
  rw [startN_in h]
  refine ⟨_, _, c_GetAt hl (wrap_I64 _) hk, fun _ => ?_, fun g => ?_⟩
  · unfold readR; rw [h]; rfl
  · rw [e] at g; cases g
theorem c_ReadThingS {l : List Int} (hl : l.length ≤ 1048576) {t : Thing} (ht : t.ok) {off k : Int} (ho : I64 off) (hk : I64 k) :
    CallD Try.prog F_spec_ReadThing [rB l, thingS t, iS off, iS k] fun r _ => r = tB (readR l t off k) (inThing l.length t off k) := by
  refine k_spec_ReadThing ?_
  unfold vc_spec_ReadThing
  have hp := ht.1
  refine ⟨_, c_l11In ht ho hk, fun h => ?_, fun h => ?_⟩
  · simp only [Bool.and_eq_true, decide_eq_true_eq] at h
    have e : inThing l.length t off k = there l.length (IntKind.i64.wrap (t.pos + off)) k := by simp [inThing, h.1.1.1, h.1.1.2, h.1.2]
    refine ⟨_, _, c_GetAtS hl (wrap_I64 _) hk, fun g => ?_, fun g => ?_⟩
    · unfold readR; rw [e, g]; rfl
    · unfold readR getR; rw [e, g]; rfl
  · have e : inThing l.length t off k = false := by
      cases g : inThing l.length t off k with
      | false => rfl
      | true =>
        simp only [inThing, there, Bool.and_eq_true, decide_eq_true_eq] at g
        have : (decide (0 ≤ off) && decide (0 ≤ k) && decide (off + k ≤ t.len) && (decide (t.pos < 0) || decide (0 ≤ IntKind.i64.wrap (t.pos + off)))) = true := by
          simp [g.1.1.1, g.1.1.2, g.1.2, g.2.1.1]
        rw [this] at h; cases h
    unfold readR; rw [e]; rfl
end Go.Proofs.Ytbmflnlppnkbaaa
