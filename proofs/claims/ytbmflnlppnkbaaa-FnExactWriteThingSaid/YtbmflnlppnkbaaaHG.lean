/- Contracts of small functions: bytes replaced in a memory, and in a thing. -/
import Derived.Test.YtbmflnlppnkbaaaHF
namespace Go.Proofs.Ytbmflnlppnkbaaa
open Go Go.Proofs.Ytbmflnlppnkbaaa.DL

theorem setRange_app {α : Type} : ∀ (new a b : List α), new.length ≤ b.length → setRange (a ++ b) a.length new = a ++ (new ++ b.drop new.length)
  | [], a, b, _ => by simp [setRange]
  | x :: xs, a, [], h => by simp at h
  | x :: xs, a, y :: b, h => by
    have e : (a ++ y :: b).set a.length x = (a ++ [x]) ++ b := by rw [List.set_append_right _ _ (Nat.le_refl _)]; simp
    have := setRange_app xs (a ++ [x]) b (by simpa using h)
    simp only [List.length_append, List.length_singleton] at this
    unfold setRange
    rw [e, this]
    simp
theorem setRange_eq {α : Type} (new es : List α) (j : Nat) (h : j + new.length ≤ es.length) : setRange es j new = es.take j ++ (new ++ es.drop (j + new.length)) := by
  have := setRange_app new (es.take j) (es.drop j) (by simp; omega)
  rw [List.take_append_drop, List.length_take, Nat.min_eq_left (by omega), List.drop_drop] at this
  exact this
def putAt (l : List Int) (j : Nat) (s : List Int) : List Int := l.take j ++ (s ++ l.drop (j + s.length))
theorem putAt_length {l s : List Int} {j : Nat} (h : j + s.length ≤ l.length) : (putAt l j s).length = l.length := by
  simp [putAt]; omega
theorem putAt_step {l s : List Int} {j k : Nat} (hk : k < s.length) (h : j + s.length ≤ l.length) : (putAt l j (s.take k)).set (j + k) s[k] = putAt l j (s.take (k + 1)) := by
  unfold putAt
  have hl : (l.take j).length = j := by simp; omega
  have hk' : (s.take k).length = k := by simp; omega
  rw [List.set_append_right _ _ (by omega), hl, List.set_append_right _ _ (by omega), hk', Nat.add_sub_cancel_left, Nat.sub_self]
  have e : l.drop (j + k) = l[j + k] :: l.drop (j + k + 1) := List.drop_eq_getElem_cons (by omega)
  have e3 : (s.take (k + 1)).length = k + 1 := by simp; omega
  rw [e, List.set_cons_zero, List.take_succ_eq_append_getElem hk]
  simp only [List.append_assoc, List.singleton_append, List.length_append, hk', List.length_singleton, Nat.add_assoc]
def putR (l : List Int) (i : Int) (s : List Int) : List Int := if there l.length i s.length then putAt l i.toNat s else l

theorem c_PutAt {l s : List Int} (hl : l.length ≤ 1048576) (hs : s.length ≤ 1048576) {i : Int} (hi : I64 i) : CallD Try.prog F_impl_PutAt [rB l, iS i, rB s] fun r _ => r = tB (putR l i s) (there l.length i s.length) := by
  refine k_impl_PutAt ?_
  unfold vc_impl_PutAt putR
  simp only [nI, n_byts]
  refine ⟨_, c_cloneB hl, _, c_hasB hl hi (by unfold I64; omega), fun h => ?_, fun h => by rw [h]; rfl⟩
  have h' := h
  simp only [there, Bool.and_eq_true, decide_eq_true_eq] at h'
  rw [h]
  simp only [n_byts, Option.getD_some, Int.toNat_natCast, Nat.mul_one, byts_length, es_sl]
  have e1 : (byts l).take l.length = byts l := by rw [List.take_of_length_le (by rw [byts_length]; omega)]
  have e2 : min ((byts l).drop i.toNat).length s.length = s.length := by simp [byts_length]; omega
  rw [e1, e2]
  refine ⟨by omega, by omega, by omega, AllVal_byts _, trivial, by omega, ?_⟩
  rw [List.take_of_length_le (by rw [byts_length]; omega)]
  show SV.tup [.cell (.own (.sl 1 (setRange (byts l) i.toNat (byts s)))), _] = _
  rw [setRange_eq _ _ _ (by simp only [byts_length]; omega)]
  simp only [byts_length, take_byts, drop_byts, byts_app]
  rfl
theorem c_PutAtS {l s : List Int} (hl : l.length ≤ 1048576) (hs : s.length ≤ 1048576) {i : Int} (hi : I64 i) : CallD Try.prog F_spec_PutAt [rB l, iS i, rB s] fun r _ => r = tB (putR l i s) (there l.length i s.length) := by
  refine k_spec_PutAt ?_
  unfold vc_spec_PutAt putR
  simp only [nI, n_one, byts_length, List.length_nil, List.nil_append]
  refine ⟨AllVal_byts _, by omega, by omega, _, c_l2There hl hi (by unfold I64; omega), fun h => ?_, fun h => by rw [h]; rfl⟩
  have h' := h
  simp only [there, Bool.and_eq_true, decide_eq_true_eq] at h'
  rw [h]
  refine ⟨fun es n m => ∃ k : Nat, n = k ∧ k ≤ s.length ∧ m = s.length - k ∧ es = byts (putAt l i.toNat (s.take k)), ⟨_, 0, rfl, Nat.zero_le _, rfl, by simp [putAt]⟩, ?_⟩
  rintro es n m ⟨k, rfl, hk, rfl, rfl⟩
  have e0 : (putAt l i.toNat (s.take k)).length = l.length := putAt_length (by simp; omega)
  simp only [Int.toNat_natCast, Nat.mul_one, es_sl, byts_length, e0, decide_eq_true_eq (p := (k : Int) < s.length), decide_eq_false_iff_not (p := (k : Int) < s.length)]
  refine ⟨fun h1 => ?_, fun h1 => ?_⟩
  · have ha : k < s.length := by omega
    have e1 : IntKind.i64.wrap (i + k) = i + k := wrap_id (by omega) (by omega)
    have e2 : (i + (k : Int)).toNat = i.toNat + k := by omega
    simp only [hd_byts ha, getD_eq ha, isI_uV, asI_uV, e1, e2]
    refine ⟨by omega, by omega, by simp [byts]; omega, trivial, by omega, by omega, trivial, by omega, ⟨trivial, trivial⟩, s.length - (k + 1), by omega, k + 1, by rw [wrap_id] <;> omega, by omega, rfl, ?_⟩
    rw [set_byts, putAt_step ha (by omega)]
  · have : k = s.length := by omega
    subst this
    rw [List.take_of_length_le (Nat.le_refl _)]
    rfl

def writeR (l : List Int) (t : Thing) (off : Int) (s : List Int) : List Int := if inThing l.length t off s.length then putR l (IntKind.i64.wrap (t.pos + off)) s else l
theorem c_WriteThing {l s : List Int} (hl : l.length ≤ 1048576) (hs : s.length ≤ 1048576) {t : Thing} (ht : t.ok) {off : Int} (ho : I64 off) :
    CallD Try.prog F_impl_WriteThing [rB l, thingS t, iS off, rB s] fun r _ => r = tB (writeR l t off s) (inThing l.length t off s.length) := by
  refine k_impl_WriteThing ?_
  unfold vc_impl_WriteThing
  simp only [nI, n_byts]
  refine ⟨_, _, c_startOf hl ht ho (by unfold I64; omega), fun h => ?_, fun h => ⟨_, c_cloneB hl, by unfold writeR; rw [h]; rfl⟩⟩
  have e : there l.length (IntKind.i64.wrap (t.pos + off)) s.length = true := by
    have := h
    simp only [inThing, Bool.and_eq_true] at this
    exact this.2
  rw [startN_in h]
  refine ⟨_, _, c_PutAt hl hs (wrap_I64 _), fun _ => ?_, fun g => ?_⟩
  · unfold writeR; rw [h]; rfl
  · rw [e] at g; cases g
theorem c_WriteThingS {l s : List Int} (hl : l.length ≤ 1048576) (hs : s.length ≤ 1048576) {t : Thing} (ht : t.ok) {off : Int} (ho : I64 off) :
    CallD Try.prog F_spec_WriteThing [rB l, thingS t, iS off, rB s] fun r _ => r = tB (writeR l t off s) (inThing l.length t off s.length) := by
  refine k_spec_WriteThing ?_
  unfold vc_spec_WriteThing
  simp only [nI, n_one, byts_length, List.length_nil, List.nil_append]
  have hp := ht.1
  refine ⟨_, c_l11In ht ho (by unfold I64; omega), fun h => ?_, fun h => ?_⟩
  · simp only [Bool.and_eq_true, decide_eq_true_eq] at h
    have e : inThing l.length t off s.length = there l.length (IntKind.i64.wrap (t.pos + off)) s.length := by simp [inThing, h.1.1.1, h.1.2]
    refine ⟨_, _, c_PutAtS hl hs (wrap_I64 _), fun g => ?_, fun g => ?_⟩
    · unfold writeR; rw [e, g]; rfl
    · unfold writeR putR; rw [e, g]; rfl
  · have e : inThing l.length t off s.length = false := by
      cases g : inThing l.length t off s.length with
      | false => rfl
      | true =>
        simp only [inThing, there, Bool.and_eq_true, decide_eq_true_eq] at g
        have : (decide (0 ≤ off) && decide ((0 : Int) ≤ s.length) && decide (off + s.length ≤ t.len) && (decide (t.pos < 0) || decide (0 ≤ IntKind.i64.wrap (t.pos + off)))) = true := by
          simp [g.1.1.1, g.1.2, g.2.1.1]
        rw [this] at h; cases h
    refine ⟨AllVal_byts _, by omega, by omega, ?_⟩
    unfold writeR; rw [e]; rfl
theorem c_markBk {l : List Int} {b : Int} (hl : l.length ≤ 1048576) (h0 : 0 ≤ b) (h1 : b ≤ 1099511627776) : CallD Try.prog F_laws_markByteS [oB l, iS b] fun r bs => r = iS (b + l.length) ∧ bs.getD 0 .dead = oB (marksB b l.length) := by
  refine k_laws_markByteS ?_
  unfold vc_laws_markByteS
  simp only [nI, es_sl]
  refine ⟨fun es n n1 m => ∃ k : Nat, n1 = k ∧ k ≤ l.length ∧ m = l.length - k ∧ n = b + (k : Int) ∧ es = byts (marksB b k ++ l.drop k), ⟨_, 0, rfl, Nat.zero_le _, rfl, by simp, by simp [marksB]⟩, ?_⟩
  rintro es n n1 m ⟨k, rfl, hk, rfl, rfl, rfl⟩
  have e0 : (marksB b k ++ l.drop k).length = l.length := by simp [marksB_length]; omega
  simp only [n_byts, byts_length, e0, Int.toNat_natCast, Nat.mul_one, decide_eq_true_eq, decide_eq_false_iff_not]
  refine ⟨fun h1 => ?_, fun h1 => ?_⟩
  · have ha : k < l.length := by omega
    refine ⟨by omega, by omega, trivial, by omega, trivial, l.length - (k + 1), by omega, k + 1, by rw [wrap_id] <;> omega, by omega, rfl, by rw [wrap_id] <;> omega, ?_⟩
    rw [set_byts, wrap8, marksB_step ha]
  · have : k = l.length := by omega
    subst this
    simp
end Go.Proofs.Ytbmflnlppnkbaaa
