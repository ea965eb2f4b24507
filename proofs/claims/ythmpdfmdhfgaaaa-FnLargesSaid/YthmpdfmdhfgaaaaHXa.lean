/- Contracts of small functions: large objects put. -/
import Derived.Test.YthmpdfmdhfgaaaaHX
import Derived.Test.YthmpdfmdhfgaaaaVHXa
namespace Go.Proofs.Ythmpdfmdhfgaaaa
open Go Go.Proofs.Ythmpdfmdhfgaaaa.DL
set_option maxRecDepth 100000

theorem ceilDiv_le {a b : Int} (ha : a ≤ 192) : 0 ≤ ceilDiv a b ∧ ceilDiv a b ≤ 192 := by
  unfold ceilDiv
  split
  · rename_i h
    rw [Bool.and_eq_true, within_iff, within_iff] at h
    obtain ⟨⟨h1, -⟩, h2, h3⟩ := h
    have e : IntKind.i64.wrap (IntKind.i64.wrap (a + b) - 1) = a + b - 1 := by rw [wrap_id (n := a + b) (by omega) (by omega), wrap_id (by omega) (by omega)]
    rw [e, Int.tdiv_eq_ediv_of_nonneg (by omega)]
    have hm := Int.mul_le_mul_of_nonneg_left h2 h1
    have hlt : (a + b - 1) / b < a + 1 := Int.ediv_lt_of_lt_mul (by omega) (by rw [Int.add_mul]; omega)
    have hge : 0 ≤ (a + b - 1) / b := Int.ediv_nonneg (by omega) (by omega)
    rw [wrap_id (by omega) (by omega)]
    omega
  · omega
def runL (k : Int) (r : Nat) : List Int := (List.range r).map fun i : Nat => IntKind.i64.wrap (k + (i : Int))
theorem runL_length (k : Int) (r : Nat) : (runL k r).length = r := by simp [runL]
theorem runL_succ (k : Int) (r : Nat) : runL k (r + 1) = runL k r ++ [IntKind.i64.wrap (k + (r : Int))] := by simp [runL, List.range_succ]
def bigN (c : Conf) (n : Node) (k sz : Int) : Node := { n with chunks := n.chunks ++ runL k (ceilDiv sz c.size).toNat, things := n.things ++ [⟨IntKind.i64.wrap (k * c.size), sz, ceilDiv sz c.size⟩] }
def largeB (c : Conf) (n : Node) (k sz : Int) : Bool := decide (n.st = 1) && (decide (c.size < sz) && (!decide (bytesOf c < sz) && (within k 0 (IntKind.i64.wrap (c.chunks - 1)) && nodeOk c (bigN c n k sz))))
def largeN (c : Conf) (n : Node) (k sz : Int) : Node := if largeB c n k sz then bigN c n k sz else n
theorem largeN_no {c : Conf} {n : Node} {k sz : Int} (h : largeB c n k sz = false) : tNB n false = tNB (largeN c n k sz) (largeB c n k sz) := by
  unfold largeN; rw [h]; rfl
theorem largeN_yes {c : Conf} {n : Node} {k sz : Int} (h : largeB c n k sz = true) : tNB (bigN c n k sz) true = tNB (largeN c n k sz) (largeB c n k sz) := by
  unfold largeN; rw [h]; rfl
theorem big_sz {c : Conf} {n : Node} {k sz : Int} (hs : n.sz ≤ 1048576) (h : ceilDiv sz c.size ≤ 192) : (bigN c n k sz).sz ≤ 2097152 := by
  unfold Node.sz bigN at *
  simp only [List.length_append, runL_length, List.length_singleton]
  omega
theorem big_ok {c : Conf} {n : Node} (hn : n.ok) (hs : n.sz ≤ 1048576) {k sz : Int} (hz : I64 sz) (h : 0 ≤ ceilDiv sz c.size ∧ ceilDiv sz c.size ≤ 192) : (bigN c n k sz).ok := by
  unfold Node.sz at hs
  obtain ⟨h1, h2, h3, h4, h5, h6, h7, h8, ⟨-, h9⟩, h10, h11, ⟨-, h12⟩, h13⟩ := hn
  refine ⟨h1, h2, h3, h4, h5, h6, h7, h8, ⟨?_, fun a ha => ?_⟩, h10, h11, ⟨?_, fun a ha => ?_⟩, h13⟩
  · simp only [bigN, List.length_append, runL_length]; unfold M63; omega
  · rcases List.mem_append.1 ha with ha | ha
    · exact h9 a ha
    · obtain ⟨i, -, rfl⟩ := List.mem_map.1 ha
      exact wrap_I64 _
  · simp only [bigN, List.length_append, List.length_singleton]; unfold M63; omega
  · rcases List.mem_append.1 ha with ha | ha
    · exact h12 a ha
    · rw [List.mem_singleton.1 ha]
      exact ⟨wrap_I64 _, hz, (by show I64 (ceilDiv sz c.size); unfold I64; omega)⟩
theorem bytes_le (c : Conf) : bytesOf c ≤ 192 := by
  cases h : c.good with
  | true => exact (bytesOf_good h).2.2
  | false => rw [bytesOf_bad h]; omega
theorem largeN_sz {c : Conf} {n : Node} (hs : n.sz ≤ 1048576) (k sz : Int) : (largeN c n k sz).sz ≤ 1048576 := by
  unfold largeN
  split
  · rename_i h
    unfold largeB at h
    simp only [Bool.and_eq_true] at h
    have := nodeOk_sz h.2.2.2.2
    omega
  · exact hs
theorem c_PutLarge (c : Conf) {n : Node} (hn : n.ok) (hs : n.sz ≤ 1048576) (k : Int) {sz : Int} (hz : I64 sz) : CallD Try.prog F_impl_PutLarge [confS c, rNode n, iS k, iS sz] fun r _ => r = tNB (largeN c n k sz) (largeB c n k sz) := by
  have hs' := hs
  unfold Node.sz at hs'
  refine k_impl_PutLarge ?_
  unfold vc_impl_PutLarge
  refine ⟨_, _, _, _, _, _, _, _, _, _, _, _, _, c_copyNode hs, fun g => largeN_no ?_, fun g => ⟨_, c_IsLarge c sz, fun g1 => ⟨_, c_BytesOf c, fun g2 => largeN_no ?_, fun g2 => ⟨_, c_within _ _ _, fun g3 => ⟨_, c_ChunksFor c sz, ?_, ?_, ?_⟩, fun g3 => largeN_no ?_⟩⟩, fun g1 => largeN_no ?_⟩⟩
  · have g : decide (n.st = 1) = false := by simpa using g
    unfold largeB; rw [g]; rfl
  · unfold largeB; rw [g2]; simp
  · rw [n_things, n_one3]; omega
  · rw [n_things, n_one3]; omega
  · have g : decide (n.st = 1) = true := by simpa using g
    have hsz : sz ≤ 192 := by
      have := bytes_le c
      simp only [decide_eq_false_iff_not] at g2; omega
    obtain ⟨r0, r1⟩ := ceilDiv_le (b := c.size) hsz
    have ho := c_NodeOkX c (big_ok (c := c) (k := k) hn hs hz ⟨r0, r1⟩) (big_sz hs r1)
    have hB : ∀ b, nodeOk c (bigN c n k sz) = b → largeB c n k sz = b := fun b hb => by unfold largeB; rw [g, g1, g2, g3, hb]; simp
    rw [thgs_snoc]
    refine ⟨fun a0 a1 a2 a3 a4 a5 a6 a7 es a8 a9 es3 es4 i m => ∃ q : Nat, i = q ∧ q ≤ (ceilDiv sz c.size).toNat ∧ m = (ceilDiv sz c.size).toNat - q ∧ a0 = n.st ∧ a1 = n.gen ∧ a2 = n.ep ∧ a3 = n.up ∧ a4 = n.upEp ∧ a5 = n.first ∧ a6 = n.next ∧ a7 = n.prev ∧ es = ints (n.chunks ++ runL k q) ∧ a8 = n.cur ∧ a9 = n.bump ∧
      es3 = thgs (n.things ++ [⟨IntKind.i64.wrap (k * c.size), sz, ceilDiv sz c.size⟩]) ∧ es4 = ints n.tags, ⟨_, 0, rfl, Nat.zero_le _, rfl, rfl, rfl, rfl, rfl, rfl, rfl, rfl, rfl, by simp [runL], rfl, rfl, rfl, rfl⟩, ?_⟩
    rintro a0 a1 a2 a3 a4 a5 a6 a7 es a8 a9 es3 es4 i m ⟨q, rfl, hq, rfl, rfl, rfl, rfl, rfl, rfl, rfl, rfl, rfl, rfl, rfl, rfl, rfl, rfl⟩
    simp only [n_one, ints_length, List.length_append, runL_length, List.length_singleton, ints_snoc, decide_eq_true_eq (p := (q : Int) < ceilDiv sz c.size), decide_eq_false_iff_not (p := (q : Int) < ceilDiv sz c.size), wrap_id (n := (q : Int) + 1) (by omega) (by omega)]
    refine ⟨fun h1 => ⟨by omega, by omega, ⟨trivial, trivial, trivial, trivial, trivial⟩, (ceilDiv sz c.size).toNat - (q + 1), by omega, q + 1, by omega, by omega, rfl, trivial, trivial, trivial, trivial, trivial, trivial, trivial, trivial, ?_, trivial, trivial, trivial, trivial⟩, fun h1 => ?_⟩
    · rw [runL_succ, List.append_assoc]
    · have : q = (ceilDiv sz c.size).toNat := by omega
      subst this
      refine ⟨_, ho, fun g4 => largeN_yes (hB _ g4), fun g4 => ⟨_, _, _, _, _, _, _, _, _, _, _, _, _, c_copyNode hs, largeN_no (hB _ g4)⟩⟩
  · unfold largeB; rw [g3]; simp
  · unfold largeB; rw [g1]; simp
theorem c_PutLargeS (c : Conf) {n : Node} (hn : n.ok) (hs : n.sz ≤ 1048576) (k : Int) {sz : Int} (hz : I64 sz) : CallD Try.prog F_spec_PutLarge [confS c, rNode n, iS k, iS sz] fun r _ => r = tNB (largeN c n k sz) (largeB c n k sz) := by
  have hs' := hs
  unfold Node.sz at hs'
  refine k_spec_PutLarge ?_
  unfold vc_spec_PutLarge
  refine ⟨_, _, _, _, _, _, _, _, _, _, _, _, _, c_l7Copy hs, _, c_confOkS c, fun g0 => ⟨fun g => largeN_no ?_, fun g => ⟨_, c_IsLargeS c sz, fun g1 => ⟨_, c_BytesOfS c, fun g2 => largeN_no ?_, fun g2 => ⟨_, c_l1In _ _ _, fun g3 => ⟨_, c_ChunksForS c sz, ?_⟩, fun g3 => largeN_no ?_⟩⟩, fun g1 => largeN_no ?_⟩⟩, fun g0 => largeN_no ?_⟩
  · have g : decide (n.st = 1) = false := by simpa using g
    unfold largeB; rw [g]; rfl
  · unfold largeB; rw [g2]; simp
  · have g : decide (n.st = 1) = true := by simpa using g
    have hsz : sz ≤ 192 := by
      have := bytes_le c
      simp only [decide_eq_false_iff_not] at g2; omega
    obtain ⟨r0, r1⟩ := ceilDiv_le (b := c.size) hsz
    have ho := c_NodeOkSX c (big_ok (c := c) (k := k) hn hs hz ⟨r0, r1⟩) (big_sz hs r1)
    have hB : ∀ b, nodeOk c (bigN c n k sz) = b → largeB c n k sz = b := fun b hb => by unfold largeB; rw [g, g1, g2, g3, hb]; simp
    refine ⟨fun a0 a1 a2 a3 a4 a5 a6 a7 es a8 a9 es3 es4 i m => ∃ q : Nat, i = q ∧ q ≤ (ceilDiv sz c.size).toNat ∧ m = (ceilDiv sz c.size).toNat - q ∧ a0 = n.st ∧ a1 = n.gen ∧ a2 = n.ep ∧ a3 = n.up ∧ a4 = n.upEp ∧ a5 = n.first ∧ a6 = n.next ∧ a7 = n.prev ∧ es = ints (n.chunks ++ runL k q) ∧ a8 = n.cur ∧ a9 = n.bump ∧
      es3 = thgs n.things ∧ es4 = ints n.tags, ⟨_, 0, rfl, Nat.zero_le _, rfl, rfl, rfl, rfl, rfl, rfl, rfl, rfl, rfl, by simp [runL], rfl, rfl, rfl, rfl⟩, ?_⟩
    rintro a0 a1 a2 a3 a4 a5 a6 a7 es a8 a9 es3 es4 i m ⟨q, rfl, hq, rfl, rfl, rfl, rfl, rfl, rfl, rfl, rfl, rfl, rfl, rfl, rfl, rfl, rfl⟩
    simp only [n_one, ints_length, List.length_append, runL_length, List.length_singleton, ints_snoc, n_things, n_one3, thgs_snoc, decide_eq_true_eq (p := (q : Int) < ceilDiv sz c.size), decide_eq_false_iff_not (p := (q : Int) < ceilDiv sz c.size), wrap_id (n := (q : Int) + 1) (by omega) (by omega)]
    refine ⟨fun h1 => ⟨by omega, by omega, ⟨trivial, trivial, trivial, trivial, trivial, trivial⟩, (ceilDiv sz c.size).toNat - (q + 1), by omega, q + 1, by omega, by omega, rfl, trivial, trivial, trivial, trivial, trivial, trivial, trivial, trivial, ?_, trivial, trivial, trivial, trivial⟩, fun h1 => ?_⟩
    · rw [runL_succ, List.append_assoc]
    · have : q = (ceilDiv sz c.size).toNat := by omega
      subst this
      refine ⟨by omega, by omega, _, ho, fun g4 => largeN_yes (hB _ g4), fun g4 => ⟨_, _, _, _, _, _, _, _, _, _, _, _, _, c_l7Copy hs, largeN_no (hB _ g4)⟩⟩
  · unfold largeB; rw [g3]; simp
  · unfold largeB; rw [g1]; simp
  · have : nodeOk c (bigN c n k sz) = false := by unfold nodeOk; rw [g0]; rfl
    unfold largeB; rw [this]; simp
end Go.Proofs.Ythmpdfmdhfgaaaa
