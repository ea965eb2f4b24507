/- Contracts of small functions: draws, their first steps. -/
import Derived.Test.YthmpdfmdhfgaaaaHIK
import Derived.Test.YthmpdfmdhfgaaaaVHDa
namespace Go.Proofs.Ythmpdfmdhfgaaaa
open Go Go.Proofs.Ythmpdfmdhfgaaaa.DL
set_option maxRecDepth 100000

abbrev Cur (v : Value) (a : List Int) (i h : Int) : SV := .box [.vl v (.sl 1 (byts a)), iC i, iC h]
abbrev codeS (v : Value) (a : List Int) : SV := oneC (.vl v (.sl 1 (byts a)))
theorem below_I64 {x n : Int} (g : 0 ≤ x ∧ (0 < n → x < n) ∧ (n ≤ 0 → x = 0)) (hn : I64 n) : I64 x := by
  unfold I64 at *
  by_cases h : 0 < n
  · have := g.2.1 h; omega
  · have := g.2.2 (by omega); omega
theorem and255 (X : Int) : 0 ≤ IntKind.i64.wrap (nI (BitVec.ofInt IntKind.i64.bits X &&& BitVec.ofInt IntKind.i64.bits 255).toNat) ∧ IntKind.i64.wrap (nI (BitVec.ofInt IntKind.i64.bits X &&& BitVec.ofInt IntKind.i64.bits 255).toNat) ≤ 255 := by
  have h : (BitVec.ofInt IntKind.i64.bits X &&& BitVec.ofInt IntKind.i64.bits 255).toNat ≤ 255 := by
    rw [BitVec.toNat_and]
    exact Nat.le_trans Nat.and_le_right (by decide)
  simp only [nI]
  rw [wrap_id (by omega) (by omega)]
  omega
theorem c_l1Byte {v : Value} {a : List Int} (ha : a.length ≤ M63) {i : Int} (hi : 0 ≤ i) (h : Int) : ∃ x i' h', (0 ≤ x ∧ x ≤ 255) ∧ 0 ≤ i' ∧ CallD Try.prog F_spec_l1Byte [Cur v a i h] fun r bs => r = iS x ∧ bs.getD 0 .dead = Cur v a i' h' := by
  have hn : nI (DV.sl 1 (byts a)).n = a.length := by simp only [nI, n_byts]
  by_cases hlt : i < a.length
  · have hk : i.toNat < a.length := by omega
    apply Exists.intro; apply Exists.intro; apply Exists.intro
    refine ⟨?u4, ?u5, k_spec_l1Byte ?u6⟩
    case u6 =>
      unfold vc_spec_l1Byte
      rw [hn]
      refine ⟨by omega, by omega, fun _ => ⟨hi, hlt, by simp [byts]; omega, ?_, rfl, rfl⟩, fun g => absurd hlt (by simpa using g)⟩
      rw [Nat.mul_one, hd_byts hk]; exact rfl
    case u4 => exact and255 _
    case u5 =>
      unfold M63 at ha
      rw [wrap_id (by omega) (by omega)]; omega
  · apply Exists.intro; apply Exists.intro; apply Exists.intro
    refine ⟨?w4, ?w5, k_spec_l1Byte ?w6⟩
    case w6 =>
      unfold vc_spec_l1Byte
      rw [hn]
      exact ⟨by omega, by omega, fun g => absurd (by simpa using g) hlt, fun _ => ⟨rfl, rfl⟩⟩
    case w4 => exact and255 _
    case w5 => exact hi
theorem tmod_in {x n : Int} (hx : 0 ≤ x) (hn : 0 < n) : 0 ≤ x.tmod n ∧ x.tmod n < n := by
  rw [Int.tmod_eq_emod_of_nonneg hx]
  exact ⟨Int.emod_nonneg _ (by omega), Int.emod_lt_of_pos _ hn⟩
theorem c_l1Below {v : Value} {a : List Int} (ha : a.length ≤ M63) {i : Int} (hi : 0 ≤ i) (h n : Int) :
    ∃ x i' h', (0 ≤ x ∧ (0 < n → x < n) ∧ (n ≤ 0 → x = 0)) ∧ 0 ≤ i' ∧ CallD Try.prog F_spec_l1Below [Cur v a i h, iS n] fun r bs => r = iS x ∧ bs.getD 0 .dead = Cur v a i' h' := by
  by_cases h0 : n ≤ 0
  · refine ⟨0, i, h, ⟨by omega, by omega, by omega⟩, hi, k_spec_l1Below ?_⟩
    unfold vc_spec_l1Below
    exact ⟨fun _ => ⟨rfl, rfl⟩, fun g => absurd h0 (by simpa using g)⟩
  by_cases h1 : n ≤ 256
  · obtain ⟨x, i', h', hx, hi', hc⟩ := c_l1Byte (v := v) ha hi h
    obtain ⟨t1, t2⟩ := tmod_in hx.1 (show 0 < n by omega)
    refine ⟨x.tmod n, i', h', ⟨t1, fun _ => t2, by omega⟩, hi', k_spec_l1Below ?_⟩
    unfold vc_spec_l1Below
    exact ⟨fun g => absurd (by simpa using g) h0, fun _ => ⟨fun _ => ⟨_, _, _, rfl, hc, by omega, rfl, rfl⟩, fun g => absurd h1 (by simpa using g)⟩⟩
  · obtain ⟨x, i', h', hx, hi', hc⟩ := c_l1Byte (v := v) ha hi h
    obtain ⟨y, i2, h2, hy, hi2, hc2⟩ := c_l1Byte (v := v) ha hi' h'
    obtain ⟨z, i3, h3, hz, hi3, hc3⟩ := c_l1Byte (v := v) ha hi2 h2
    have e1 : IntKind.i64.wrap (x * 65536) = x * 65536 := wrap_id (by omega) (by omega)
    have e2 : IntKind.i64.wrap (y * 256) = y * 256 := wrap_id (by omega) (by omega)
    have e3 : IntKind.i64.wrap (x * 65536 + y * 256) = x * 65536 + y * 256 := wrap_id (by omega) (by omega)
    have e4 : IntKind.i64.wrap (x * 65536 + y * 256 + z) = x * 65536 + y * 256 + z := wrap_id (by omega) (by omega)
    obtain ⟨t1, t2⟩ := tmod_in (x := x * 65536 + y * 256 + z) (by omega) (show 0 < n by omega)
    refine ⟨(x * 65536 + y * 256 + z).tmod n, i3, h3, ⟨t1, fun _ => t2, by omega⟩, hi3, k_spec_l1Below ?_⟩
    unfold vc_spec_l1Below
    refine ⟨fun g => absurd (by simpa using g) h0, fun _ => ⟨fun g => absurd (by simpa using g) h1, fun _ => ⟨_, _, _, rfl, hc, _, _, _, rfl, hc2, _, _, _, rfl, hc3, by omega, ?_, rfl⟩⟩⟩
    rw [e1, e2, e3, e4]
theorem c_l1Once {v : Value} {a : List Int} (ha : a.length ≤ M63) {i : Int} (hi : 0 ≤ i) (h n : Int) :
    ∃ (b : Bool) (i' h' : Int), 0 ≤ i' ∧ CallD Try.prog F_spec_l1Once [Cur v a i h, iS n] fun r bs => r = bS b ∧ bs.getD 0 .dead = Cur v a i' h' := by
  obtain ⟨x, i', h', -, hi', hc⟩ := c_l1Below (v := v) ha hi h n
  refine ⟨decide (x = 0), i', h', hi', k_spec_l1Once ?_⟩
  unfold vc_spec_l1Once
  exact ⟨_, _, _, rfl, hc, fun g => ⟨by rw [g], rfl⟩, fun g => ⟨by rw [g], rfl⟩⟩
theorem c_l1Int {v : Value} {a : List Int} (ha : a.length ≤ M63) {i : Int} (hi : 0 ≤ i) (h : Int) {l : List Int} (hl : 0 < l.length) :
    ∃ x i' h', x ∈ l ∧ 0 ≤ i' ∧ CallD Try.prog F_spec_l1Int [Cur v a i h, rI l] fun r bs => r = iS x ∧ bs.getD 0 .dead = Cur v a i' h' := by
  obtain ⟨x, i', h', hx, hi', hc⟩ := c_l1Below (v := v) ha hi h (l.length : Int)
  have hk : x.toNat < l.length := by have := hx.2.1 (by omega); omega
  refine ⟨l[x.toNat], i', h', List.getElem_mem hk, hi', k_spec_l1Int ?_⟩
  unfold vc_spec_l1Int
  simp only [nI, n_ints]
  refine ⟨_, _, _, rfl, hc, ?_⟩
  simp only [Nat.mul_one, hd_ints hk, getD_eq hk, isI_iV, asI_iV, List.length_drop, ints_length]
  exact ⟨by omega, by omega, by omega, by trivial, by trivial, by trivial⟩
/-- A configuration as it is drawn. -/
structure ConfG (c : Conf) : Prop where
  chunks : 2 ≤ c.chunks ∧ c.chunks ≤ 12
  size : 8 ≤ c.size ∧ c.size ≤ 16
  slots : 2 ≤ c.slots ∧ c.slots ≤ 8
  tax : 1 ≤ c.tax ∧ c.tax ≤ 8
  slice : 1 ≤ c.slice ∧ c.slice ≤ 16
  gens : 1 ≤ c.gens ∧ c.gens ≤ 4
theorem c_l3Conf {v : Value} {a : List Int} (ha : a.length ≤ M63) {i : Int} (hi : 0 ≤ i) (h : Int) :
    ∃ c i' h', ConfG c ∧ 0 ≤ i' ∧ CallD Try.prog F_spec_l3Conf [Cur v a i h] fun r bs => r = confS c ∧ bs.getD 0 .dead = Cur v a i' h' := by
  obtain ⟨x1, i1, h1, g1, k1, c1⟩ := c_l1Below (v := v) ha hi h 11
  obtain ⟨x2, i2, h2, g2, k2, c2⟩ := c_l1Int (v := v) ha k1 h1 (l := [8, 8, 9, 12, 16]) (by decide)
  obtain ⟨x3, i3, h3, g3, k3, c3⟩ := c_l1Below (v := v) ha k2 h2 7
  obtain ⟨x4, i4, h4, g4, k4, c4⟩ := c_l1Below (v := v) ha k3 h3 6
  obtain ⟨x5, i5, h5, g5, k5, c5⟩ := c_l1Int (v := v) ha k4 h4 (l := [1, 3, 4, 8, 16]) (by decide)
  obtain ⟨x6, i6, h6, g6, k6, c6⟩ := c_l1Below (v := v) ha k5 h5 4
  simp only [List.mem_cons, List.not_mem_nil, or_false] at g2 g5
  refine ⟨⟨IntKind.i64.wrap (2 + x1), x2, IntKind.i64.wrap (2 + x3), IntKind.i64.wrap (1 + x4), x5, IntKind.i64.wrap (1 + x6)⟩, i6, h6, ?_, k6, k_spec_l3Conf ?_⟩
  · have a1 := g1.2.1 (by omega)
    have a3 := g3.2.1 (by omega)
    have a4 := g4.2.1 (by omega)
    have a6 := g6.2.1 (by omega)
    rw [wrap_id (n := 2 + x1) (by omega) (by omega), wrap_id (n := 2 + x3) (by omega) (by omega), wrap_id (n := 1 + x4) (by omega) (by omega), wrap_id (n := 1 + x6) (by omega) (by omega)]
    constructor <;> simp only <;> omega
  · unfold vc_spec_l3Conf
    exact ⟨_, _, _, rfl, c1, _, _, _, rfl, c2, _, _, _, rfl, c3, _, _, _, rfl, c4, _, _, _, rfl, c5, _, _, _, rfl, c6, rfl, rfl⟩
/-- The cursor that a draw begins with. -/
theorem c_l1New {v : Value} {a : List Int} (ha : a.length ≤ M63) : ∃ i h, 0 ≤ i ∧ CallD Try.prog F_spec_l1New [oneC (.vl v (.sl 1 (byts a)))] fun r _ => r = Cur v a i h := by
  let step : Int → Nat → Int := fun n k => IntKind.i64.wrap (nI (BitVec.ofInt IntKind.i64.bits (IntKind.i64.wrap (IntKind.i64.wrap (IntKind.i64.wrap (n * 137) + IntKind.i64.wrap (hdD (List.drop k (byts a))).asI) + 11)) &&& BitVec.ofInt IntKind.i64.bits 1073741823).toNat)
  let H : Nat → Int := fun k => (List.range k).foldl step (IntKind.i64.wrap (161416 + a.length))
  have hH : ∀ k, H (k + 1) = step (H k) k := fun k => by simp only [H, List.range_succ, List.foldl_append, List.foldl_cons, List.foldl_nil]
  have hn : nI (DV.sl 1 (byts a)).n = a.length := by simp only [nI, n_byts]
  unfold M63 at ha
  refine ⟨0, H (min a.length 4000), Int.le_refl _, k_spec_l1New ?_⟩
  unfold vc_spec_l1New
  rw [hn]
  refine ⟨fun n i m => ∃ k : Nat, i = k ∧ k ≤ min a.length 4000 ∧ m = min a.length 4000 - k ∧ n = H k, ⟨_, 0, rfl, Nat.zero_le _, rfl, rfl⟩, ?_⟩
  rintro n i m ⟨k, rfl, hk, rfl, rfl⟩
  simp only [decide_eq_true_eq, decide_eq_false_iff_not]
  refine ⟨fun g => ⟨fun g2 => ?_, fun g2 => ?_⟩, fun g => ?_⟩
  · have ha' : k < a.length := by omega
    refine ⟨by omega, by omega, by simp [byts]; omega, ?_, by trivial, min a.length 4000 - (k + 1), by omega, k + 1, by rw [wrap_id] <;> omega, by omega, rfl, ?_⟩
    · rw [Int.toNat_natCast, Nat.mul_one, hd_byts ha']; exact rfl
    · rw [hH, Int.toNat_natCast, Nat.mul_one]
  · have : k = min a.length 4000 := by omega
    rw [this]
  · have : k = min a.length 4000 := by omega
    rw [this]
theorem iter_ex {S : Type} (step : S → S) (s0 : S) : ∃ T : Nat → S, T 0 = s0 ∧ ∀ k, T (k + 1) = step (T k) :=
  ⟨fun k => (List.range k).foldl (fun s _ => step s) s0, rfl, fun k => by simp [List.range_succ]⟩
/-- What l1Below gives, as a function of the cursor. -/
theorem dB {v : Value} {a : List Int} (ha : a.length ≤ M63) : ∃ f : Int × Int → Int → Int × (Int × Int), ∀ k n, 0 ≤ k.1 → (0 ≤ (f k n).1 ∧ (0 < n → (f k n).1 < n) ∧ (n ≤ 0 → (f k n).1 = 0)) ∧ 0 ≤ (f k n).2.1 ∧
    CallD Try.prog F_spec_l1Below [Cur v a k.1 k.2, iS n] fun r bs => r = iS (f k n).1 ∧ bs.getD 0 .dead = Cur v a (f k n).2.1 (f k n).2.2 := by
  have h : ∀ q : (Int × Int) × Int, ∃ p : Int × (Int × Int), 0 ≤ q.1.1 → (0 ≤ p.1 ∧ (0 < q.2 → p.1 < q.2) ∧ (q.2 ≤ 0 → p.1 = 0)) ∧ 0 ≤ p.2.1 ∧
      CallD Try.prog F_spec_l1Below [Cur v a q.1.1 q.1.2, iS q.2] fun r bs => r = iS p.1 ∧ bs.getD 0 .dead = Cur v a p.2.1 p.2.2 := fun q => by
    by_cases hq : 0 ≤ q.1.1
    · obtain ⟨x, i, h, h1, h2, h3⟩ := c_l1Below (v := v) ha hq q.1.2 q.2
      exact ⟨(x, (i, h)), fun _ => ⟨h1, h2, h3⟩⟩
    · exact ⟨(0, (0, 0)), fun g => absurd g hq⟩
  obtain ⟨f, hf⟩ := Classical.skolem.1 h
  exact ⟨fun k n => f (k, n), fun k n hk => hf (k, n) hk⟩
/-- What l1Once gives, as a function of the cursor. -/
theorem dO {v : Value} {a : List Int} (ha : a.length ≤ M63) : ∃ f : Int × Int → Int → Bool × (Int × Int), ∀ k n, 0 ≤ k.1 → 0 ≤ (f k n).2.1 ∧
    CallD Try.prog F_spec_l1Once [Cur v a k.1 k.2, iS n] fun r bs => r = bS (f k n).1 ∧ bs.getD 0 .dead = Cur v a (f k n).2.1 (f k n).2.2 := by
  have h : ∀ q : (Int × Int) × Int, ∃ p : Bool × (Int × Int), 0 ≤ q.1.1 → 0 ≤ p.2.1 ∧
      CallD Try.prog F_spec_l1Once [Cur v a q.1.1 q.1.2, iS q.2] fun r bs => r = bS p.1 ∧ bs.getD 0 .dead = Cur v a p.2.1 p.2.2 := fun q => by
    by_cases hq : 0 ≤ q.1.1
    · obtain ⟨x, i, h, h2, h3⟩ := c_l1Once (v := v) ha hq q.1.2 q.2
      exact ⟨(x, (i, h)), fun _ => ⟨h2, h3⟩⟩
    · exact ⟨(false, (0, 0)), fun g => absurd g hq⟩
  obtain ⟨f, hf⟩ := Classical.skolem.1 h
  exact ⟨fun k n => f (k, n), fun k n hk => hf (k, n) hk⟩
end Go.Proofs.Ythmpdfmdhfgaaaa
