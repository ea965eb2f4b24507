/- The program's Apart returns what the reference's Apart returns, for all arguments: the law FnExactApart says true at every two things. No conditions. -/
import Derived.Test.YtbmflnlppnkbaaaT
import Derived.Test.YtbmflnlppnkbaaaRows
import Derived.Test.YtbmflnlppnkbaaaChecked
import Derived.ProofKit
namespace Go.Proofs.Ytbmflnlppnkbaaa
open Go Go.Proofs.Ytbmflnlppnkbaaa.DL
open Go.ChangeShapes Go.WideShapes Go.ChangeAt Go.RowKit
set_option maxRecDepth 100000

namespace Apart
def sg : FuncId → RS
  | 16 => .one true (tb 25).zero
  | 15 | 17 => .one false (tb 4).zero
  | _ => .one false [.un]
def cfg : Cfg := ⟨tb, sg, fun _ => ([], []), []⟩
def tI (a b c : Int) : SV := .one (.agg [.sc (.int .i64 a), .sc (.int .i64 b), .sc (.int .i64 c)])
def bI (b : Bool) : SV := .one (.cell (.sc (.bool b)))

theorem v16 (a b c : Int) (Q : SV → List SV → Prop) : dwp Try.prog cfg (bodyOf Try.f16) (retK cfg Try.f16.results.toList 1 Q) ([tI a b c] ++ List.replicate (Try.f16.ntmps - 1) .und) = Q (tI a b c) [.dead] := by kernel_rfl
theorem c16 (a b c : Int) : CallD Try.prog 16 [tI a b c] fun r _ => r = tI a b c :=
  callD_of_dwp (C := cfg) tbOk mixed (by kernel_rfl : Try.prog.funcs[16]? = some Try.f16) (code := bodyOf Try.f16) (by kernel_rfl) (by kernel_rfl) (fun t ht => by cases ht) ((v16 a b c _).mpr rfl)

def apart (a b x y : Int) : Bool := decide (b < 1) || decide (y < 1) || (if a ≤ x then decide (b ≤ x - a) else decide (y ≤ a - x))

theorem v17 (a b c x y z : Int) (Q : SV → List SV → Prop) : dwp Try.prog cfg (bodyOf Try.f17) (retK cfg Try.f17.results.toList 2 Q) ([tI a b c, tI x y z] ++ List.replicate (Try.f17.ntmps - 2) .und) = (
  (decide (b ≤ 0) = true → Q (SV.one (RV.cell (CV.sc (Value.bool true)))) [SV.dead, SV.dead]) ∧
  (decide (b ≤ 0) = false →
    (decide (y ≤ 0) = true → Q (SV.one (RV.cell (CV.sc (Value.bool true)))) [SV.dead, SV.dead]) ∧
      (decide (y ≤ 0) = false →
        (decide (x < a) = true →
            (decide (IntKind.u64.wrap y ≤ IntKind.u64.wrap (IntKind.u64.wrap a - IntKind.u64.wrap x)) = true →
                Q (SV.one (RV.cell (CV.sc (Value.bool true)))) [SV.dead, SV.dead]) ∧
              (decide (IntKind.u64.wrap y ≤ IntKind.u64.wrap (IntKind.u64.wrap a - IntKind.u64.wrap x)) = false →
                Q (SV.one (RV.cell (CV.sc (Value.bool false)))) [SV.dead, SV.dead])) ∧
          (decide (x < a) = false →
            (decide (IntKind.u64.wrap b ≤ IntKind.u64.wrap (IntKind.u64.wrap x - IntKind.u64.wrap a)) = true →
                Q (SV.one (RV.cell (CV.sc (Value.bool true)))) [SV.dead, SV.dead]) ∧
              (decide (IntKind.u64.wrap b ≤ IntKind.u64.wrap (IntKind.u64.wrap x - IntKind.u64.wrap a)) = false →
                Q (SV.one (RV.cell (CV.sc (Value.bool false)))) [SV.dead, SV.dead]))))) := by kernel_rfl
theorem v15 (a b c x y z : Int) (Q : SV → List SV → Prop) : dwp Try.prog cfg (bodyOf Try.f15) (retK cfg Try.f15.results.toList 2 Q) ([tI a b c, tI x y z] ++ List.replicate (Try.f15.ntmps - 2) .und) = (
  (decide (b < 1) = true → Q (SV.one (RV.cell (CV.sc (Value.bool true)))) [SV.dead, SV.dead]) ∧
  (decide (b < 1) = false →
    (decide (y < 1) = true → Q (SV.one (RV.cell (CV.sc (Value.bool true)))) [SV.dead, SV.dead]) ∧
      (decide (y < 1) = false →
        (decide (a ≤ x) = true →
            (decide (b ≤ IntKind.i64.wrap (x - a)) = true →
                Q (SV.one (RV.cell (CV.sc (Value.bool true)))) [SV.dead, SV.dead]) ∧
              (decide (b ≤ IntKind.i64.wrap (x - a)) = false →
                (decide (IntKind.i64.wrap (x - a) < 0) = true →
                    Q (SV.one (RV.cell (CV.sc (Value.bool true)))) [SV.dead, SV.dead]) ∧
                  (decide (IntKind.i64.wrap (x - a) < 0) = false →
                    Q (SV.one (RV.cell (CV.sc (Value.bool false)))) [SV.dead, SV.dead]))) ∧
          (decide (a ≤ x) = false →
            (decide (y ≤ IntKind.i64.wrap (a - x)) = true →
                Q (SV.one (RV.cell (CV.sc (Value.bool true)))) [SV.dead, SV.dead]) ∧
              (decide (y ≤ IntKind.i64.wrap (a - x)) = false →
                (decide (IntKind.i64.wrap (a - x) < 0) = true →
                    Q (SV.one (RV.cell (CV.sc (Value.bool true)))) [SV.dead, SV.dead]) ∧
                  (decide (IntKind.i64.wrap (a - x) < 0) = false →
                    Q (SV.one (RV.cell (CV.sc (Value.bool false)))) [SV.dead, SV.dead])))))) := by kernel_rfl

def I64 (n : Int) : Prop := -9223372036854775808 ≤ n ∧ n ≤ 9223372036854775807
theorem i64_of {n : Int} (h : (Lit.int .i64 n).wf = true) : I64 n := by
  simp only [Lit.wf, Bool.and_eq_true, decide_eq_true_eq] at h
  have e1 : IntKind.i64.min = -9223372036854775808 := by decide
  have e2 : IntKind.i64.max = 9223372036854775807 := by decide
  rw [e1, e2] at h
  exact h
theorem wrapI (n : Int) : IntKind.i64.wrap n = if n % 18446744073709551616 ≥ 9223372036854775808 then n % 18446744073709551616 - 18446744073709551616 else n % 18446744073709551616 := by
  simp [IntKind.wrap, IntKind.bits, IntKind.signed]
theorem wrapU (n : Int) : IntKind.u64.wrap n = n % 18446744073709551616 := by
  simp [IntKind.wrap, IntKind.bits, IntKind.signed]

theorem bI_eq {b b' : Bool} (h : b = b') : (SV.one (RV.cell (CV.sc (Value.bool b)))) = bI b' := by rw [h]; rfl

theorem c17 {a b c x y z : Int} (ha : I64 a) (hb : I64 b) (hx : I64 x) (hy : I64 y) : CallD Try.prog 17 [tI a b c, tI x y z] fun r _ => r = bI (apart a b x y) := by
  refine callD_of_dwp (C := cfg) tbOk mixed (by kernel_rfl : Try.prog.funcs[17]? = some Try.f17) (code := bodyOf Try.f17) (by kernel_rfl) (by kernel_rfl) (fun t ht => by cases ht) ((v17 a b c x y z _).mpr ?_)
  unfold I64 at *
  simp only [wrapU, decide_eq_true_eq, decide_eq_false_iff_not]
  refine ⟨fun h1 => bI_eq ?_, fun h1 => ⟨fun h2 => bI_eq ?_, fun h2 => ⟨fun h3 => ⟨fun h4 => bI_eq ?_, fun h4 => bI_eq ?_⟩, fun h3 => ⟨fun h4 => bI_eq ?_, fun h4 => bI_eq ?_⟩⟩⟩⟩
  all_goals unfold apart; symm
  · simp; omega
  · simp; omega
  · have : ¬ a ≤ x := by omega
    simp [this]; omega
  · have : ¬ a ≤ x := by omega
    simp [this]; omega
  · have : a ≤ x := by omega
    simp [this]; omega
  · have : a ≤ x := by omega
    simp [this]; omega
theorem c15 {a b c x y z : Int} (ha : I64 a) (hb : I64 b) (hx : I64 x) (hy : I64 y) : CallD Try.prog 15 [tI a b c, tI x y z] fun r _ => r = bI (apart a b x y) := by
  refine callD_of_dwp (C := cfg) tbOk mixed (by kernel_rfl : Try.prog.funcs[15]? = some Try.f15) (code := bodyOf Try.f15) (by kernel_rfl) (by kernel_rfl) (fun t ht => by cases ht) ((v15 a b c x y z _).mpr ?_)
  unfold I64 at *
  simp only [wrapI, decide_eq_true_eq, decide_eq_false_iff_not]
  refine ⟨fun h1 => bI_eq ?_, fun h1 => ⟨fun h2 => bI_eq ?_, fun h2 => ⟨fun h3 => ⟨fun h4 => bI_eq ?_, fun h4 => ⟨fun h5 => bI_eq ?_, fun h5 => bI_eq ?_⟩⟩, fun h3 => ⟨fun h4 => bI_eq ?_, fun h4 => ⟨fun h5 => bI_eq ?_, fun h5 => bI_eq ?_⟩⟩⟩⟩⟩
  all_goals unfold apart; symm
  · simp; omega
  · simp; omega
  · simp [h3]; omega
  · simp [h3]; omega
  · simp [h3]; omega
  · simp [h3]; omega
  · simp [h3]; omega
  · simp [h3]; omega
theorem v3 (a b c x y z : Int) (Q : SV → List SV → Prop) : dwp Try.prog cfg (bodyOf Try.f3) (retK cfg Try.f3.results.toList 2 Q) ([tI a b c, tI x y z] ++ List.replicate (Try.f3.ntmps - 2) .und) = (
  ∃ n n_1 n_2,
  (CallD Try.prog 16
      [SV.one
          (RV.agg [CV.sc (Value.int IntKind.i64 a), CV.sc (Value.int IntKind.i64 b), CV.sc (Value.int IntKind.i64 c)])]
      fun r x =>
      r =
        SV.one
          (RV.agg
            [CV.sc (Value.int IntKind.i64 n), CV.sc (Value.int IntKind.i64 n_1), CV.sc (Value.int IntKind.i64 n_2)])) ∧
    ∃ n_3 n_4 n_5,
      (CallD Try.prog 16
          [SV.one
              (RV.agg
                [CV.sc (Value.int IntKind.i64 x), CV.sc (Value.int IntKind.i64 y), CV.sc (Value.int IntKind.i64 z)])]
          fun r x =>
          r =
            SV.one
              (RV.agg
                [CV.sc (Value.int IntKind.i64 n_3), CV.sc (Value.int IntKind.i64 n_4),
                  CV.sc (Value.int IntKind.i64 n_5)])) ∧
        ∃ b_1,
          (CallD Try.prog 15
              [SV.one
                  (RV.agg
                    [CV.sc (Value.int IntKind.i64 n), CV.sc (Value.int IntKind.i64 n_1),
                      CV.sc (Value.int IntKind.i64 n_2)]),
                SV.one
                  (RV.agg
                    [CV.sc (Value.int IntKind.i64 n_3), CV.sc (Value.int IntKind.i64 n_4),
                      CV.sc (Value.int IntKind.i64 n_5)])]
              fun r x => r = SV.one (RV.cell (CV.sc (Value.bool b_1)))) ∧
            (b_1 = true →
                ∃ n n_6 n_7,
                  (CallD Try.prog 16
                      [SV.one
                          (RV.agg
                            [CV.sc (Value.int IntKind.i64 a), CV.sc (Value.int IntKind.i64 b),
                              CV.sc (Value.int IntKind.i64 c)])]
                      fun r x =>
                      r =
                        SV.one
                          (RV.agg
                            [CV.sc (Value.int IntKind.i64 n), CV.sc (Value.int IntKind.i64 n_6),
                              CV.sc (Value.int IntKind.i64 n_7)])) ∧
                    ∃ n_8 n_9 n_10,
                      (CallD Try.prog 16
                          [SV.one
                              (RV.agg
                                [CV.sc (Value.int IntKind.i64 x), CV.sc (Value.int IntKind.i64 y),
                                  CV.sc (Value.int IntKind.i64 z)])]
                          fun r x =>
                          r =
                            SV.one
                              (RV.agg
                                [CV.sc (Value.int IntKind.i64 n_8), CV.sc (Value.int IntKind.i64 n_9),
                                  CV.sc (Value.int IntKind.i64 n_10)])) ∧
                        ∃ b,
                          (CallD Try.prog 17
                              [SV.one
                                  (RV.agg
                                    [CV.sc (Value.int IntKind.i64 n), CV.sc (Value.int IntKind.i64 n_6),
                                      CV.sc (Value.int IntKind.i64 n_7)]),
                                SV.one
                                  (RV.agg
                                    [CV.sc (Value.int IntKind.i64 n_8), CV.sc (Value.int IntKind.i64 n_9),
                                      CV.sc (Value.int IntKind.i64 n_10)])]
                              fun r x => r = SV.one (RV.cell (CV.sc (Value.bool b)))) ∧
                            (b = true →
                                ((!decide (true = true)) = true →
                                    Q (SV.one (RV.cell (CV.sc (Value.bool false)))) [SV.dead, SV.dead]) ∧
                                  ((!decide (true = true)) = false →
                                    Q (SV.one (RV.cell (CV.sc (Value.bool true)))) [SV.dead, SV.dead])) ∧
                              (b = false →
                                ((!decide (false = true)) = true →
                                    Q (SV.one (RV.cell (CV.sc (Value.bool false)))) [SV.dead, SV.dead]) ∧
                                  ((!decide (false = true)) = false →
                                    Q (SV.one (RV.cell (CV.sc (Value.bool true)))) [SV.dead, SV.dead]))) ∧
              (b_1 = false →
                ∃ n n_6 n_7,
                  (CallD Try.prog 16
                      [SV.one
                          (RV.agg
                            [CV.sc (Value.int IntKind.i64 a), CV.sc (Value.int IntKind.i64 b),
                              CV.sc (Value.int IntKind.i64 c)])]
                      fun r x =>
                      r =
                        SV.one
                          (RV.agg
                            [CV.sc (Value.int IntKind.i64 n), CV.sc (Value.int IntKind.i64 n_6),
                              CV.sc (Value.int IntKind.i64 n_7)])) ∧
                    ∃ n_8 n_9 n_10,
                      (CallD Try.prog 16
                          [SV.one
                              (RV.agg
                                [CV.sc (Value.int IntKind.i64 x), CV.sc (Value.int IntKind.i64 y),
                                  CV.sc (Value.int IntKind.i64 z)])]
                          fun r x =>
                          r =
                            SV.one
                              (RV.agg
                                [CV.sc (Value.int IntKind.i64 n_8), CV.sc (Value.int IntKind.i64 n_9),
                                  CV.sc (Value.int IntKind.i64 n_10)])) ∧
                        ∃ b,
                          (CallD Try.prog 17
                              [SV.one
                                  (RV.agg
                                    [CV.sc (Value.int IntKind.i64 n), CV.sc (Value.int IntKind.i64 n_6),
                                      CV.sc (Value.int IntKind.i64 n_7)]),
                                SV.one
                                  (RV.agg
                                    [CV.sc (Value.int IntKind.i64 n_8), CV.sc (Value.int IntKind.i64 n_9),
                                      CV.sc (Value.int IntKind.i64 n_10)])]
                              fun r x => r = SV.one (RV.cell (CV.sc (Value.bool b)))) ∧
                            (b = true →
                                ((!decide (true = false)) = true →
                                    Q (SV.one (RV.cell (CV.sc (Value.bool false)))) [SV.dead, SV.dead]) ∧
                                  ((!decide (true = false)) = false →
                                    Q (SV.one (RV.cell (CV.sc (Value.bool true)))) [SV.dead, SV.dead])) ∧
                              (b = false →
                                ((!decide (false = false)) = true →
                                    Q (SV.one (RV.cell (CV.sc (Value.bool false)))) [SV.dead, SV.dead]) ∧
                                  ((!decide (false = false)) = false →
                                    Q (SV.one (RV.cell (CV.sc (Value.bool true)))) [SV.dead, SV.dead])))) := by kernel_rfl
theorem c3 {a b c x y z : Int} (ha : I64 a) (hb : I64 b) (hx : I64 x) (hy : I64 y) : CallD Try.prog 3 [tI a b c, tI x y z] fun r _ => r = .one (.cell (.sc (.bool true))) := by
  refine callD_of_dwp (C := cfg) tbOk mixed (by kernel_rfl : Try.prog.funcs[3]? = some Try.f3) (code := bodyOf Try.f3) (by kernel_rfl) (by kernel_rfl) (fun t ht => by cases ht) ((v3 a b c x y z _).mpr ?_)
  have h15 := c15 (c := c) (z := z) ha hb hx hy
  have h17 := c17 (c := c) (z := z) ha hb hx hy
  have h1 := c16 a b c
  have h2 := c16 x y z
  refine ⟨a, b, c, h1, x, y, z, h2, apart a b x y, h15, fun e => ⟨a, b, c, h1, x, y, z, h2, apart a b x y, h17, fun e' => ?_, fun e' => ?_⟩, fun e => ⟨a, b, c, h1, x, y, z, h2, apart a b x y, h17, fun e' => ?_, fun e' => ?_⟩⟩
  all_goals first
    | exact ⟨fun h => absurd h (by decide), fun _ => rfl⟩
    | exact absurd (e.symm.trans e') (by decide)

theorem int_inv {d : DV} (h : WT (.int .i64) d) : ∃ n, d = .val (.int .i64 n) ∧ I64 n := by
  cases h with
  | int h => exact ⟨_, rfl, i64_of h⟩
theorem thing_inv {ds : List DV} (h : WTs [.int .i64, .int .i64, .int .i64] ds) : ∃ a b c, ds = [.val (.int .i64 a), .val (.int .i64 b), .val (.int .i64 c)] ∧ I64 a ∧ I64 b ∧ I64 c := by
  cases h with
  | cons h1 h => cases h with
    | cons h2 h => cases h with
      | cons h3 h => cases h with
        | nil =>
          obtain ⟨a, rfl, ha⟩ := int_inv h1
          obtain ⟨b, rfl, hb⟩ := int_inv h2
          obtain ⟨c, rfl, hc⟩ := int_inv h3
          exact ⟨a, b, c, rfl, ha, hb, hc⟩

theorem lifted (os : Os) (started : os.Started) (H : Type) (enc : TypeId × Value → H) :
    ReturnsInHanded {} Try.checked os 3 .any (Rows.fnExactApartSpec.pre6 enc Try.prog Try.f3 Rows.fnExactApartRow.domain false) (Rows.fnExactApartSpec.post enc Try.prog Try.f3 false true false false) := by
  refine returnsInHanded_of_change (C := Try.checked) own started (by kernel_rfl) Try.func3
    (ChangeSpec.witness6 (enc := enc) (C := Try.checked) false ⟨#[], #[.agg #[.int .i64 0, .int .i64 0, .int .i64 0], .agg #[.int .i64 0, .int .i64 0, .int .i64 0]], []⟩ 8 (by kernel_rfl) (by kernel_rfl) (by kernel_rfl) (by kernel_rfl)) ?_
  intro W base args ds gs before hval0 hW hcnd _
  refine law_row (bs := [true, true]) (bt := 4) laidOut shOk rfl (by kernel_rfl) (by kernel_rfl) (by kernel_rfl) (fun ds h => ?_) (by kernel_rfl) (by kernel_rfl) ?_ hW hval0
  · match ds, h with
    | [_, _], _ => rfl
  · have e : Try.f3.params.toList = [23, 23] := by kernel_rfl
    rw [e]
    intro ds1 es1 he1 w1 ds2 es2 he2 w2
    have e23 : sh 23 = some [.int .i64, .int .i64, .int .i64] := by kernel_rfl
    cases e23.symm.trans he1
    cases e23.symm.trans he2
    obtain ⟨a, b, c, rfl, ha, hb, hc⟩ := thing_inv w1
    obtain ⟨x, y, z, rfl, hx, hy, hz⟩ := thing_inv w2
    exact c3 ha hb hx hy
end Apart
theorem fnExactApart_holds : Rows.FnExactApartSaid :=
  OpenClaim.holds_of_wide 3 Try.f3 rfl rfl rfl rfl rfl rfl rfl ⟨rfl, rfl, rfl, rfl, rfl⟩ rfl rfl rfl rfl rfl (by kernel_rfl) Try.func3 (by kernel_rfl)
    (of_decide_eq_true (by kernel_rfl)) (by unfold Func.isWrapper; first | (rw [if_pos (by decide +kernel)]; kernel_rfl) | (rw [if_neg (by decide +kernel)]; exact ⟨rfl, rfl⟩))
    (fun os started H enc _ => Apart.lifted os started H enc)
#print axioms fnExactApart_holds
end Go.Proofs.Ytbmflnlppnkbaaa
