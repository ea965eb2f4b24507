/- Contracts of small functions: a world made new, its table. -/
import Derived.Test.YtlffmhhdgedddaaHWn
import Derived.Test.YtlffmhhdgedddaaVHWm
namespace Go.Proofs.Ytlffmhhdgedddaa
open Go Go.Proofs.Ytlffmhhdgedddaa.DL
set_option maxRecDepth 100000

/-- A free room, its slices without memory. -/
def nilRow : List DV := [iV 0, iV 1, iV 0, iV 0, iV 0, iV 0, iV 0, iV 0, .val nilV, iV 0, iV 0, .val nilV, .val nilV]
def zRow : List DV := [iV 0, iV 0, iV 0, iV 0, iV 0, iV 0, iV 0, iV 0, .sl 1 [], iV 0, iV 0, .sl 3 [], .sl 1 []]
def freeN : Node := ⟨0, 1, 0, 0, 0, 0, 0, 0, [], 0, 0, [], []⟩
theorem nilRow_val : AllVal nilRow := by unfold AllVal nilRow; simp [DV.isV]
theorem nilRow_soft : Soft nilRow freeN.enc := .same (.same (.same (.same (.same (.same (.same (.same (.soft (.same (.same (.soft (.soft .nil))))))))))))
theorem rp_one (x : List DV) : rp 1 x = x := by simp [rp]
theorem nods_rep (n : Nat) : nods (List.replicate n freeN) = rp n freeN.enc := by
  unfold nods flat rp
  rw [List.flatMap_def, List.map_replicate]
theorem c_NodeNew : CallD Try.prog F_impl_NodeNew [iS 1] fun r _ => r = aS [iC 0, iC 1, iC 0, iC 0, iC 0, iC 0, iC 0, iC 0, .sc nilV, iC 0, iC 0, .sc nilV, .sc nilV] := k_impl_NodeNew rfl
theorem c_NodeNewS : CallD Try.prog F_spec_NodeNew [iS 1] fun r _ => r = oNode freeN := k_spec_NodeNew rfl
set_option maxHeartbeats 1000000 in
theorem c_RepeatN (N : Nat) (h : N ≤ 8) : CallD Try.prog F_slices_Repeat_impl_Node [oneC (.rd (.sl 13 nilRow)), iS (N : Int)] fun r _ => r = oneC (.own (.sl 13 (rp N nilRow))) := by
  have hx : nilRow.length = 13 := rfl
  have hz : zRow.length = 13 := rfl
  refine k_slices_Repeat_impl_Node ?_
  unfold vc_slices_Repeat_impl_Node
  have e1 : IntKind.u64.wrap (nI (DV.sl 13 nilRow).n) = 1 := by kernel_rfl
  have e2 : IntKind.u64.wrap (N : Int) = N := by rw [wrapU]; omega
  have e3 : IntKind.i64.wrap (N : Int) = N := wrap_id (by omega) (by omega)
  rw [e1, e2]
  refine ⟨fun g => by simp at g; omega, fun _ => ⟨0, N, c_Mul N (by omega), fun g => by simp at g, fun _ => ⟨fun g => by simp at g; omega, fun _ => ?_⟩⟩⟩
  rw [e3, Int.toNat_natCast]
  have ez : (List.replicate N [iV 0, iV 0, iV 0, iV 0, iV 0, iV 0, iV 0, iV 0, DV.sl 1 [], iV 0, iV 0, DV.sl 3 [], DV.sl 1 []]).flatten = rp N zRow := rfl
  have e4 : (DV.sl 13 nilRow).n = 1 := by kernel_rfl
  rw [ez, n_rp hz, e4]
  have et : List.take (min N 1 * 13) nilRow = rp (min N 1) nilRow := by
    have := rp_take (x := nilRow) hx (a := min N 1) (b := 1) (by omega)
    rwa [rp_one] at this
  have eo : overlay (rp N zRow) 0 (rp (min N 1) nilRow) = rp (min N 1) nilRow ++ rp (N - min N 1) zRow := by
    have := rp_set (x := nilRow) (z := zRow) hx hz (a := 0) (b := N) (q := min N 1) (by omega)
    simpa [rp] using this
  rw [et, eo]
  refine ⟨rfl, by omega, by simp only [nI]; omega, by omega, by omega, nilRow_val, trivial, by rw [es_sl, rp_len hz]; omega, ?_⟩
  refine ⟨fun es i m => ∃ k : Nat, i = k ∧ k ≤ N ∧ (0 < k ∨ N = 0) ∧ m = N - k ∧ es = rp k nilRow ++ rp (N - k) zRow, ⟨N - min N 1, min N 1, rfl, by omega, by omega, rfl, rfl⟩, ?_⟩
  rintro es i m ⟨k, rfl, hk, hk0, rfl, rfl⟩
  have el : (rp k nilRow ++ rp (N - k) zRow).length = N * 13 := by rw [List.length_append, rp_len hx, rp_len hz]; omega
  have en : (DV.sl 13 (rp k nilRow ++ rp (N - k) zRow)).n = N := by rw [DV.n_eq, el]; omega
  have es1 : List.drop (Int.toNat 0 * 13) (List.take (k * 13) (rp k nilRow ++ rp (N - k) zRow)) = rp k nilRow := by
    rw [List.take_append_of_le_length (by rw [rp_len hx]; omega), List.take_of_length_le (by rw [rp_len hx]; omega)]
    rfl
  have es2 : List.drop (k * 13) (List.take (N * 13) (rp k nilRow ++ rp (N - k) zRow)) = rp (N - k) zRow := by
    rw [List.take_of_length_le (by omega), List.drop_append, rp_len hx, Nat.sub_self, List.drop_of_length_le (by rw [rp_len hx]; omega)]
    rfl
  simp only [nI, en, Option.getD_some, Int.toNat_natCast, es1, es2, n_rp hx, n_rp hz]
  have eq : List.take (min (N - k) k * 13) (rp k nilRow) = rp (min (N - k) k) nilRow := rp_take hx (by omega)
  rw [eq, rp_set hx hz (by omega)]
  refine ⟨fun g => ⟨by omega, by omega, by omega, by omega, by omega, by omega, AllVal_rp nilRow_val, trivial, by rw [es_sl, el]; omega, trivial, N - (k + min (N - k) k), ?_, k + min (N - k) k, ?_, by omega, by omega, rfl, ?_⟩, fun g => ?_⟩
  · have := of_decide_eq_true g; omega
  · rw [wrap_id] <;> omega
  · congr 2; omega
  · have := of_decide_eq_false g
    have : k = N := by omega
    subst this
    rw [Nat.sub_self]
    show oneC (CV.own (DV.sl 13 (rp k nilRow ++ []))) = _
    rw [List.append_nil]
def newT (c : Conf) : List Node := if c.good then List.replicate c.slots.toNat freeN else []
theorem c_TableNew (c : Conf) : CallD Try.prog F_impl_TableNew [confS c] fun r _ => r = oNs (newT c) := by
  unfold newT
  cases g1 : c.good with
  | false =>
    refine k_impl_TableNew ?_
    unfold vc_impl_TableNew
    exact ⟨_, by have := c_confOk c; rw [g1] at this; exact this, fun g => (by cases g), fun _ => rfl⟩
  | true =>
    obtain ⟨-, -, ⟨h1, h2⟩, -⟩ := Conf.good_iff.1 g1
    have hr := c_RepeatN c.slots.toNat (by omega)
    rw [show ((c.slots.toNat : Nat) : Int) = c.slots by omega] at hr
    have hs : Soft (rp c.slots.toNat nilRow) (nods (List.replicate c.slots.toNat freeN)) := by rw [nods_rep]; exact nilRow_soft.rp _
    refine CallD.soft (ds := rp c.slots.toNat nilRow) ?_ hs
    refine k_impl_TableNew ?_
    unfold vc_impl_TableNew
    exact ⟨_, by have := c_confOk c; rw [g1] at this; exact this, fun _ => ⟨_, _, _, _, _, _, _, _, _, _, c_NodeNew, _, hr, rfl⟩, fun g => (by cases g)⟩
theorem n_free : (DV.sl 13 freeN.enc).n = 1 := by rw [DV.n_eq]; rfl
theorem c_TableNewS (c : Conf) : CallD Try.prog F_spec_TableNew [confS c] fun r _ => r = oNs (newT c) := by
  have hc := c_confOkS c
  refine k_spec_TableNew ?_
  unfold vc_spec_TableNew newT
  cases g1 : c.good with
  | false =>
    rw [g1] at hc
    refine ⟨fun es i m => i = 0 ∧ es = [], ⟨0, rfl, rfl⟩, ?_⟩
    rintro es i m ⟨rfl, rfl⟩
    exact ⟨fun _ => ⟨_, hc, fun g => (by cases g), fun _ => rfl⟩, fun _ => rfl⟩
  | true =>
    rw [g1] at hc
    obtain ⟨-, -, ⟨h1, h2⟩, -⟩ := Conf.good_iff.1 g1
    rw [if_pos rfl]
    refine ⟨fun es i m => ∃ k : Nat, i = k ∧ (k : Int) ≤ c.slots ∧ m = c.slots.toNat - k ∧ es = rp k freeN.enc, ⟨_, 0, rfl, by omega, rfl, rfl⟩, ?_⟩
    rintro es i m ⟨k, rfl, hk, rfl, rfl⟩
    refine ⟨fun g => ⟨_, hc, fun _ => ⟨_, _, _, _, _, _, _, _, _, _, _, _, _, c_NodeNewS, ?_, ?_, rfl, c.slots.toNat - (k + 1), ?_, k + 1, ?_, ?_, rfl, ?_⟩, fun g => (by cases g)⟩, fun g => ?_⟩
    · show ((DV.sl 13 (rp k freeN.enc)).n + (DV.sl 13 freeN.enc).n) * 152 ≤ _
      rw [n_rp rfl, n_free]; omega
    · show (DV.sl 13 (rp k freeN.enc)).n + (DV.sl 13 freeN.enc).n ≤ _
      rw [n_rp rfl, n_free]; omega
    · have := of_decide_eq_true g; omega
    · rw [wrap_id] <;> omega
    · have := of_decide_eq_true g; omega
    · rw [rp_add, rp_one]; rfl
    · have := of_decide_eq_false g
      have e : c.slots.toNat = k := by omega
      rw [e]
      show oneC (CV.own (DV.sl 13 (rp k freeN.enc))) = oneC (CV.own (DV.sl 13 (nods (List.replicate k freeN))))
      rw [nods_rep]
def newW (c : Conf) : World' := if c.good then ⟨c, newP c, newT c, [], []⟩ else ⟨⟨0, 0, 0, 0, 0, 0⟩, ⟨[], [], []⟩, [], [], []⟩
theorem c_WorldNew (c : Conf) : CallD Try.prog F_impl_WorldNew [confS c] fun r _ => r = oWorld (newW c) := by
  refine k_impl_WorldNew ?_
  unfold vc_impl_WorldNew newW
  exact ⟨_, c_confOk c, fun g => ⟨_, _, _, c_PoolNew c, _, c_TableNew c, by rw [if_pos g]; rfl⟩, fun g => by rw [g]; rfl⟩
theorem c_WorldNewS (c : Conf) : CallD Try.prog F_spec_WorldNew [confS c] fun r _ => r = oWorld (newW c) := by
  refine k_spec_WorldNew ?_
  unfold vc_spec_WorldNew newW
  exact ⟨_, c_confOkS c, fun g => ⟨_, _, _, c_PoolNewS c, _, c_TableNewS c, by rw [if_pos g]; rfl⟩, fun g => by rw [g]; rfl⟩
theorem szs_rep : ∀ n, szs (List.replicate n freeN) = 0
  | 0 => rfl
  | n + 1 => by
    rw [List.replicate_succ, szs, szs_rep n]
    rfl
theorem newW_small (c : Conf) : totP (newW c).p ≤ 300 ∧ totN (newW c).l ≤ 300 ∧ totQ (newW c).q = 0 ∧ (newW c).log.length = 0 := by
  unfold newW
  cases g1 : c.good with
  | false =>
    rw [if_neg (by decide)]
    exact ⟨by decide, by decide, rfl, rfl⟩
  | true =>
    obtain ⟨hb, hb1, hb2⟩ := bytesOf_good g1
    obtain ⟨⟨h1, h2⟩, -, ⟨h3, h4⟩, -⟩ := Conf.good_iff.1 g1
    rw [if_pos rfl]
    refine ⟨?_, ?_, rfl, rfl⟩
    · unfold totP newP
      rw [g1]
      simp only [if_true, List.length_replicate]
      omega
    · unfold totN newT
      rw [g1]
      simp only [if_true, List.length_replicate, szs_rep]
      omega
end Go.Proofs.Ytlffmhhdgedddaa
