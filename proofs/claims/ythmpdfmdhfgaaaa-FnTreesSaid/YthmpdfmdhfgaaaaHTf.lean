/- Contracts of small functions: what is drawn for a table of rooms. -/
import Derived.Test.YthmpdfmdhfgaaaaHTe
import Derived.Test.YthmpdfmdhfgaaaaHPb
import Derived.Test.YthmpdfmdhfgaaaaVHTf
namespace Go.Proofs.Ythmpdfmdhfgaaaa
open Go Go.Proofs.Ythmpdfmdhfgaaaa.DL
set_option maxRecDepth 100000

theorem da_upd {l : List Node} (h : DG l) {k : Nat} (hk : k < l.length) {f : Node → Node} (hf : ∀ n, N0 l.length n → N1 l.length (f n)) : DA (upd l k f) := by
  refine ⟨by rw [upd_length]; exact h.len, fun n hn => ?_⟩
  rw [upd_length]
  unfold upd at hn
  rcases List.mem_or_eq_of_mem_set hn with hn | rfl
  · exact (h.all n hn).to h.len.2
  · rw [getD_node hk]
    exact hf _ (h.all _ (List.getElem_mem hk))
set_option maxHeartbeats 4000000 in
theorem c_l9Any {v : Value} {a : List Int} (ha : a.length ≤ M63) {i : Int} (hi : 0 ≤ i) (h : Int) :
    ∃ l i' h', DA l ∧ 0 ≤ i' ∧ CallD Try.prog F_spec_l9Any [Cur v a i h] fun r bs => r = oNs l ∧ bs.getD 0 .dead = Cur v a i' h' := by
  obtain ⟨l, i1, h1, hl, k1, c1⟩ := c_l9Draw (v := v) ha hi h
  have en : nI (DV.sl 13 (nods l)).n = l.length := by simp only [nI, n_nodes]
  obtain ⟨x, i2, h2, gx, k2, cx⟩ := c_l1Below (v := v) ha k1 h1 (nI (DV.sl 13 (nods l)).n)
  rw [en] at gx
  obtain ⟨y, i3, h3, gy, k3, cy⟩ := c_l1Below (v := v) ha k2 h2 12
  have hN := hl.len
  obtain ⟨k, rfl⟩ := Int.eq_ofNat_of_zero_le gx.1
  have hk : k < l.length := by have := gx.2.1 (by omega); omega
  have b0 : (0 : Int) ≤ k := by omega
  have b1 : (k : Int) < nI (DV.sl 13 (nods l)).n := by rw [en]; omega
  have b2 : (DV.sl 13 (nods l)).es.length = l.length * 13 := by rw [es_sl, nodes_length]
  have g2 : (DV.sl 13 (nods l)).getP [k * 13 + 2] = iV l[k].ep := (getP_one _ _ _).trans (nget hk (by omega))
  have g2' : (nods l).getD (k * 13 + 2) dfl = iV l[k].ep := nget hk (by omega)
  have hy := gy.2.1 (by omega)
  have hcase : y = 0 ∨ y = 1 ∨ y = 2 ∨ y = 3 ∨ y = 4 ∨ y = 5 ∨ 5 < y := by have := gy.1; omega
  rcases hcase with hy | hy | hy | hy | hy | hy | hy
  · refine ⟨upd l k fun n => { n with ep := IntKind.i64.wrap (l[k].ep + 1) }, i3, h3, da_upd hl hk ?_, k3, k_spec_l9Any ?_⟩
    · have he := (hl.all _ (List.getElem_mem hk)).ep
      rw [wrap_id (n := l[k].ep + 1) (by omega) (by omega)]
      rintro n ⟨a1, a2, a3, a4, a5, a6, a7, a8, a9, a10, a11, a12, a13, a14⟩
      constructor <;> simp only <;> first | assumption | omega
    · unfold vc_spec_l9Any
      refine ⟨_, _, _, rfl, c1, _, _, _, rfl, cx, _, _, _, rfl, cy, fun _ => ?_, fun g => absurd hy (of_decide_eq_false g)⟩
      rw [Int.toNat_natCast, g2, g2', b2, asI_iV, set_ep hk]
      refine ⟨b0, b1, ⟨by rw [b2]; omega, trivial⟩, rfl, b0, b1, trivial, by omega, rfl, rfl⟩
  · refine ⟨upd l k fun n => { n with st := 2 }, i3, h3, da_upd hl hk ?_, k3, k_spec_l9Any ?_⟩
    · rintro n ⟨a1, a2, a3, a4, a5, a6, a7, a8, a9, a10, a11, a12, a13, a14⟩
      constructor <;> simp only <;> first | assumption | omega
    · unfold vc_spec_l9Any
      refine ⟨_, _, _, rfl, c1, _, _, _, rfl, cx, _, _, _, rfl, cy, fun g => absurd (of_decide_eq_true g) (by omega), fun _ => ⟨fun _ => ?_, fun g => absurd hy (of_decide_eq_false g)⟩⟩
      rw [Int.toNat_natCast, b2, set_cell (f := fun n => { n with st := 2 }) hk (fun _ => rfl) (by omega)]
      refine ⟨b0, b1, trivial, by omega, rfl, rfl⟩
  · obtain ⟨z, i4, h4, gz, k4, cz⟩ := c_l1Below (v := v) ha k3 h3 5
    have hz := gz.2.1 (by omega)
    refine ⟨upd l k fun n => { n with next := z }, i4, h4, da_upd hl hk ?_, k4, k_spec_l9Any ?_⟩
    · rintro n ⟨a1, a2, a3, a4, a5, a6, a7, a8, a9, a10, a11, a12, a13, a14⟩
      constructor <;> simp only <;> first | assumption | omega
    · unfold vc_spec_l9Any
      refine ⟨_, _, _, rfl, c1, _, _, _, rfl, cx, _, _, _, rfl, cy, fun g => absurd (of_decide_eq_true g) (by omega), fun _ => ⟨fun g => absurd (of_decide_eq_true g) (by omega), fun _ => ⟨fun _ => ⟨_, _, _, rfl, cz, ?_⟩, fun g => absurd hy (of_decide_eq_false g)⟩⟩⟩
      rw [Int.toNat_natCast, b2, set_next hk]
      refine ⟨b0, b1, trivial, by omega, rfl, rfl⟩
  · obtain ⟨z, i4, h4, gz, k4, cz⟩ := c_l1Below (v := v) ha k3 h3 5
    have hz := gz.2.1 (by omega)
    refine ⟨upd l k fun n => { n with prev := z }, i4, h4, da_upd hl hk ?_, k4, k_spec_l9Any ?_⟩
    · rintro n ⟨a1, a2, a3, a4, a5, a6, a7, a8, a9, a10, a11, a12, a13, a14⟩
      constructor <;> simp only <;> first | assumption | omega
    · unfold vc_spec_l9Any
      refine ⟨_, _, _, rfl, c1, _, _, _, rfl, cx, _, _, _, rfl, cy, fun g => absurd (of_decide_eq_true g) (by omega), fun _ => ⟨fun g => absurd (of_decide_eq_true g) (by omega), fun _ => ⟨fun g => absurd (of_decide_eq_true g) (by omega), fun _ => ⟨fun _ => ⟨_, _, _, rfl, cz, ?_⟩, fun g => absurd hy (of_decide_eq_false g)⟩⟩⟩⟩
      rw [Int.toNat_natCast, b2, set_prev hk]
      refine ⟨b0, b1, trivial, by omega, rfl, rfl⟩
  · obtain ⟨z, i4, h4, gz, k4, cz⟩ := c_l1Int (v := v) ha k3 h3 (l := [-1, 0, 1, 2, 9]) (by decide)
    simp only [List.mem_cons, List.not_mem_nil, or_false] at gz
    refine ⟨upd l k fun n => { n with up := z }, i4, h4, da_upd hl hk ?_, k4, k_spec_l9Any ?_⟩
    · rintro n ⟨a1, a2, a3, a4, a5, a6, a7, a8, a9, a10, a11, a12, a13, a14⟩
      constructor <;> simp only <;> first | assumption | omega
    · unfold vc_spec_l9Any
      refine ⟨_, _, _, rfl, c1, _, _, _, rfl, cx, _, _, _, rfl, cy, fun g => absurd (of_decide_eq_true g) (by omega), fun _ => ⟨fun g => absurd (of_decide_eq_true g) (by omega), fun _ => ⟨fun g => absurd (of_decide_eq_true g) (by omega), fun _ => ⟨fun g => absurd (of_decide_eq_true g) (by omega), fun _ => ⟨fun _ => ⟨_, _, _, rfl, cz, ?_⟩, fun g => absurd hy (of_decide_eq_false g)⟩⟩⟩⟩⟩
      rw [Int.toNat_natCast, b2, set_up hk]
      refine ⟨b0, b1, trivial, by omega, rfl, rfl⟩
  · obtain ⟨z, i4, h4, gz, k4, cz⟩ := c_l1Below (v := v) ha k3 h3 5
    have hz := gz.2.1 (by omega)
    refine ⟨upd l k fun n => { n with first := z }, i4, h4, da_upd hl hk ?_, k4, k_spec_l9Any ?_⟩
    · rintro n ⟨a1, a2, a3, a4, a5, a6, a7, a8, a9, a10, a11, a12, a13, a14⟩
      constructor <;> simp only <;> first | assumption | omega
    · unfold vc_spec_l9Any
      refine ⟨_, _, _, rfl, c1, _, _, _, rfl, cx, _, _, _, rfl, cy, fun g => absurd (of_decide_eq_true g) (by omega), fun _ => ⟨fun g => absurd (of_decide_eq_true g) (by omega), fun _ => ⟨fun g => absurd (of_decide_eq_true g) (by omega), fun _ => ⟨fun g => absurd (of_decide_eq_true g) (by omega), fun _ => ⟨fun g => absurd (of_decide_eq_true g) (by omega), fun _ => ⟨fun _ => ⟨_, _, _, rfl, cz, ?_⟩, fun g => absurd hy (of_decide_eq_false g)⟩⟩⟩⟩⟩⟩
      rw [Int.toNat_natCast, b2, set_first hk]
      refine ⟨b0, b1, trivial, by omega, rfl, rfl⟩
  · refine ⟨l, i3, h3, hl.to, k3, k_spec_l9Any ?_⟩
    unfold vc_spec_l9Any
    exact ⟨_, _, _, rfl, c1, _, _, _, rfl, cx, _, _, _, rfl, cy, fun g => absurd (of_decide_eq_true g) (by omega), fun _ => ⟨fun g => absurd (of_decide_eq_true g) (by omega), fun _ => ⟨fun g => absurd (of_decide_eq_true g) (by omega), fun _ => ⟨fun g => absurd (of_decide_eq_true g) (by omega), fun _ => ⟨fun g => absurd (of_decide_eq_true g) (by omega), fun _ => ⟨fun g => absurd (of_decide_eq_true g) (by omega), fun _ => ⟨rfl, rfl⟩⟩⟩⟩⟩⟩⟩
abbrev tNI (l : List Node) (k : Int) : SV := .tup [.cell (.own (.sl 13 (nods l))), .cell (iC k)]
abbrev tNII (l : List Node) (k m : Int) : SV := .tup [.cell (.own (.sl 13 (nods l))), .cell (iC k), .cell (iC m)]
theorem c_DrawLink {v : Value} {a : List Int} (ha : a.length ≤ M63) : ∃ b up k, DA b ∧ I64 up ∧ I64 k ∧ CallD Try.prog F_spec_DrawLink [codeS v a] fun r _ => r = tNII (b ++ [newN 0]) up k := by
  obtain ⟨i0, h0, k0, c0⟩ := c_l1New (v := v) ha
  obtain ⟨l, i1, h1, hl, k1, c1⟩ := c_l9Any (v := v) ha k0 h0
  obtain ⟨x, i2, h2, -, k2, cx⟩ := c_l1Below (v := v) ha k1 h1 (IntKind.i64.wrap (nI (DV.sl 13 (nods (l ++ [newN 0]))).n + 1))
  obtain ⟨y, i3, h3, -, k3, cy⟩ := c_l1Below (v := v) ha k2 h2 2
  obtain ⟨z, i4, h4, -, k4, cz⟩ := c_l1Below (v := v) ha k3 h3 2
  have hN := hl.len
  refine ⟨l, IntKind.i64.wrap (x - 1), IntKind.i64.wrap (IntKind.i64.wrap (nI (DV.sl 13 (nods (l ++ [newN 0]))).n - 1) - IntKind.i64.wrap (y * z)), hl, wrap_I64 _, wrap_I64 _, k_spec_DrawLink ?_⟩
  unfold vc_spec_DrawLink
  have e : nods l ++ [iV 1, iV 1, iV 0, iV 0, iV 0, iV 0, iV 0, iV 0, DV.sl 1 [], iV 0, iV 0, DV.sl 3 [], DV.sl 1 []] = nods (l ++ [newN 0]) := nods_snoc l (newN 0)
  have e1 : (DV.sl 13 [iV 1, iV 1, iV 0, iV 0, iV 0, iV 0, iV 0, iV 0, DV.sl 1 [], iV 0, iV 0, DV.sl 3 [], DV.sl 1 []]).n = 1 := by rw [DV.n_eq]; rfl
  refine ⟨_, _, rfl, c0, nods l, _, _, rfl, c1, ?_⟩
  rw [e, e1]
  exact ⟨by rw [n_nodes]; omega, by rw [n_nodes]; omega, _, _, _, rfl, cx, _, _, _, rfl, cy, _, _, _, rfl, cz, rfl⟩
theorem c_DrawUnlink {v : Value} {a : List Int} (ha : a.length ≤ M63) : ∃ l k, DA l ∧ I64 k ∧ CallD Try.prog F_spec_DrawUnlink [codeS v a] fun r _ => r = tNI l k := by
  obtain ⟨i0, h0, k0, c0⟩ := c_l1New (v := v) ha
  obtain ⟨l, i1, h1, hl, k1, c1⟩ := c_l9Any (v := v) ha k0 h0
  obtain ⟨x, i2, h2, -, k2, cx⟩ := c_l1Below (v := v) ha k1 h1 8
  refine ⟨l, IntKind.i64.wrap (x - 1), hl, wrap_I64 _, k_spec_DrawUnlink ?_⟩
  unfold vc_spec_DrawUnlink
  exact ⟨_, _, rfl, c0, _, _, _, rfl, c1, _, _, _, rfl, cx, rfl⟩
theorem c_DrawRise {v : Value} {a : List Int} (ha : a.length ≤ M63) : ∃ l k, DA l ∧ I64 k ∧ CallD Try.prog F_spec_DrawRise [codeS v a] fun r _ => r = tNI l k := by
  obtain ⟨i0, h0, k0, c0⟩ := c_l1New (v := v) ha
  obtain ⟨l, i1, h1, hl, k1, c1⟩ := c_l9Any (v := v) ha k0 h0
  obtain ⟨x, i2, h2, -, k2, cx⟩ := c_l1Below (v := v) ha k1 h1 8
  refine ⟨l, IntKind.i64.wrap (x - 1), hl, wrap_I64 _, k_spec_DrawRise ?_⟩
  unfold vc_spec_DrawRise
  exact ⟨_, _, rfl, c0, _, _, _, rfl, c1, _, _, _, rfl, cx, rfl⟩
theorem c_DrawTreeOk {v : Value} {a : List Int} (ha : a.length ≤ M63) : ∃ l, DA l ∧ CallD Try.prog F_spec_DrawTreeOk [codeS v a] fun r _ => r = oNs l := by
  obtain ⟨i0, h0, k0, c0⟩ := c_l1New (v := v) ha
  obtain ⟨l, i1, h1, hl, k1, c1⟩ := c_l9Any (v := v) ha k0 h0
  refine ⟨l, hl, k_spec_DrawTreeOk ?_⟩
  unfold vc_spec_DrawTreeOk
  exact ⟨_, _, rfl, c0, _, _, _, rfl, c1, rfl⟩
theorem c_DrawKidsOf {v : Value} {a : List Int} (ha : a.length ≤ M63) : ∃ l k, DA l ∧ I64 k ∧ CallD Try.prog F_spec_DrawKidsOf [codeS v a] fun r _ => r = tNI l k := by
  obtain ⟨i0, h0, k0, c0⟩ := c_l1New (v := v) ha
  obtain ⟨l, i1, h1, hl, k1, c1⟩ := c_l9Any (v := v) ha k0 h0
  have en : nI (DV.sl 13 (nods l)).n = l.length := by simp only [nI, n_nodes]
  obtain ⟨x, i2, h2, gx, k2, cx⟩ := c_l1Below (v := v) ha k1 h1 (nI (DV.sl 13 (nods l)).n)
  rw [en] at gx
  obtain ⟨b, i3, h3, k3, cb⟩ := c_l1Once (v := v) ha k2 h2 3
  have hN := hl.len
  obtain ⟨k, rfl⟩ := Int.eq_ofNat_of_zero_le gx.1
  have hk : k < l.length := by have := gx.2.1 (by omega); omega
  cases b
  · refine ⟨l, l[k].first, hl, (hl.ok _ (List.getElem_mem hk)).2.2.2.2.2.1, k_spec_DrawKidsOf ?_⟩
    unfold vc_spec_DrawKidsOf
    have g5 : (DV.sl 13 (nods l)).getP [k * 13 + 5] = iV l[k].first := (getP_one _ _ _).trans (nget hk (by omega))
    refine ⟨_, _, rfl, c0, nods l, _, _, rfl, c1, (k : Int), _, _, rfl, cx, _, _, _, rfl, cb, fun g => (by cases g), fun _ => ?_⟩
    rw [Int.toNat_natCast, g5, asI_iV]
    exact ⟨by omega, by rw [en]; omega, ⟨by rw [es_sl, nodes_length]; omega, trivial⟩, rfl, rfl⟩
  · obtain ⟨y, i4, h4, -, k4, cy⟩ := c_l1Below (v := v) ha k3 h3 9
    refine ⟨l, IntKind.i64.wrap (y - 1), hl, wrap_I64 _, k_spec_DrawKidsOf ?_⟩
    unfold vc_spec_DrawKidsOf
    exact ⟨_, _, rfl, c0, nods l, _, _, rfl, c1, _, _, _, rfl, cx, _, _, _, rfl, cb, fun _ => ⟨_, _, _, rfl, cy, rfl⟩, fun g => (by cases g)⟩
end Go.Proofs.Ythmpdfmdhfgaaaa
