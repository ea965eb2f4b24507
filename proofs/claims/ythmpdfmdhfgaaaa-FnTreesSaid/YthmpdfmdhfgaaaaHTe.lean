/- Contracts of small functions: tables of rooms drawn. -/
import Derived.Test.YthmpdfmdhfgaaaaHTd
import Derived.Test.YthmpdfmdhfgaaaaVHTe
namespace Go.Proofs.Ythmpdfmdhfgaaaa
open Go Go.Proofs.Ythmpdfmdhfgaaaa.DL
set_option maxRecDepth 100000

theorem upd_all {P : Node → Prop} {l : List Node} (h : ∀ n ∈ l, P n) {k : Nat} (hk : k < l.length) {f : Node → Node} (hf : ∀ n, P n → P (f n)) : ∀ n ∈ upd l k f, P n := fun n hn => by
  unfold upd at hn
  rcases List.mem_or_eq_of_mem_set hn with hn | rfl
  · exact h n hn
  · rw [getD_node hk]
    exact hf _ (h _ (List.getElem_mem hk))
theorem link_N0 {N : Nat} {l : List Node} (hl : l.length = N) (h : ∀ n ∈ l, N0 N n) {up k : Nat} (hu : up < k) (hk : k < N) (hN : N ≤ 6) : ∀ n ∈ linkL l up k, N0 N n := by
  have g : N0 N (l.getD (up : Int).toNat zeroN) := by
    rw [Int.toNat_natCast, getD_node (by omega)]
    exact h _ (List.getElem_mem _)
  have wu : IntKind.i64.wrap ((up : Int) + 1) = up + 1 := wrap_id (by omega) (by omega)
  have wk : IntKind.i64.wrap ((k : Int) + 1) = k + 1 := wrap_id (by omega) (by omega)
  have h5 : ∀ n ∈ link5 l up k, N0 N n := by
    unfold link5
    rw [wu, wk]
    have g3 := g.first
    have g2 := g.ep
    refine upd_all (upd_all (upd_all (upd_all (upd_all h (by omega) ?_) (by simp only [upd_length]; omega) ?_) (by simp only [upd_length]; omega) ?_) (by simp only [upd_length]; omega) ?_) (by simp only [upd_length]; omega) ?_ <;>
      (rintro n ⟨a1, a2, a3, a4, a5, a6, a7, a8, a9, a10, a11, a12, a13, a14⟩; constructor <;> simp only <;> first | assumption | omega)
  unfold linkL
  split
  · split
    · rename_i g4
      obtain ⟨p1, p2⟩ := slotB_iff.1 g4
      refine upd_all h5 (by rw [link5_length]; omega) ?_
      rw [wk]
      rintro n ⟨a1, a2, a3, a4, a5, a6, a7, a8, a9, a10, a11, a12, a13, a14⟩
      constructor <;> simp only <;> first | assumption | omega
    · exact h5
  · exact h
/-- A table as it is drawn. -/
structure DG (l : List Node) : Prop where
  len : 1 ≤ l.length ∧ l.length ≤ 6
  all : ∀ n ∈ l, N0 l.length n
structure DA (l : List Node) : Prop where
  len : 1 ≤ l.length ∧ l.length ≤ 6
  all : ∀ n ∈ l, N1 l.length n
theorem DG.to {l : List Node} (h : DG l) : DA l := ⟨h.len, fun n hn => (h.all n hn).to h.len.2⟩
theorem DA.ok {l : List Node} (h : DA l) : ∀ n ∈ l, n.ok := fun n hn => (h.all n hn).ok
theorem DA.tot {l : List Node} (h : DA l) : totN l ≤ 100 := by
  rw [totN_zero fun n hn => (h.all n hn).sz]
  have := h.len
  omega
def stepA (f : Int × Int → Int → Int × (Int × Int)) (s : (Int × Int) × List Node) : (Int × Int) × List Node := ((f s.1 2).2, s.2 ++ [newN (f s.1 2).1])
def stepB9 (f : Int × Int → Int → Int × (Int × Int)) (fo : Int × Int → Int → Bool × (Int × Int)) (s : Nat × (Int × Int) × List Node) : Nat × (Int × Int) × List Node :=
  (s.1 + 1, (fo (f s.2.1 s.1).2 4).2, if (fo (f s.2.1 s.1).2 4).1 then s.2.2 else if ((rise s.2.2 s.2.2.length (f s.2.1 s.1).1).length : Int) < 4 then linkL s.2.2 (f s.2.1 s.1).1 s.1 else s.2.2)
set_option maxHeartbeats 4000000 in
theorem c_l9Draw {v : Value} {a : List Int} (ha : a.length ≤ M63) {i : Int} (hi : 0 ≤ i) (h : Int) :
    ∃ l i' h', DG l ∧ 0 ≤ i' ∧ CallD Try.prog F_spec_l9Draw [Cur v a i h] fun r bs => r = oNs l ∧ bs.getD 0 .dead = Cur v a i' h' := by
  obtain ⟨f, hf⟩ := dB (v := v) ha
  obtain ⟨fo, hfo⟩ := dO (v := v) ha
  obtain ⟨x, i1, h1, gx, k1, cx⟩ := c_l1Below (v := v) ha hi h 6
  obtain ⟨T, e0, es⟩ := iter_ex (stepA f) ((i1, h1), [])
  have hx6 := gx.2.1 (by omega)
  obtain ⟨M, hM⟩ := Int.eq_ofNat_of_zero_le (show 0 ≤ 1 + x by omega)
  have hT : ∀ k, 0 ≤ (T k).1.1 ∧ (T k).2.length = k ∧ ∀ n ∈ (T k).2, N0 M n := fun k => by
    induction k with
    | zero => rw [e0]; exact ⟨k1, rfl, fun n hn => by cases hn⟩
    | succ k ih =>
      rw [es]
      unfold stepA
      obtain ⟨g1, g2, -⟩ := hf (T k).1 2 ih.1
      refine ⟨g2, by simp [ih.2.1], fun n hn => ?_⟩
      rcases List.mem_append.1 hn with hn | hn
      · exact ih.2.2 n hn
      · rw [List.mem_singleton.1 hn]
        exact newN_N0 (by omega) (by omega)
  obtain ⟨m1, m2, m3⟩ := hT M
  obtain ⟨U, u0, us⟩ := iter_ex (stepB9 f fo) (1, (T M).1, (T M).2)
  have hU : ∀ k, k + 1 ≤ M → (U k).1 = k + 1 ∧ 0 ≤ (U k).2.1.1 ∧ (U k).2.2.length = M ∧ ∀ n ∈ (U k).2.2, N0 M n := fun k => by
    induction k with
    | zero => intro _; rw [u0]; exact ⟨rfl, m1, m2, m3⟩
    | succ k ih =>
      intro hk
      obtain ⟨q1, q2, q3, q4⟩ := ih (by omega)
      rw [us]
      unfold stepB9
      obtain ⟨g1, g2, -⟩ := hf (U k).2.1 (U k).1 q2
      obtain ⟨g3, -⟩ := hfo (f (U k).2.1 (U k).1).2 4 g2
      refine ⟨by simp only [q1], g3, ?_, ?_⟩
      · simp only
        split
        · exact q3
        · split
          · rw [link_len]; exact q3
          · exact q3
      · simp only
        split
        · exact q4
        · split
          · obtain ⟨w, hw⟩ := Int.eq_ofNat_of_zero_le g1.1
            have g4 := g1.2.1 (by omega)
            rw [hw]
            exact link_N0 q3 q4 (by omega) (by omega) (by omega)
          · exact q4
  obtain ⟨n1, n2, n3, n4⟩ := hU (M - 1) (by omega)
  refine ⟨(U (M - 1)).2.2, (U (M - 1)).2.1.1, (U (M - 1)).2.1.2, ⟨by omega, by rw [n3]; exact n4⟩, n2, k_spec_l9Draw ?_⟩
  unfold vc_spec_l9Draw
  have wx : IntKind.i64.wrap (1 + x) = (M : Int) := by rw [wrap_id] <;> omega
  refine ⟨_, _, _, rfl, cx, ?_⟩
  rw [wx]
  refine ⟨fun i h es n m => ∃ k : Nat, n = ((M - k : Nat) : Int) ∧ k ≤ M ∧ m = M - k ∧ i = (T k).1.1 ∧ h = (T k).1.2 ∧ es = nods (T k).2, ⟨M, rfl, rfl, 0, rfl, by omega, rfl, by rw [e0], by rw [e0], by rw [e0]; rfl⟩, ?_⟩
  rintro i h ees n m ⟨-, -, k, rfl, hk, rfl, rfl, rfl, rfl⟩
  obtain ⟨q1, q2, q3⟩ := hT k
  refine ⟨fun g => ?_, fun g => ?_⟩
  · have hlt : k < M := by have := of_decide_eq_true g; omega
    obtain ⟨g1, g2, g3⟩ := hf (T k).1 2 q1
    have hs := es k
    refine ⟨_, _, _, rfl, g3, ?_, ?_, trivial, M - (k + 1), by omega, rfl, rfl, k + 1, by rw [wrap_id] <;> omega, by omega, rfl, by rw [hs]; rfl, by rw [hs]; rfl, ?_⟩
    · rw [n_nodes, DV.n_eq]; simp; omega
    · rw [n_nodes, DV.n_eq]; simp; omega
    · rw [hs]
      exact nods_snoc (T k).2 (newN (f (T k).1 2).1)
  · have : k = M := by have := of_decide_eq_false g; omega
    subst this
    refine ⟨fun i h es n m => ∃ j : Nat, n = ((j + 1 : Nat) : Int) ∧ j + 1 ≤ k ∧ m = k - (j + 1) ∧ i = (U j).2.1.1 ∧ h = (U j).2.1.2 ∧ es = nods (U j).2.2, ⟨k - 1, rfl, rfl, 0, rfl, by omega, rfl, by rw [u0], by rw [u0], by rw [u0]⟩, ?_⟩
    rintro i h ees n m ⟨-, -, j, rfl, hj, rfl, rfl, rfl, rfl⟩
    obtain ⟨p1, p2, p3, p4⟩ := hU j hj
    have hs := us j
    simp only [nI, n_nodes]
    refine ⟨fun g2 => ?_, fun g2 => ?_⟩
    · have hlt : j + 1 < k := by have := of_decide_eq_true g2; omega
      obtain ⟨g3, g4, g5⟩ := hf (U j).2.1 (U j).1 p2
      obtain ⟨g6, g7⟩ := hfo (f (U j).2.1 (U j).1).2 4 g4
      have g8 := g3.2.1 (by omega)
      have hd : CallD Try.prog F_spec_DeepOf [rNs (U j).2.2, iS (f (U j).2.1 (U j).1).1] _ := c_DeepOfS (by omega) (by unfold I64; omega)
      have hA : DA (U j).2.2 := (DG.mk (by omega) (by rw [p3]; exact p4)).to
      have hL : CallD Try.prog F_spec_Link [rNs (U j).2.2, iS (f (U j).2.1 (U j).1).1, iS ((U j).1 : Nat)] _ := c_LinkS (by have := hA.tot; omega) hA.ok (by unfold I64; omega) (by unfold I64; omega)
      have w1 : IntKind.i64.wrap (((j + 1 : Nat) : Int) + 1) = ((j + 1 + 1 : Nat) : Int) := by rw [wrap_id] <;> omega
      rw [w1]
      rw [p1] at g5 hL
      unfold stepB9 at hs
      rw [p1] at g4 g7 hd
      simp only [p1] at hs
      refine ⟨_, _, _, rfl, g5, _, _, _, rfl, g7, fun g9 => ?_, fun g9 => ⟨_, hd, fun g10 => ⟨_, hL, ?_⟩, fun g10 => ?_⟩⟩
      · rw [g9] at hs
        exact ⟨trivial, k - (j + 1 + 1), by omega, trivial, trivial, j + 1, rfl, by omega, rfl, by rw [hs], by rw [hs], by rw [hs]; rfl⟩
      · rw [g9] at hs
        exact ⟨trivial, k - (j + 1 + 1), by omega, trivial, trivial, j + 1, rfl, by omega, rfl, by rw [hs], by rw [hs], by rw [hs]; simp only [Bool.false_eq_true, if_false]; rw [if_pos (of_decide_eq_true g10)]⟩
      · rw [g9] at hs
        exact ⟨trivial, k - (j + 1 + 1), by omega, trivial, trivial, j + 1, rfl, by omega, rfl, by rw [hs], by rw [hs], by rw [hs]; simp only [Bool.false_eq_true, if_false]; rw [if_neg (of_decide_eq_false g10)]⟩
    · have : j = k - 1 := by have := of_decide_eq_false g2; omega
      rw [this]
      exact ⟨rfl, rfl⟩
end Go.Proofs.Ythmpdfmdhfgaaaa
