/- Contracts of small functions: whether the objects lie in chunks of a region. -/
import Derived.Test.YtckcehmggdnliaaHL
namespace Go.Proofs.Ytckcehmggdnliaa
open Go Go.Proofs.Ytckcehmggdnliaa.DL
set_option maxRecDepth 100000

def loC (c : Conf) (t : Thing) : Int := IntKind.i64.wrap (t.pos.tdiv c.size)
def hiC (c : Conf) (t : Thing) : Int := IntKind.i64.wrap ((IntKind.i64.wrap (IntKind.i64.wrap (t.pos + t.len) - 1)).tdiv c.size)
def spanB (l : List Int) (lo hi : Int) : Bool := (List.range (hi + 1 - lo).toNat).all fun j : Nat => has l (lo + (j : Int))
theorem spanB_true {l : List Int} {lo hi : Int} (h : ∀ j : Nat, (j : Int) < hi + 1 - lo → has l (lo + (j : Int)) = true) : spanB l lo hi = true := by
  simp only [spanB, List.all_eq_true, List.mem_range]
  intro j hj
  exact h j (by omega)
theorem spanB_false {l : List Int} {lo hi : Int} {j : Nat} (hj : (j : Int) < hi + 1 - lo) (h : has l (lo + (j : Int)) = false) : spanB l lo hi = false := by
  cases e : spanB l lo hi with
  | false => rfl
  | true =>
    simp only [spanB, List.all_eq_true, List.mem_range] at e
    have := e j (by omega)
    rw [h] at this; cases this
def inB (c : Conf) (l : List Int) (t : Thing) : Bool := thingOk c t && spanB l (loC c t) (hiC c t)
theorem thingOk_size {c : Conf} {t : Thing} (h : thingOk c t = true) : 8 ≤ c.size ∧ 0 ≤ loC c t ∧ loC c t ≤ 192 ∧ 0 ≤ hiC c t ∧ hiC c t ≤ 192 := by
  simp only [thingOk, Bool.and_eq_true, decide_eq_true_eq] at h
  obtain ⟨h1, h2, h3, -⟩ := h
  have hb : bytesOf c ≤ 192 ∧ 8 ≤ c.size := by
    cases g : c.good with
    | true => have := bytesOf_good g; have := Conf.good_iff.1 g; omega
    | false => have := bytesOf_bad g; omega
  have a1 : 0 ≤ t.pos.tdiv c.size := Int.tdiv_nonneg h2 (by omega)
  have a2 : t.pos.tdiv c.size ≤ t.pos := Int.tdiv_le_self _ h2
  have w1 : IntKind.i64.wrap (t.pos + t.len) = t.pos + t.len := wrap_id (by omega) (by omega)
  have w2 : IntKind.i64.wrap (t.pos + t.len - 1) = t.pos + t.len - 1 := wrap_id (by omega) (by omega)
  have b1 : 0 ≤ (t.pos + t.len - 1).tdiv c.size := Int.tdiv_nonneg (by omega) (by omega)
  have b2 : (t.pos + t.len - 1).tdiv c.size ≤ t.pos + t.len - 1 := Int.tdiv_le_self _ (by omega)
  unfold loC hiC
  rw [w1, w2, wrap_id (n := t.pos.tdiv c.size) (by omega) (by omega), wrap_id (n := (t.pos + t.len - 1).tdiv c.size) (by omega) (by omega)]
  omega
theorem c_in1 (c : Conf) {n : Node} (hn : n.chunks.length ≤ M63) {t : Thing} (ht : t.ok) :
    CallD Try.prog F_impl_InChunks_1 (thingS t :: [[iV c.chunks, iV c.size, iV c.slots, iV c.tax, iV c.slice, iV c.gens], n.enc].map SV.rptr) fun r _ => r = bS (!inB c n.chunks t) := by
  refine k_impl_InChunks_1 ?_
  unfold vc_impl_InChunks_1 Node.enc
  simp only [hdD_cons, List.tail_cons, List.drop_succ_cons, List.drop_zero, asI_iV, isI_iV, isL_sl, es_sl]
  refine ⟨by simp, trivial, trivial, trivial, trivial, trivial, trivial, _, c_ThingOk c ht, fun h1 => ?_, fun h1 => bS_eq ?_⟩
  · obtain ⟨s1, s2, s3, s4, s5⟩ := thingOk_size h1
    have e0 : inB c n.chunks t = spanB n.chunks (loC c t) (hiC c t) := by unfold inB; rw [h1]; rfl
    rw [e0]
    change _ ∧ _ ∧ _ ∧ ∃ I : Int → Nat → Prop, (∃ n : Nat, I (loC c t) n) ∧ _
    refine ⟨by simp, trivial, by omega, fun i m => ∃ k : Nat, i = loC c t + k ∧ loC c t + k ≤ hiC c t + 1 + 200 ∧ m = (hiC c t + 400 - i).toNat ∧ ∀ j : Nat, j < k → has n.chunks (loC c t + (j : Int)) = true, ⟨_, 0, by simp, by omega, rfl, fun j hj => by omega⟩, ?_⟩
    rintro i m ⟨k, rfl, hk, rfl, hb⟩
    refine ⟨by simp, trivial, by omega, ?_⟩
    have eh : IntKind.i64.wrap ((IntKind.i64.wrap (IntKind.i64.wrap (t.pos + t.len) - 1)).tdiv c.size) = hiC c t := rfl
    rw [eh]
    generalize hiC c t = hi at *
    generalize loC c t = lo at *
    simp only [decide_eq_true_eq, decide_eq_false_iff_not]
    refine ⟨fun g1 => ⟨by simp, trivial, _, c_Contains hn _, fun g2 => ⟨⟨trivial, trivial, trivial⟩, (hi + 400 - (lo + (k : Int) + 1)).toNat, by omega, k + 1, by rw [wrap_id] <;> omega, by omega, by rw [wrap_id] <;> omega, fun j hj => ?_⟩, fun g2 => bS_eq ?_⟩, fun g1 => bS_eq ?_⟩
    · by_cases e : j = k
      · subst e; exact g2
      · exact hb j (by omega)
    · rw [spanB_false (j := k) (by omega) g2]; rfl
    · rw [spanB_true fun j hj => hb j (by omega)]; rfl
  · unfold inB; rw [h1]; rfl
def insB (c : Conf) (n : Node) : Bool := n.things.all (inB c n.chunks)
theorem c_InChunks (c : Conf) {n : Node} (hn : n.ok) (hs : n.sz ≤ 1048576) : CallD Try.prog F_impl_InChunks [confS c, rNode n] fun r _ => r = bS (insB c n) := by
  unfold Node.sz at hs
  have hthings : ∀ t ∈ n.things, t.ok := hn.2.2.2.2.2.2.2.2.2.2.2.1.2
  have h1 : n.chunks.length ≤ M63 := by unfold M63; omega
  have h2 : n.things.length ≤ M63 := by unfold M63; omega
  refine k_impl_InChunks ?_
  unfold vc_impl_InChunks
  have any := any_not (inB c n.chunks) n.things
  refine ⟨_, c_ContainsThing (p := fun t => !inB c n.chunks t) h2 (fun t ht => c_in1 c h1 (hthings t ht)), fun h => bS_eq ?_, fun h => bS_eq ?_⟩
  · rw [any] at h; simpa [insB] using h
  · rw [any] at h; simpa [insB] using h
theorem c_InChunksS (c : Conf) {n : Node} (hn : n.ok) (hs : n.sz ≤ 1048576) : CallD Try.prog F_spec_InChunks [confS c, rNode n] fun r _ => r = bS (insB c n) := by
  unfold Node.sz at hs
  have hthings : ∀ t ∈ n.things, t.ok := hn.2.2.2.2.2.2.2.2.2.2.2.1.2
  have h1 : n.chunks.length ≤ M63 := by unfold M63; omega
  refine k_spec_InChunks ?_
  unfold vc_spec_InChunks insB
  simp only [nI, n_things]
  generalize n.things = l at *
  refine ⟨fun i m => ∃ k : Nat, i = k ∧ k ≤ l.length ∧ m = l.length - k ∧ ∀ i (hi : i < l.length), i < k → inB c n.chunks l[i] = true, ⟨l.length, 0, rfl, Nat.zero_le _, rfl, fun j hj h => by omega⟩, ?_⟩
  rintro i m ⟨k, rfl, hk, rfl, ht⟩
  simp only [Int.toNat_natCast, decide_eq_true_eq (p := (k : Int) < l.length), decide_eq_false_iff_not (p := (k : Int) < l.length)]
  refine ⟨fun g1 => ?_, fun g1 => bS_eq ?_⟩
  · have ha : k < l.length := by omega
    simp only [drop_things ha, hdD_cons, List.tail_cons, isI_iV, asI_iV, wrap_id (n := (k : Int) + 1) (by omega) (by omega)]
    refine ⟨by omega, by omega, by simp, trivial, trivial, trivial, _, c_ThingOkS c (hthings _ (List.getElem_mem ha)), fun g2 => ?_, fun g2 => bS_eq ?_⟩
    · obtain ⟨s1, s2, s3, s4, s5⟩ := thingOk_size g2
      have e0 : inB c n.chunks l[k] = spanB n.chunks (loC c l[k]) (hiC c l[k]) := by unfold inB; rw [g2]; rfl
      refine ⟨by omega, fun i m => ∃ q : Nat, i = loC c l[k] + q ∧ loC c l[k] + q ≤ hiC c l[k] + 1 + 200 ∧ m = (hiC c l[k] + 400 - i).toNat ∧ ∀ j : Nat, j < q → has n.chunks (loC c l[k] + (j : Int)) = true, ⟨_, 0, by simp [loC], by omega, rfl, fun j hj => by omega⟩, ?_⟩
      rintro i m ⟨q, rfl, hq, rfl, hb⟩
      have eh : IntKind.i64.wrap ((IntKind.i64.wrap (IntKind.i64.wrap (l[k].pos + l[k].len) - 1)).tdiv c.size) = hiC c l[k] := rfl
      rw [eh]
      refine ⟨by omega, ?_⟩
      have all : spanB n.chunks (loC c l[k]) (hiC c l[k]) = true → ∀ j (hj : j < l.length), j < k + 1 → inB c n.chunks l[j] = true := fun g j hj hjk => by
        by_cases e : j = k
        · subst e; rw [e0]; exact g
        · exact ht j hj (by omega)
      have bad : spanB n.chunks (loC c l[k]) (hiC c l[k]) = false → l.all (inB c n.chunks) = false := fun g => all_false ha (by rw [e0]; exact g)
      generalize hiC c l[k] = hi at *
      generalize loC c l[k] = lo at *
      simp only [decide_eq_true_eq, decide_eq_false_iff_not]
      refine ⟨fun g3 => ⟨_, c_has h1 _, fun g4 => ⟨⟨trivial, trivial, trivial, trivial⟩, (hi + 400 - (lo + (q : Int) + 1)).toNat, by omega, q + 1, by rw [wrap_id] <;> omega, by omega, by rw [wrap_id] <;> omega, fun j hj => ?_⟩, fun g4 => bS_eq ?_⟩,
        fun g3 => ⟨⟨trivial, trivial⟩, l.length - (k + 1), by omega, k + 1, by omega, by omega, rfl, all (spanB_true fun j hj => hb j (by omega))⟩⟩
      · by_cases e : j = q
        · subst e; exact g4
        · exact hb j (by omega)
      · rw [bad (spanB_false (j := q) (by omega) g4)]
    · rw [all_false ha (by unfold inB; rw [g2]; rfl)]
  · rw [all_true fun i hi => ht i hi (by omega)]
end Go.Proofs.Ytckcehmggdnliaa
