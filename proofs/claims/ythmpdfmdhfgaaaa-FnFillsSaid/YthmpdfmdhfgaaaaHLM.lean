/- Contracts of small functions: where objects are placed in a chunk. -/
import Derived.Test.YthmpdfmdhfgaaaaHIK
import Derived.Test.YthmpdfmdhfgaaaaVHLM
namespace Go.Proofs.Ythmpdfmdhfgaaaa
open Go Go.Proofs.Ythmpdfmdhfgaaaa.DL
set_option maxRecDepth 100000

abbrev tIB (n : Int) (b : Bool) : SV := .tup [.cell (iC n), .cell (bC b)]
theorem tIB_eq {n n' : Int} {b b' : Bool} (h : n = n') (h' : b = b') : tIB n b = tIB n' b' := by rw [h, h']
def alignB (a : Int) : Bool := decide (a = 1) || (decide (a = 2) || decide (a = 4))
theorem alignB_iff {a : Int} : alignB a = true ↔ a = 1 ∨ a = 2 ∨ a = 4 := by simp [alignB]
theorem c_isAlign (a : Int) : CallD Try.prog F_impl_isAlign [iS a] fun r _ => r = bS (alignB a) := by
  refine k_impl_isAlign ?_
  unfold vc_impl_isAlign
  refine ⟨fun h => bS_eq ?_, fun h => ⟨fun h' => bS_eq ?_, fun h' => ⟨fun h'' => bS_eq ?_, fun h'' => bS_eq ?_⟩⟩⟩ <;> simp_all [alignB]
theorem c_l1Align (a : Int) : CallD Try.prog F_spec_l1Align [iS a] fun r _ => r = bS (alignB a) := by
  refine k_spec_l1Align ?_
  unfold vc_spec_l1Align
  refine ⟨fun h => bS_eq ?_, fun h => ⟨fun h' => bS_eq ?_, fun h' => ⟨fun h'' => bS_eq ?_, fun h'' => bS_eq ?_⟩⟩⟩ <;> simp_all [alignB]
def alignUp (n al : Int) : Int := if within n 0 1000000000 && alignB al then IntKind.i64.wrap (IntKind.i64.wrap ((IntKind.i64.wrap (IntKind.i64.wrap (n + al) - 1)).tdiv al) * al) else 0
theorem c_AlignUp (a b : Int) : CallD Try.prog F_impl_AlignUp [iS a, iS b] fun r _ => r = iS (alignUp a b) := by
  refine k_impl_AlignUp ?_
  unfold vc_impl_AlignUp alignUp
  refine ⟨_, c_within _ _ _, fun h1 => ⟨_, c_isAlign _, fun h2 => ⟨?_, iS_eq ?_⟩, fun h2 => iS_eq ?_⟩, fun h1 => iS_eq ?_⟩
  · have := alignB_iff.1 h2; omega
  · rw [h1, h2]; rfl
  · rw [h1, h2]; rfl
  · rw [h1]; rfl
theorem c_AlignUpS (a b : Int) : CallD Try.prog F_spec_AlignUp [iS a, iS b] fun r _ => r = iS (alignUp a b) := by
  refine k_spec_AlignUp ?_
  unfold vc_spec_AlignUp alignUp
  refine ⟨_, c_l1In _ _ _, fun h1 => ⟨_, c_l1Align _, fun h2 => ⟨?_, iS_eq ?_⟩, fun h2 => iS_eq ?_⟩, fun h1 => iS_eq ?_⟩
  · have := alignB_iff.1 h2; omega
  · rw [h1, h2]; rfl
  · rw [h1, h2]; rfl
  · rw [h1]; rfl
def looseIn (c : Conf) (n : Node) : Int := if n.cur = 0 then 0 else if nodeOk c n then IntKind.i64.wrap (c.size - n.bump) else 0
theorem c_LooseIn (c : Conf) {n : Node} (hn : n.ok) (hs : n.sz ≤ 1048576) : CallD Try.prog F_impl_LooseIn [confS c, rNode n] fun r _ => r = iS (looseIn c n) := by
  refine k_impl_LooseIn ?_
  unfold vc_impl_LooseIn looseIn
  refine ⟨_, c_NodeOk c hn hs, fun g1 => ⟨fun g2 => iS_eq ?_, fun g2 => iS_eq ?_⟩, fun g1 => iS_eq ?_⟩
  · rw [if_pos (by simpa using g2)]
  · rw [if_neg (by simpa using g2), if_pos g1]
  · rw [g1]; split <;> rfl
theorem c_LooseInS (c : Conf) {n : Node} (hn : n.ok) (hs : n.sz ≤ 1048576) : CallD Try.prog F_spec_LooseIn [confS c, rNode n] fun r _ => r = iS (looseIn c n) := by
  refine k_spec_LooseIn ?_
  unfold vc_spec_LooseIn looseIn
  refine ⟨fun g1 => iS_eq ?_, fun g1 => ⟨_, c_NodeOkS c hn hs, fun g2 => iS_eq ?_, fun g2 => iS_eq ?_⟩⟩
  · rw [if_pos (by simpa using g1)]
  · rw [if_neg (by simpa using g1), if_pos g2]
  · rw [if_neg (by simpa using g1), g2]; rfl
def mayB (c : Conf) (n : Node) (sz al : Int) : Bool := nodeOk c n && (within sz 1 c.size && (alignB al && !decide (n.cur = 0)))
def spotB (c : Conf) (n : Node) (sz al : Int) : Bool := mayB c n sz al && decide (IntKind.i64.wrap (alignUp n.bump al + sz) ≤ c.size)
def spotN (c : Conf) (n : Node) (sz al : Int) : Int := if spotB c n sz al then IntKind.i64.wrap (IntKind.i64.wrap (IntKind.i64.wrap (n.cur - 1) * c.size) + alignUp n.bump al) else 0
theorem c_spot (c : Conf) {n : Node} (hn : n.ok) (hs : n.sz ≤ 1048576) (sz al : Int) : CallD Try.prog F_impl_spot [confS c, rNode n, iS sz, iS al] fun r _ => r = tIB (if mayB c n sz al then alignUp n.bump al else 0) (spotB c n sz al) := by
  refine k_impl_spot ?_
  unfold vc_impl_spot
  have no : mayB c n sz al = false → tIB 0 false = tIB (if mayB c n sz al then alignUp n.bump al else 0) (spotB c n sz al) := fun h => by unfold spotB; rw [h]; rfl
  refine ⟨_, c_NodeOk c hn hs, fun g1 => ⟨_, c_within _ _ _, fun g2 => ⟨_, c_isAlign _, fun g3 => ⟨fun g4 => no ?_, fun g4 => ⟨_, c_AlignUp _ _, fun g5 => tIB_eq ?_ ?_, fun g5 => tIB_eq ?_ ?_⟩⟩, fun g3 => no ?_⟩, fun g2 => no ?_⟩, fun g1 => no ?_⟩
  · simp [mayB, g4]
  · simp [mayB, g1, g2, g3, g4]
  · simp [spotB, mayB, g1, g2, g3, g4, g5]
  · simp [mayB, g1, g2, g3, g4]
  · simp [spotB, g5]
  · simp [mayB, g3]
  · simp [mayB, g2]
  · simp [mayB, g1]
theorem c_SpotIn (c : Conf) {n : Node} (hn : n.ok) (hs : n.sz ≤ 1048576) (sz al : Int) : CallD Try.prog F_impl_SpotIn [confS c, rNode n, iS sz, iS al] fun r _ => r = tIB (spotN c n sz al) (spotB c n sz al) := by
  refine k_impl_SpotIn ?_
  unfold vc_impl_SpotIn spotN
  refine ⟨_, _, c_spot c hn hs sz al, fun g => tIB_eq ?_ g.symm, fun g => tIB_eq ?_ g.symm⟩
  · have : mayB c n sz al = true := by
      unfold spotB at g
      rw [Bool.and_eq_true] at g
      exact g.1
    rw [if_pos g, if_pos this]
  · rw [g]; rfl
theorem c_SpotInS (c : Conf) {n : Node} (hn : n.ok) (hs : n.sz ≤ 1048576) (sz al : Int) : CallD Try.prog F_spec_SpotIn [confS c, rNode n, iS sz, iS al] fun r _ => r = tIB (spotN c n sz al) (spotB c n sz al) := by
  refine k_spec_SpotIn ?_
  unfold vc_spec_SpotIn spotN
  have no : spotB c n sz al = false → tIB 0 false = tIB (if spotB c n sz al then IntKind.i64.wrap (IntKind.i64.wrap (IntKind.i64.wrap (n.cur - 1) * c.size) + alignUp n.bump al) else 0) (spotB c n sz al) := fun h => by rw [h]; rfl
  refine ⟨_, c_NodeOkS c hn hs, fun g1 => ⟨fun g4 => no ?_, fun g4 => ⟨_, c_l1In _ _ _, fun g2 => ⟨_, c_l1Align _, fun g3 => ⟨_, c_AlignUpS _ _, fun g5 => no ?_, fun g5 => tIB_eq ?_ ?_⟩, fun g3 => no ?_⟩, fun g2 => no ?_⟩⟩, fun g1 => no ?_⟩
  · simp [spotB, mayB, g4]
  · simp only [decide_eq_true_eq] at g5
    have : decide (IntKind.i64.wrap (alignUp n.bump al + sz) ≤ c.size) = false := by simp only [decide_eq_false_iff_not]; omega
    simp [spotB, this]
  · simp only [decide_eq_false_iff_not] at g5
    have : decide (IntKind.i64.wrap (alignUp n.bump al + sz) ≤ c.size) = true := by simp only [decide_eq_true_eq]; omega
    simp [spotB, mayB, g1, g2, g3, g4, this]
  · simp only [decide_eq_false_iff_not] at g5
    have : decide (IntKind.i64.wrap (alignUp n.bump al + sz) ≤ c.size) = true := by simp only [decide_eq_true_eq]; omega
    simp [spotB, mayB, g1, g2, g3, g4, this]
  · simp [spotB, mayB, g3]
  · simp [spotB, mayB, g2]
  · simp [spotB, mayB, g1]
def needsB (c : Conf) (n : Node) (sz al : Int) : Bool := nodeOk c n && (decide (n.st = 1) && (within sz 1 c.size && (alignB al && !spotB c n sz al)))
theorem c_NeedsChunk (c : Conf) {n : Node} (hn : n.ok) (hs : n.sz ≤ 1048576) (sz al : Int) : CallD Try.prog F_impl_NeedsChunk [confS c, rNode n, iS sz, iS al] fun r _ => r = bS (needsB c n sz al) := by
  refine k_impl_NeedsChunk ?_
  unfold vc_impl_NeedsChunk
  refine ⟨_, _, c_SpotIn c hn hs sz al, fun g0 => ⟨_, c_NodeOk c hn hs, fun g1 => ⟨fun g2 => ⟨_, c_within _ _ _, fun g3 => ⟨_, c_isAlign _, fun g4 => bS_eq ?_, fun g4 => bS_eq ?_⟩, fun g3 => bS_eq ?_⟩, fun g2 => bS_eq ?_⟩, fun g1 => bS_eq ?_⟩,
    fun g0 => ⟨_, c_NodeOk c hn hs, fun g1 => ⟨fun g2 => ⟨_, c_within _ _ _, fun g3 => ⟨_, c_isAlign _, fun g4 => bS_eq ?_, fun g4 => bS_eq ?_⟩, fun g3 => bS_eq ?_⟩, fun g2 => bS_eq ?_⟩, fun g1 => bS_eq ?_⟩⟩ <;> simp_all [needsB]
theorem c_NeedsChunkS (c : Conf) {n : Node} (hn : n.ok) (hs : n.sz ≤ 1048576) (sz al : Int) : CallD Try.prog F_spec_NeedsChunk [confS c, rNode n, iS sz, iS al] fun r _ => r = bS (needsB c n sz al) := by
  refine k_spec_NeedsChunk ?_
  unfold vc_spec_NeedsChunk
  refine ⟨_, _, c_SpotInS c hn hs sz al, fun g0 => bS_eq ?_, fun g0 => ⟨_, c_NodeOkS c hn hs, fun g1 => ⟨fun g2 => ⟨_, c_l1In _ _ _, fun g3 => ⟨_, c_l1Align _, fun g4 => bS_eq ?_, fun g4 => bS_eq ?_⟩, fun g3 => bS_eq ?_⟩, fun g2 => bS_eq ?_⟩, fun g1 => bS_eq ?_⟩⟩ <;> simp_all [needsB]

def loC (c : Conf) (t : Thing) : Int := IntKind.i64.wrap (t.pos.tdiv c.size)
def hiC (c : Conf) (t : Thing) : Int := IntKind.i64.wrap ((IntKind.i64.wrap (IntKind.i64.wrap (t.pos + t.len) - 1)).tdiv c.size)
def spanB (l : List Int) (lo hi : Int) : Bool := (List.range (hi + 1 - lo).toNat).all fun j : Nat => has l (lo + (j : Int))
theorem spanB_true {l : List Int} {lo hi : Int} (h : ∀ j : Nat, (j : Int) < hi + 1 - lo → has l (lo + (j : Int)) = true) : spanB l lo hi = true := by
  simp only [spanB, List.all_eq_true, List.mem_range]
  intro j hj
  exact h j (by omega)
theorem spanB_false {l : List Int} {lo hi : Int} {j : Nat} (hj : (j : Int) < hi + 1 - lo) (h : has l (lo + (j : Int)) = false) : spanB l lo hi = false := by
  cases e : spanB l lo hi with
  | false => rfl
  | true =>
    simp only [spanB, List.all_eq_true, List.mem_range] at e
    have := e j (by omega)
    rw [h] at this; cases this
def inB (c : Conf) (l : List Int) (t : Thing) : Bool := thingOk c t && spanB l (loC c t) (hiC c t)
theorem thingOk_size {c : Conf} {t : Thing} (h : thingOk c t = true) : 8 ≤ c.size ∧ 0 ≤ loC c t ∧ loC c t ≤ 192 ∧ 0 ≤ hiC c t ∧ hiC c t ≤ 192 := by
  simp only [thingOk, Bool.and_eq_true, decide_eq_true_eq] at h
  obtain ⟨h1, h2, h3, -⟩ := h
  have hb : bytesOf c ≤ 192 ∧ 8 ≤ c.size := by
    cases g : c.good with
    | true => have := bytesOf_good g; have := Conf.good_iff.1 g; omega
    | false => have := bytesOf_bad g; omega
  have a1 : 0 ≤ t.pos.tdiv c.size := Int.tdiv_nonneg h2 (by omega)
  have a2 : t.pos.tdiv c.size ≤ t.pos := Int.tdiv_le_self _ h2
  have w1 : IntKind.i64.wrap (t.pos + t.len) = t.pos + t.len := wrap_id (by omega) (by omega)
  have w2 : IntKind.i64.wrap (t.pos + t.len - 1) = t.pos + t.len - 1 := wrap_id (by omega) (by omega)
  have b1 : 0 ≤ (t.pos + t.len - 1).tdiv c.size := Int.tdiv_nonneg (by omega) (by omega)
  have b2 : (t.pos + t.len - 1).tdiv c.size ≤ t.pos + t.len - 1 := Int.tdiv_le_self _ (by omega)
  unfold loC hiC
  rw [w1, w2, wrap_id (n := t.pos.tdiv c.size) (by omega) (by omega), wrap_id (n := (t.pos + t.len - 1).tdiv c.size) (by omega) (by omega)]
  omega
theorem c_in1 (c : Conf) {n : Node} (hn : n.chunks.length ≤ M63) {t : Thing} (ht : t.ok) :
    CallD Try.prog F_impl_InChunks_1 (thingS t :: [[iV c.chunks, iV c.size, iV c.slots, iV c.tax, iV c.slice, iV c.gens], n.enc].map SV.rptr) fun r _ => r = bS (!inB c n.chunks t) := by
  refine k_impl_InChunks_1 ?_
  unfold vc_impl_InChunks_1 Node.enc
  simp only [hdD_cons, List.tail_cons, List.drop_succ_cons, List.drop_zero, asI_iV, isI_iV, isL_sl, es_sl]
  refine ⟨by simp, trivial, trivial, trivial, trivial, trivial, trivial, _, c_ThingOk c ht, fun h1 => ?_, fun h1 => bS_eq ?_⟩
  · obtain ⟨s1, s2, s3, s4, s5⟩ := thingOk_size h1
    have e0 : inB c n.chunks t = spanB n.chunks (loC c t) (hiC c t) := by unfold inB; rw [h1]; rfl
    rw [e0]
    change _ ∧ _ ∧ _ ∧ ∃ I : Int → Nat → Prop, (∃ n : Nat, I (loC c t) n) ∧ _
    refine ⟨by simp, trivial, by omega, fun i m => ∃ k : Nat, i = loC c t + k ∧ loC c t + k ≤ hiC c t + 1 + 200 ∧ m = (hiC c t + 400 - i).toNat ∧ ∀ j : Nat, j < k → has n.chunks (loC c t + (j : Int)) = true, ⟨_, 0, by simp, by omega, rfl, fun j hj => by omega⟩, ?_⟩
    rintro i m ⟨k, rfl, hk, rfl, hb⟩
    refine ⟨by simp, trivial, by omega, ?_⟩
    have eh : IntKind.i64.wrap ((IntKind.i64.wrap (IntKind.i64.wrap (t.pos + t.len) - 1)).tdiv c.size) = hiC c t := rfl
    rw [eh]
    generalize hiC c t = hi at *
    generalize loC c t = lo at *
    simp only [decide_eq_true_eq, decide_eq_false_iff_not]
    refine ⟨fun g1 => ⟨by simp, trivial, _, c_Contains hn _, fun g2 => ⟨⟨trivial, trivial, trivial⟩, (hi + 400 - (lo + (k : Int) + 1)).toNat, by omega, k + 1, by rw [wrap_id] <;> omega, by omega, by rw [wrap_id] <;> omega, fun j hj => ?_⟩, fun g2 => bS_eq ?_⟩, fun g1 => bS_eq ?_⟩
    · by_cases e : j = k
      · subst e; exact g2
      · exact hb j (by omega)
    · rw [spanB_false (j := k) (by omega) g2]; rfl
    · rw [spanB_true fun j hj => hb j (by omega)]; rfl
  · unfold inB; rw [h1]; rfl
def insB (c : Conf) (n : Node) : Bool := n.things.all (inB c n.chunks)
theorem c_InChunks (c : Conf) {n : Node} (hn : n.ok) (hs : n.sz ≤ 1048576) : CallD Try.prog F_impl_InChunks [confS c, rNode n] fun r _ => r = bS (insB c n) := by
  unfold Node.sz at hs
  have hthings : ∀ t ∈ n.things, t.ok := hn.2.2.2.2.2.2.2.2.2.2.2.1.2
  have h1 : n.chunks.length ≤ M63 := by unfold M63; omega
  have h2 : n.things.length ≤ M63 := by unfold M63; omega
  refine k_impl_InChunks ?_
  unfold vc_impl_InChunks
  have any := any_not (inB c n.chunks) n.things
  refine ⟨_, c_ContainsThing (p := fun t => !inB c n.chunks t) h2 (fun t ht => c_in1 c h1 (hthings t ht)), fun h => bS_eq ?_, fun h => bS_eq ?_⟩
  · rw [any] at h; simpa [insB] using h
  · rw [any] at h; simpa [insB] using h
theorem c_InChunksS (c : Conf) {n : Node} (hn : n.ok) (hs : n.sz ≤ 1048576) : CallD Try.prog F_spec_InChunks [confS c, rNode n] fun r _ => r = bS (insB c n) := by
  unfold Node.sz at hs
  have hthings : ∀ t ∈ n.things, t.ok := hn.2.2.2.2.2.2.2.2.2.2.2.1.2
  have h1 : n.chunks.length ≤ M63 := by unfold M63; omega
  refine k_spec_InChunks ?_
  unfold vc_spec_InChunks insB
  simp only [nI, n_things]
  generalize n.things = l at *
  refine ⟨fun i m => ∃ k : Nat, i = k ∧ k ≤ l.length ∧ m = l.length - k ∧ ∀ i (hi : i < l.length), i < k → inB c n.chunks l[i] = true, ⟨l.length, 0, rfl, Nat.zero_le _, rfl, fun j hj h => by omega⟩, ?_⟩
  rintro i m ⟨k, rfl, hk, rfl, ht⟩
  simp only [Int.toNat_natCast, decide_eq_true_eq (p := (k : Int) < l.length), decide_eq_false_iff_not (p := (k : Int) < l.length)]
  refine ⟨fun g1 => ?_, fun g1 => bS_eq ?_⟩
  · have ha : k < l.length := by omega
    simp only [drop_things ha, hdD_cons, List.tail_cons, isI_iV, asI_iV, wrap_id (n := (k : Int) + 1) (by omega) (by omega)]
    refine ⟨by omega, by omega, by simp, trivial, trivial, trivial, _, c_ThingOkS c (hthings _ (List.getElem_mem ha)), fun g2 => ?_, fun g2 => bS_eq ?_⟩
    · obtain ⟨s1, s2, s3, s4, s5⟩ := thingOk_size g2
      have e0 : inB c n.chunks l[k] = spanB n.chunks (loC c l[k]) (hiC c l[k]) := by unfold inB; rw [g2]; rfl
      refine ⟨by omega, fun i m => ∃ q : Nat, i = loC c l[k] + q ∧ loC c l[k] + q ≤ hiC c l[k] + 1 + 200 ∧ m = (hiC c l[k] + 400 - i).toNat ∧ ∀ j : Nat, j < q → has n.chunks (loC c l[k] + (j : Int)) = true, ⟨_, 0, by simp [loC], by omega, rfl, fun j hj => by omega⟩, ?_⟩
      rintro i m ⟨q, rfl, hq, rfl, hb⟩
      have eh : IntKind.i64.wrap ((IntKind.i64.wrap (IntKind.i64.wrap (l[k].pos + l[k].len) - 1)).tdiv c.size) = hiC c l[k] := rfl
      rw [eh]
      refine ⟨by omega, ?_⟩
      have all : spanB n.chunks (loC c l[k]) (hiC c l[k]) = true → ∀ j (hj : j < l.length), j < k + 1 → inB c n.chunks l[j] = true := fun g j hj hjk => by
        by_cases e : j = k
        · subst e; rw [e0]; exact g
        · exact ht j hj (by omega)
      have bad : spanB n.chunks (loC c l[k]) (hiC c l[k]) = false → l.all (inB c n.chunks) = false := fun g => all_false ha (by rw [e0]; exact g)
      generalize hiC c l[k] = hi at *
      generalize loC c l[k] = lo at *
      simp only [decide_eq_true_eq, decide_eq_false_iff_not]
      refine ⟨fun g3 => ⟨_, c_has h1 _, fun g4 => ⟨⟨trivial, trivial, trivial, trivial⟩, (hi + 400 - (lo + (q : Int) + 1)).toNat, by omega, q + 1, by rw [wrap_id] <;> omega, by omega, by rw [wrap_id] <;> omega, fun j hj => ?_⟩, fun g4 => bS_eq ?_⟩,
        fun g3 => ⟨⟨trivial, trivial⟩, l.length - (k + 1), by omega, k + 1, by omega, by omega, rfl, all (spanB_true fun j hj => hb j (by omega))⟩⟩
      · by_cases e : j = q
        · subst e; exact g4
        · exact hb j (by omega)
      · rw [bad (spanB_false (j := q) (by omega) g4)]
    · rw [all_false ha (by unfold inB; rw [g2]; rfl)]
  · rw [all_true fun i hi => ht i hi (by omega)]
end Go.Proofs.Ythmpdfmdhfgaaaa
