/- Contracts of small functions: objects put, chunks added. -/
import Derived.Test.YthmpdfmdhfgaaaaHLM
import Derived.Test.YthmpdfmdhfgaaaaHP
import Derived.Test.YthmpdfmdhfgaaaaVHX
namespace Go.Proofs.Ythmpdfmdhfgaaaa
open Go Go.Proofs.Ythmpdfmdhfgaaaa.DL
set_option maxRecDepth 100000

/-- Numbers below n that are not among met. -/
def unmetN (n : Nat) (met : List Int) : Nat := ((List.range n).filter fun i : Nat => !has met (i : Int)).length
theorem has_snoc' (met : List Int) (k b : Int) : has (met ++ [k]) b = (has met b || decide (b = k)) := by simp [has]
theorem unmetN_lt {n : Nat} {met : List Int} {k : Int} (h1 : 0 ≤ k) (h2 : k < n) (hm : has met k = false) : unmetN n (met ++ [k]) < unmetN n met := by
  have hk : ((k.toNat : Nat) : Int) = k := Int.toNat_of_nonneg h1
  unfold unmetN
  have : ((List.range n).filter fun i : Nat => !has (met ++ [k]) (i : Int)) = ((List.range n).filter fun i : Nat => !has met (i : Int)).filter fun i => decide (i ≠ k.toNat) := by
    rw [List.filter_filter]
    congr 1
    funext i
    rw [has_snoc']
    by_cases e : i = k.toNat
    · subst e
      rw [hk, hm]; simp
    · have : ¬ (i : Int) = k := by omega
      simp [e, this]
  rw [this]
  refine List.length_filter_lt_length_iff_exists.2 ⟨k.toNat, List.mem_filter.2 ⟨List.mem_range.2 (by omega), ?_⟩, by simp⟩
  rw [hk, hm]; rfl
theorem distinct_le {l : List Int} {n : Nat} (h : ∀ i (hi : i < l.length), (0 ≤ l[i] ∧ l[i] < n) ∧ has (l.take i) l[i] = false) : l.length ≤ n := by
  have : ∀ k, k ≤ l.length → k + unmetN n (l.take k) ≤ n := by
    intro k
    induction k with
    | zero =>
      intro _
      have := List.length_filter_le (fun i : Nat => !has (l.take 0) (i : Int)) (List.range n)
      rw [List.length_range] at this
      unfold unmetN; omega
    | succ k ih =>
      intro hk
      have hk' : k < l.length := by omega
      obtain ⟨⟨h1, h2⟩, h3⟩ := h k hk'
      have := unmetN_lt h1 h2 h3
      rw [List.take_succ_eq_append_getElem hk']
      have := ih (by omega)
      omega
  have := this l.length (Nat.le_refl _)
  omega
theorem nodeOk_sz {c : Conf} {n : Node} (h : nodeOk c n = true) : n.sz ≤ 30 := by
  unfold nodeOk at h
  simp only [Bool.and_eq_true] at h
  obtain ⟨hc, -, -, h⟩ := h
  split at h
  · unfold liveB chunksB at h
    simp only [Bool.and_eq_true, decide_eq_true_eq] at h
    obtain ⟨-, -, -, -, -, -, ⟨hd, -⟩, ht, hg, -⟩ := h
    obtain ⟨⟨c1, c2⟩, -⟩ := Conf.good_iff.1 hc
    have hl : n.chunks.length ≤ 12 := distinct_le fun i hi => by
      obtain ⟨h1, h2⟩ := distB_iff.1 hd i hi
      rw [wrap_id (by omega) (by omega), within_iff] at h1
      exact ⟨by omega, h2⟩
    unfold Node.sz; omega
  · unfold bareB at h
    simp only [Bool.and_eq_true, decide_eq_true_eq] at h
    obtain ⟨-, -, -, -, -, -, h1, -, -, h2, h3⟩ := h
    unfold Node.sz
    rw [h1, h2, h3]; simp
abbrev tNB (n : Node) (b : Bool) : SV := .tup [.agg [iC n.st, iC n.gen, iC n.ep, iC n.up, iC n.upEp, iC n.first, iC n.next, iC n.prev, .own (.sl 1 (ints n.chunks)), iC n.cur, iC n.bump, .own (.sl 3 (thgs n.things)), .own (.sl 1 (ints n.tags))], .cell (bC b)]
theorem tNB_eq {n n' : Node} {b b' : Bool} (h : n = n') (h' : b = b') : tNB n b = tNB n' b' := by rw [h, h']
theorem n_one3 (a b c : Int) : (DV.sl 3 [iV a, iV b, iV c]).n = 1 := by rw [DV.n_eq]; simp
theorem thgs_snoc (l : List Thing) (a b c : Int) : thgs l ++ [iV a, iV b, iV c] = thgs (l ++ [⟨a, b, c⟩]) := flat_one Thing.enc l ⟨a, b, c⟩
def putSB (c : Conf) (n : Node) (sz al : Int) : Bool := spotB c n sz al && !decide ((12 : Int) ≤ n.things.length)
def putS (c : Conf) (n : Node) (sz al : Int) : Node :=
  if putSB c n sz al then { n with things := n.things ++ [⟨spotN c n sz al, sz, 0⟩], bump := IntKind.i64.wrap (spotN c n sz al + sz - (IntKind.i64.wrap (IntKind.i64.wrap (n.cur - 1) * c.size))) } else n
theorem putS_no {c : Conf} {n : Node} {sz al : Int} (h : putSB c n sz al = false) : tNB n false = tNB (putS c n sz al) (putSB c n sz al) := by
  unfold putS; rw [h]; rfl
theorem wrap_emod' (n : Int) : IntKind.i64.wrap n % 18446744073709551616 = n % 18446744073709551616 := by rw [wrapI]; split <;> omega
theorem wrap_mod' {a b : Int} (h : a % 18446744073709551616 = b % 18446744073709551616) : IntKind.i64.wrap a = IntKind.i64.wrap b := by rw [wrapI, wrapI, h]
theorem c_PutSmall (c : Conf) {n : Node} (hn : n.ok) (hs : n.sz ≤ 1048576) (sz al : Int) : CallD Try.prog F_impl_PutSmall [confS c, rNode n, iS sz, iS al] fun r _ => r = tNB (putS c n sz al) (putSB c n sz al) := by
  have hs' := hs
  unfold Node.sz at hs'
  refine k_impl_PutSmall ?_
  unfold vc_impl_PutSmall
  simp only [nI, n_things]
  refine ⟨_, _, _, _, _, _, _, _, _, _, _, _, _, c_copyNode hs, _, _, c_SpotIn c hn hs sz al, fun g => ⟨fun g1 => putS_no ?_, fun g1 => ⟨?_, ?_, ?_⟩⟩, fun g => putS_no ?_⟩
  · unfold putSB; rw [g1]; simp
  · rw [n_things, n_one3]; omega
  · rw [n_things, n_one3]; omega
  · have e : putSB c n sz al = true := by unfold putSB; rw [g, g1]; rfl
    unfold putS
    rw [e, if_pos rfl, thgs_snoc]
    have hb : IntKind.i64.wrap (IntKind.i64.wrap (spotN c n sz al + sz) - IntKind.i64.wrap (IntKind.i64.wrap (n.cur - 1) * c.size)) = IntKind.i64.wrap (spotN c n sz al + sz - IntKind.i64.wrap (IntKind.i64.wrap (n.cur - 1) * c.size)) := by
      refine wrap_mod' ?_
      have := wrap_emod' (spotN c n sz al + sz)
      omega
    rw [hb]
  · unfold putSB; rw [g]; rfl
theorem c_PutSmallS (c : Conf) {n : Node} (hn : n.ok) (hs : n.sz ≤ 1048576) (sz al : Int) : CallD Try.prog F_spec_PutSmall [confS c, rNode n, iS sz, iS al] fun r _ => r = tNB (putS c n sz al) (putSB c n sz al) := by
  have hs' := hs
  unfold Node.sz at hs'
  refine k_spec_PutSmall ?_
  unfold vc_spec_PutSmall
  simp only [nI, n_things]
  refine ⟨_, _, _, _, _, _, _, _, _, _, _, _, _, c_l7Copy hs, _, _, c_SpotInS c hn hs sz al, fun g => ⟨fun g1 => putS_no ?_, fun g1 => ⟨?_, ?_, ?_⟩⟩, fun g => putS_no ?_⟩
  · unfold putSB; rw [g1]; simp
  · rw [n_things, n_one3]; omega
  · rw [n_things, n_one3]; omega
  · have e : putSB c n sz al = true := by unfold putSB; rw [g, g1]; rfl
    unfold putS
    rw [e, if_pos rfl, thgs_snoc]
    have hb : IntKind.i64.wrap (IntKind.i64.wrap (spotN c n sz al - IntKind.i64.wrap (IntKind.i64.wrap (n.cur - 1) * c.size)) + sz) = IntKind.i64.wrap (spotN c n sz al + sz - IntKind.i64.wrap (IntKind.i64.wrap (n.cur - 1) * c.size)) := by
      refine wrap_mod' ?_
      have := wrap_emod' (spotN c n sz al - IntKind.i64.wrap (IntKind.i64.wrap (n.cur - 1) * c.size))
      omega
    rw [hb]
  · unfold putSB; rw [g]; rfl
theorem putS_sz {c : Conf} {n : Node} (hs : n.sz ≤ 1048576) (sz al : Int) : (putS c n sz al).sz ≤ 1048576 := by
  unfold putS
  split
  · rename_i h
    unfold putSB spotB mayB at h
    simp only [Bool.and_eq_true] at h
    have := nodeOk_sz h.1.1.1
    unfold Node.sz at this ⊢
    simp only [List.length_append, List.length_singleton]
    omega
  · exact hs
/-- A chunk added, if the node may be so. -/
def curB (c : Conf) (n : Node) (k : Int) : Bool := decide (n.st = 1) && (within k 0 (IntKind.i64.wrap (c.chunks - 1)) && nodeOk c { n with chunks := n.chunks ++ [k], cur := IntKind.i64.wrap (k + 1), bump := 0 })
def curN (c : Conf) (n : Node) (k : Int) : Node := if curB c n k then { n with chunks := n.chunks ++ [k], cur := IntKind.i64.wrap (k + 1), bump := 0 } else n
theorem curN_no {c : Conf} {n : Node} {k : Int} (h : curB c n k = false) : tNB n false = tNB (curN c n k) (curB c n k) := by
  unfold curN; rw [h]; rfl
theorem curN_yes {c : Conf} {n : Node} {k : Int} (h : curB c n k = true) : tNB { n with chunks := n.chunks ++ [k], cur := IntKind.i64.wrap (k + 1), bump := 0 } true = tNB (curN c n k) (curB c n k) := by
  unfold curN; rw [h]; rfl
theorem cur_ok {n : Node} (hn : n.ok) (hs : n.sz ≤ 1048576) {k : Int} (hk : I64 k) : ({ n with chunks := n.chunks ++ [k], cur := IntKind.i64.wrap (k + 1), bump := 0 } : Node).ok := by
  unfold Node.sz at hs
  obtain ⟨h1, h2, h3, h4, h5, h6, h7, h8, ⟨-, h9⟩, h10, h11, h12, h13⟩ := hn
  refine ⟨h1, h2, h3, h4, h5, h6, h7, h8, ⟨by simp; unfold M63; omega, fun a ha => ?_⟩, wrap_I64 _, (by show I64 0; unfold I64; omega), h12, h13⟩
  rcases List.mem_append.1 ha with ha | ha
  · exact h9 a ha
  · rw [List.mem_singleton.1 ha]; exact hk
theorem c_NewCur (c : Conf) {n : Node} (hn : n.ok) (hs : n.sz ≤ 1048576) {k : Int} (hk : I64 k) : CallD Try.prog F_impl_NewCur [confS c, rNode n, iS k] fun r _ => r = tNB (curN c n k) (curB c n k) := by
  have hs' := hs
  unfold Node.sz at hs'
  have ho : CallD Try.prog F_impl_NodeOk [confS c, aS [iC n.st, iC n.gen, iC n.ep, iC n.up, iC n.upEp, iC n.first, iC n.next, iC n.prev, .rd (.sl 1 (ints n.chunks ++ [iV k])), iC (IntKind.i64.wrap (k + 1)), iC 0, .rd (.sl 3 (thgs n.things)), .rd (.sl 1 (ints n.tags))]]
      fun r _ => r = bS (nodeOk c { n with chunks := n.chunks ++ [k], cur := IntKind.i64.wrap (k + 1), bump := 0 }) := by
    rw [ints_snoc]
    exact c_NodeOkX c (cur_ok hn hs hk) (by unfold Node.sz; simp only [List.length_append, List.length_singleton]; omega)
  refine k_impl_NewCur ?_
  unfold vc_impl_NewCur
  simp only [n_one]
  refine ⟨_, _, _, _, _, _, _, _, _, _, _, _, _, c_copyNode hs, fun g => curN_no ?_, fun g => ⟨_, c_within _ _ _, fun g1 => ⟨?_, ?_, _, ho, fun g2 => ?_, fun g2 => ⟨_, _, _, _, _, _, _, _, _, _, _, _, _, c_copyNode hs, curN_no ?_⟩⟩, fun g1 => curN_no ?_⟩⟩
  · have g : decide (n.st = 1) = false := by simpa using g
    unfold curB; rw [g]; rfl
  · simp only [ints_length, List.length_singleton]; omega
  · simp only [ints_length, List.length_singleton]; omega
  · have g : decide (n.st = 1) = true := by simpa using g
    rw [ints_snoc]
    exact curN_yes (by unfold curB; rw [g, g1, g2]; rfl)
  · unfold curB; rw [g2]; simp
  · unfold curB; rw [g1]; simp
theorem c_NewCurS (c : Conf) {n : Node} (hn : n.ok) (hs : n.sz ≤ 1048576) {k : Int} (hk : I64 k) : CallD Try.prog F_spec_NewCur [confS c, rNode n, iS k] fun r _ => r = tNB (curN c n k) (curB c n k) := by
  have hs' := hs
  unfold Node.sz at hs'
  have ho : CallD Try.prog F_spec_NodeOk [confS c, aS [iC n.st, iC n.gen, iC n.ep, iC n.up, iC n.upEp, iC n.first, iC n.next, iC n.prev, .rd (.sl 1 (ints n.chunks ++ [iV k])), iC (IntKind.i64.wrap (k + 1)), iC 0, .rd (.sl 3 (thgs n.things)), .rd (.sl 1 (ints n.tags))]]
      fun r _ => r = bS (nodeOk c { n with chunks := n.chunks ++ [k], cur := IntKind.i64.wrap (k + 1), bump := 0 }) := by
    rw [ints_snoc]
    exact c_NodeOkSX c (cur_ok hn hs hk) (by unfold Node.sz; simp only [List.length_append, List.length_singleton]; omega)
  refine k_spec_NewCur ?_
  unfold vc_spec_NewCur
  simp only [n_one]
  refine ⟨_, _, _, _, _, _, _, _, _, _, _, _, _, c_l7Copy hs, fun g => curN_no ?_, fun g => ⟨_, c_l1In _ _ _, fun g1 => ⟨?_, ?_, _, ho, fun g2 => ?_, fun g2 => ⟨_, _, _, _, _, _, _, _, _, _, _, _, _, c_l7Copy hs, curN_no ?_⟩⟩, fun g1 => curN_no ?_⟩⟩
  · have g : decide (n.st = 1) = false := by simpa using g
    unfold curB; rw [g]; rfl
  · simp only [ints_length, List.length_singleton]; omega
  · simp only [ints_length, List.length_singleton]; omega
  · have g : decide (n.st = 1) = true := by simpa using g
    rw [ints_snoc]
    exact curN_yes (by unfold curB; rw [g, g1, g2]; rfl)
  · unfold curB; rw [g2]; simp
  · unfold curB; rw [g1]; simp
theorem curN_sz {c : Conf} {n : Node} (hs : n.sz ≤ 1048576) (k : Int) : (curN c n k).sz ≤ 1048576 := by
  unfold curN
  split
  · rename_i h
    unfold curB at h
    simp only [Bool.and_eq_true] at h
    have := nodeOk_sz h.2.2
    omega
  · exact hs
end Go.Proofs.Ythmpdfmdhfgaaaa
