/- Where objects are put: what holds of a room when something has been put into it. -/
import Derived.Test.YthmpdfmdhfgaaaaHSc
namespace Go.Proofs.Ythmpdfmdhfgaaaa
open Go Go.Proofs.Ythmpdfmdhfgaaaa.DL
set_option maxRecDepth 100000

theorem nodeOk_live {c : Conf} {n : Node} (h : nodeOk c n = true) (hc : n.cur ≠ 0) : c.good = true ∧ n.st = 1 ∧ within n.gen 1 c.gens = true ∧ liveB c n = true := by
  unfold nodeOk at h
  simp only [Bool.and_eq_true] at h
  obtain ⟨h1, -, h3, h4⟩ := h
  by_cases e : n.st = 1
  · rw [if_pos e] at h4
    exact ⟨h1, e, h3, h4⟩
  · rw [if_neg e] at h4
    unfold bareB at h4
    simp only [Bool.and_eq_true, decide_eq_true_eq] at h4
    exact absurd h4.2.2.2.2.2.2.2.1 hc
theorem nodeOk_of_live {c : Conf} {n : Node} (h1 : c.good = true) (h2 : n.st = 1) (h3 : within n.gen 1 c.gens = true) (h4 : liveB c n = true) : nodeOk c n = true := by
  unfold nodeOk
  rw [h1, if_pos h2, h3, h4, within_iff.2 (by omega)]
  rfl
theorem div_chunk {k s o : Int} (hs : 0 < s) (ho : 0 ≤ o) (ho' : o < s) (hk : 0 ≤ k) : (k * s + o).tdiv s = k := by
  have hm : 0 ≤ k * s := Int.mul_nonneg hk (by omega)
  rw [Int.tdiv_eq_ediv_of_nonneg (by omega), Int.add_comm, Int.add_mul_ediv_right _ _ (by omega), Int.ediv_eq_zero_of_lt ho ho', Int.zero_add]
/-- An object in one chunk. -/
theorem thing_chunk {c : Conf} (hg : c.good = true) {k o sz : Int} (hk : 0 ≤ k) (hk' : k < c.chunks) (ho : 0 ≤ o) (hz : 1 ≤ sz) (hoz : o + sz ≤ c.size) :
    thingOk c ⟨k * c.size + o, sz, 0⟩ = true ∧ loC c ⟨k * c.size + o, sz, 0⟩ = k ∧ hiC c ⟨k * c.size + o, sz, 0⟩ = k := by
  obtain ⟨hb, -, -⟩ := bytesOf_good hg
  obtain ⟨⟨h1, h2⟩, ⟨h3, h4⟩, -⟩ := Conf.good_iff.1 hg
  have m0 : 0 ≤ k * c.size := Int.mul_nonneg hk (by omega)
  have m1 : (k + 1) * c.size ≤ c.chunks * c.size := Int.mul_le_mul_of_nonneg_right (by omega) (by omega)
  have m2 : c.chunks * c.size ≤ 12 * 16 := Int.mul_le_mul h2 h4 (by omega) (by omega)
  rw [Int.add_mul, Int.one_mul] at m1
  have d1 : (k * c.size + o).tdiv c.size = k := div_chunk (by omega) ho (by omega) hk
  have d2 : (k * c.size + (o + sz - 1)).tdiv c.size = k := div_chunk (by omega) (by omega) (by omega) hk
  have e1 : IntKind.i64.wrap (k * c.size + o + sz) = k * c.size + o + sz := wrap_id (by omega) (by omega)
  have e2 : IntKind.i64.wrap (k * c.size + o + sz - 1) = k * c.size + (o + sz - 1) := by rw [wrap_id (by omega) (by omega)]; omega
  have e3 : IntKind.i64.wrap k = k := wrap_id (by omega) (by omega)
  refine ⟨?_, ?_, ?_⟩
  · unfold thingOk sameChunk
    simp only [e1, e2, d1, d2, hb, decide_true, Bool.and_true, if_true, Bool.and_eq_true, decide_eq_true_eq]
    omega
  · unfold loC; simp only [d1, e3]
  · unfold hiC; simp only [e1, e2, d2, e3]
/-- The place that is found. -/
structure Spot (c : Conf) (n : Node) (sz al off : Int) : Prop where
  good : c.good = true
  st : n.st = 1
  gen : within n.gen 1 c.gens = true
  live : liveB c n = true
  cur : 1 ≤ n.cur ∧ n.cur ≤ c.chunks
  hasC : has n.chunks (n.cur - 1) = true
  sz1 : 1 ≤ sz
  lo : 0 ≤ n.bump ∧ n.bump ≤ off
  hi : off < n.bump + al
  fit : off + sz ≤ c.size
  als : al = 1 ∨ al = 2 ∨ al = 4
  mod : off.tmod al = 0
  no : spotN c n sz al = (n.cur - 1) * c.size + off
theorem spot_of {c : Conf} {n : Node} (hn : n.ok) {sz al : Int} (h : spotB c n sz al = true) : Spot c n sz al (alignUp n.bump al) := by
  have hS := h
  unfold spotB mayB at h
  simp only [Bool.and_eq_true, Bool.not_eq_true', decide_eq_true_eq, decide_eq_false_iff_not] at h
  obtain ⟨⟨h1, h2, h3, h4⟩, h5⟩ := h
  obtain ⟨g1, g2, g3, g4⟩ := nodeOk_live h1 h4
  have hlive := g4
  unfold liveB chunksB at g4
  simp only [Bool.and_eq_true] at g4
  obtain ⟨-, -, -, -, -, -, ⟨g5, g6⟩, -⟩ := g4
  rw [if_neg h4, Bool.and_eq_true] at g6
  obtain ⟨g6, g7⟩ := g6
  obtain ⟨⟨c1, c2⟩, ⟨c3, c4⟩, -⟩ := Conf.good_iff.1 g1
  have hcur : I64 n.cur := hn.2.2.2.2.2.2.2.2.2.1
  unfold I64 at hcur
  obtain ⟨x, hx, hx2⟩ := List.any_eq_true.1 g6
  obtain ⟨i, hi, rfl⟩ := List.mem_iff_getElem.1 hx
  have g8 := within_iff.1 (distB_iff.1 g5 i hi).1
  rw [← of_decide_eq_true hx2, wrap_id (n := c.chunks - 1) (by omega) (by omega)] at g8
  have hw : IntKind.i64.wrap (n.cur - 1) = n.cur - 1 := by
    by_cases e : n.cur = -9223372036854775808
    · rw [e] at g8
      have : IntKind.i64.wrap (-9223372036854775808 - 1) = 9223372036854775807 := by decide
      omega
    · exact wrap_id (by omega) (by omega)
  rw [hw] at g8 g6
  have g9 := within_iff.1 g7
  have h2' := within_iff.1 h2
  have hal := alignB_iff.1 h3
  have hoff : n.bump ≤ alignUp n.bump al ∧ alignUp n.bump al < n.bump + al ∧ (alignUp n.bump al).tmod al = 0 := by
    unfold alignUp
    rw [if_pos (by rw [h3, within_iff.2 (by omega)]; rfl)]
    rw [wrap_id (n := n.bump + al) (by omega) (by omega), wrap_id (n := n.bump + al - 1) (by omega) (by omega), Int.tdiv_eq_ediv_of_nonneg (by omega)]
    rcases hal with rfl | rfl | rfl
    · rw [wrap_id (n := (n.bump + 1 - 1) / 1) (by omega) (by omega), wrap_id (by omega) (by omega), Int.tmod_eq_emod_of_nonneg (by omega)]; omega
    · rw [wrap_id (n := (n.bump + 2 - 1) / 2) (by omega) (by omega), wrap_id (by omega) (by omega), Int.tmod_eq_emod_of_nonneg (by omega)]; omega
    · rw [wrap_id (n := (n.bump + 4 - 1) / 4) (by omega) (by omega), wrap_id (by omega) (by omega), Int.tmod_eq_emod_of_nonneg (by omega)]; omega
  obtain ⟨o1, o2, o3⟩ := hoff
  rw [wrap_id (by omega) (by omega)] at h5
  have m0 : 0 ≤ (n.cur - 1) * c.size := Int.mul_nonneg (by omega) (by omega)
  have m1 : (n.cur - 1) * c.size ≤ 12 * 16 := Int.mul_le_mul (by omega) c4 (by omega) (by omega)
  refine ⟨g1, g2, g3, hlive, by omega, g6, h2'.1, ⟨g9.1, o1⟩, o2, h5, hal, o3, ?_⟩
  unfold spotN
  rw [if_pos hS, hw, wrap_id (n := (n.cur - 1) * c.size) (by omega) (by omega), wrap_id (by omega) (by omega)]
theorem liveB_put {c : Conf} {n : Node} (h : liveB c n = true) (hc : n.cur ≠ 0) {t : Thing} {b : Int} (ht : thingOk c t = true) (hl : n.things.length + 1 ≤ 12) (hb : 0 ≤ b ∧ b ≤ c.size) :
    liveB c { n with things := n.things ++ [t], bump := b } = true := by
  unfold liveB chunksB at h ⊢
  simp only [Bool.and_eq_true] at h ⊢
  obtain ⟨h1, h2, h3, h4, h5, h6, ⟨h7, h8⟩, h9, h10, h11, h12⟩ := h
  rw [if_neg hc, Bool.and_eq_true] at h8
  refine ⟨h1, h2, h3, h4, h5, h6, ⟨h7, ?_⟩, ?_, h10, ?_, h12⟩
  · rw [if_neg hc, h8.1, within_iff.2 hb]; rfl
  · simp only [List.length_append, List.length_singleton, decide_eq_true_eq]; omega
  · rw [List.all_append, h11, List.all_cons, ht]; rfl
/-- A small object put. -/
structure Put (c : Conf) (n : Node) (sz al off : Int) : Prop where
  spot : Spot c n sz al off
  len : n.things.length < 12
  node : putS c n sz al = { n with things := n.things ++ [⟨(n.cur - 1) * c.size + off, sz, 0⟩], bump := off + sz }
  ok : nodeOk c (putS c n sz al) = true
  loose : looseIn c (putS c n sz al) = IntKind.i64.wrap (c.size - (off + sz))
  ins : insB c (putS c n sz al) = insB c n
  base : 0 ≤ (n.cur - 1) * c.size ∧ (n.cur - 1) * c.size ≤ 192
theorem put_of {c : Conf} {n : Node} (hn : n.ok) {sz al : Int} (h : putSB c n sz al = true) : Put c n sz al (alignUp n.bump al) := by
  have h' := h
  unfold putSB at h'
  simp only [Bool.and_eq_true, Bool.not_eq_true', decide_eq_false_iff_not] at h'
  have hS := spot_of hn h'.1
  generalize alignUp n.bump al = off at hS ⊢
  obtain ⟨⟨c1, c2⟩, ⟨c3, c4⟩, -⟩ := Conf.good_iff.1 hS.good
  have hcu := hS.cur
  have hsz := hS.sz1
  have hlo := hS.lo
  have hft := hS.fit
  have hc0 : n.cur ≠ 0 := by omega
  obtain ⟨t1, t2, t3⟩ := thing_chunk hS.good (k := n.cur - 1) (o := off) (sz := sz) (by omega) (by omega) (by omega) hS.sz1 hS.fit
  have m0 : 0 ≤ (n.cur - 1) * c.size := Int.mul_nonneg (by omega) (by omega)
  have m1 : (n.cur - 1) * c.size ≤ 12 * 16 := Int.mul_le_mul (by omega) c4 (by omega) (by omega)
  have hnode : putS c n sz al = { n with things := n.things ++ [⟨(n.cur - 1) * c.size + off, sz, 0⟩], bump := off + sz } := by
    unfold putS
    rw [if_pos h, hS.no, wrap_id (n := n.cur - 1) (by omega) (by omega), wrap_id (n := (n.cur - 1) * c.size) (by omega) (by omega), wrap_id (by omega) (by omega)]
    congr 1
    omega
  have hok : nodeOk c (putS c n sz al) = true := by
    rw [hnode]
    exact nodeOk_of_live hS.good hS.st hS.gen (liveB_put hS.live hc0 t1 (by omega) ⟨by omega, hft⟩)
  refine ⟨hS, by omega, hnode, hok, ?_, ?_, by omega⟩
  · have hcn : (putS c n sz al).cur ≠ 0 := by rw [hnode]; exact hc0
    unfold looseIn
    rw [if_neg hcn, hok, hnode]
    rfl
  · rw [hnode]
    have hi : inB c n.chunks ⟨(n.cur - 1) * c.size + off, sz, 0⟩ = true := by
      unfold inB
      rw [t1, t2, t3, Bool.true_and]
      refine spanB_true fun j hj => ?_
      have : j = 0 := by omega
      subst this
      simpa using hS.hasC
    unfold insB
    simp only [List.all_append, List.all_cons, List.all_nil, hi, Bool.and_true]
/-- A chunk put. -/
theorem cur_of {c : Conf} (hg : ConfG c) {n : Node} {k : Int} (h : curB c n k = true) :
    curN c n k = { n with chunks := n.chunks ++ [k], cur := IntKind.i64.wrap (k + 1), bump := 0 } ∧ nodeOk c (curN c n k) = true ∧ has (curN c n k).chunks k = true ∧ looseIn c (curN c n k) = c.size := by
  have e : curN c n k = { n with chunks := n.chunks ++ [k], cur := IntKind.i64.wrap (k + 1), bump := 0 } := by unfold curN; rw [if_pos h]
  have h' := h
  unfold curB at h'
  simp only [Bool.and_eq_true] at h'
  obtain ⟨-, h2, h3⟩ := h'
  have hck := hg.chunks
  have hsz := hg.size
  rw [within_iff, wrap_id (n := c.chunks - 1) (by omega) (by omega)] at h2
  have hok : nodeOk c (curN c n k) = true := by rw [e]; exact h3
  refine ⟨e, hok, ?_, ?_⟩
  · rw [e]; simp [has]
  · have hcn : (curN c n k).cur ≠ 0 := by
      rw [e]
      show IntKind.i64.wrap (k + 1) ≠ 0
      rw [wrap_id (by omega) (by omega)]; omega
    unfold looseIn
    rw [if_neg hcn, hok, e]
    show IntKind.i64.wrap (c.size - 0) = c.size
    rw [wrap_id (by omega) (by omega)]; omega
abbrev lastI (X : Node) : Int := IntKind.i64.wrap (nI (DV.sl 3 (thgs X.things)).n - 1)
abbrev boxN (n : Node) : SV := .box [iC n.st, iC n.gen, iC n.ep, iC n.up, iC n.upEp, iC n.first, iC n.next, iC n.prev, .own (.sl 1 (ints n.chunks)), iC n.cur, iC n.bump, .own (.sl 3 (thgs n.things)), .own (.sl 1 (ints n.tags))]
theorem last_get (l : List Thing) (t : Thing) {j : Nat} (hj : j < 3) : (thgs (l ++ [t])).getD (l.length * 3 + j) dfl = t.enc.getD j dfl := by
  have := flat_getD Thing.enc_len (l ++ [t]) l.length j (by simp) hj
  show (flat Thing.enc (l ++ [t])).getD (l.length * 3 + j) dfl = _
  rw [this]
  simp
/-- The last object of a room. -/
theorem last_facts {X : Node} {l : List Thing} {t : Thing} (h : X.things = l ++ [t]) (hl : l.length ≤ 1048576) : (0 ≤ lastI X ∧ lastI X < nI (DV.sl 3 (thgs X.things)).n) ∧
    (placeOk (boxN X) [0 + 11, (lastI X).toNat * 3] ∧ DV.isI .i64 ((DV.sl 3 (thgs X.things)).getP [(lastI X).toNat * 3]) ∧ ((DV.sl 3 (thgs X.things)).getP [(lastI X).toNat * 3]).asI = t.pos) ∧
    (placeOk (boxN X) [0 + 11, (lastI X).toNat * 3 + 1] ∧ DV.isI .i64 ((DV.sl 3 (thgs X.things)).getP [(lastI X).toNat * 3 + 1]) ∧ ((DV.sl 3 (thgs X.things)).getP [(lastI X).toNat * 3 + 1]).asI = t.len) ∧
    (placeOk (boxN X) [0 + 11, (lastI X).toNat * 3 + 1 + 1] ∧ DV.isI .i64 ((DV.sl 3 (thgs X.things)).getP [(lastI X).toNat * 3 + 1 + 1]) ∧ ((DV.sl 3 (thgs X.things)).getP [(lastI X).toNat * 3 + 1 + 1]).asI = t.run) := by
  have hn : (DV.sl 3 (thgs X.things)).n = l.length + 1 := by rw [n_things, h]; simp
  have hW : lastI X = l.length := by
    show IntKind.i64.wrap (nI (DV.sl 3 (thgs X.things)).n - 1) = _
    rw [hn]
    show IntKind.i64.wrap (((l.length + 1 : Nat) : Int) - 1) = _
    rw [wrap_id (by omega) (by omega)]; omega
  have hp : ∀ j, j < 3 → placeOk (boxN X) [0 + 11, l.length * 3 + j] := fun j hj => by
    show 0 + 11 < 13 ∧ (l.length * 3 + j < (thgs X.things).length ∧ True)
    rw [things_length, h]
    simp only [List.length_append, List.length_singleton]
    exact ⟨by omega, by omega, trivial⟩
  have hg : ∀ j, j < 3 → (DV.sl 3 (thgs X.things)).getP [l.length * 3 + j] = t.enc.getD j dfl := fun j hj => by
    show (thgs X.things).getD (l.length * 3 + j) dfl = _
    rw [h]; exact last_get l t hj
  rw [hW, hn]
  simp only [Int.toNat_natCast]
  have g0 := hg 0 (by omega)
  have g1 := hg 1 (by omega)
  have g2 := hg 2 (by omega)
  refine ⟨⟨by omega, by show (l.length : Int) < ((l.length + 1 : Nat) : Int); omega⟩, ⟨hp 0 (by omega), ?_, ?_⟩, ⟨hp 1 (by omega), ?_, ?_⟩, hp 2 (by omega), ?_, ?_⟩
  · show DV.isI .i64 ((DV.sl 3 (thgs X.things)).getP [l.length * 3 + 0]); rw [g0]; rfl
  · show ((DV.sl 3 (thgs X.things)).getP [l.length * 3 + 0]).asI = _; rw [g0]; rfl
  · rw [g1]; rfl
  · rw [g1]; rfl
  · show DV.isI .i64 ((DV.sl 3 (thgs X.things)).getP [l.length * 3 + 2]); rw [g2]; rfl
  · show ((DV.sl 3 (thgs X.things)).getP [l.length * 3 + 2]).asI = _; rw [g2]; rfl
theorem ConfG.good {c : Conf} (h : ConfG c) : c.good = true := Conf.good_iff.2 ⟨h.chunks, h.size, h.slots, h.tax, h.slice, h.gens⟩
end Go.Proofs.Ythmpdfmdhfgaaaa
