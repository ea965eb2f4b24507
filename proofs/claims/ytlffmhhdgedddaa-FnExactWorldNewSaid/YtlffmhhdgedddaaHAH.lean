/- Contracts of small functions: copies, comparisons and sizes of lists of integers and of remains. -/
import Derived.Test.YtlffmhhdgedddaaD2
import Derived.Test.YtlffmhhdgedddaaVHAH
namespace Go.Proofs.Ytlffmhhdgedddaa
open Go Go.Proofs.Ytlffmhhdgedddaa.DL
set_option maxRecDepth 100000

theorem set_take_rep (l : List Int) (k : Nat) (h : k < l.length) : (l.take k ++ List.replicate (l.length - k) 0).set k (l.getD k 0) = l.take (k + 1) ++ List.replicate (l.length - (k + 1)) 0 := by
  apply List.ext_getElem
  · simp; omega
  · intro i h1 h2
    simp only [List.length_set, List.length_append, List.length_take, List.length_replicate] at h1
    rw [List.getElem_set]
    split
    · rename_i e; subst e
      rw [List.getElem_append_left (by simp; omega)]
      simp [List.getD_eq_getElem?_getD, h]
    · rename_i e
      by_cases hi : i < k
      · rw [List.getElem_append_left (by simp; omega), List.getElem_append_left (by simp; omega)]
        simp
      · rw [List.getElem_append_right (by simp; omega), List.getElem_append_right (by simp; omega)]
        simp

theorem all_take_succ {a b : List Int} {k : Nat} (ha : k < a.length) (hb : k < b.length) (h : a.take k = b.take k) (e : a.getD k 0 = b.getD k 0) : a.take (k + 1) = b.take (k + 1) := by
  rw [List.take_succ_eq_append_getElem ha, List.take_succ_eq_append_getElem hb, h]
  simp only [List.getD_eq_getElem?_getD, List.getElem?_eq_getElem ha, List.getElem?_eq_getElem hb, Option.getD_some] at e
  rw [e]

theorem c_eqIntS {a b : List Int} (ha : a.length ≤ M63) : CallD Try.prog F_laws_eqIntS [rI a, rI b] fun r _ => r = bS (decide (a = b)) := by
  refine k_laws_eqIntS ?_
  unfold vc_laws_eqIntS
  simp only [nI, n_ints]
  refine ⟨fun h1 => bS_eq ?_, fun h1 => ?_⟩
  · have : a.length ≠ b.length := by simp at h1; omega
    have : a ≠ b := fun e => this (by rw [e])
    simp [this]
  · have hl : a.length = b.length := by simp at h1; omega
    refine ⟨fun i m => ∃ k : Nat, i = k ∧ k ≤ a.length ∧ m = a.length - k ∧ a.take k = b.take k, ⟨a.length, 0, rfl, Nat.zero_le _, rfl, rfl⟩, ?_⟩
    rintro i m ⟨k, rfl, hk, rfl, ht⟩
    simp only [Int.toNat_natCast, decide_eq_true_eq, decide_eq_false_iff_not, Nat.mul_one]
    refine ⟨fun h1 => ?_, fun h1 => bS_eq ?_⟩
    · have ha' : k < a.length := by omega
      have hb' : k < b.length := by omega
      unfold M63 at ha
      simp only [hd_ints ha', hd_ints hb', isI_iV, asI_iV, wrap_id (n := (k : Int) + 1) (by omega) (by omega)]
      refine ⟨by omega, by omega, by simp [ints]; omega, trivial, by omega, by omega, by simp [ints]; omega, trivial, fun h2 => bS_eq ?_, fun h2 => ⟨⟨trivial, trivial⟩, a.length - (k + 1), by omega, k + 1, by omega, by omega, rfl, all_take_succ ha' hb' ht (by simpa using h2)⟩⟩
      have : a ≠ b := fun e => by subst e; simp at h2
      simp [this]
    · have : k = a.length := by omega
      subst this
      rw [List.take_length, hl, List.take_length] at ht
      simp [ht]

def Waste.sz (x : Waste) : Int := x.tags.length + x.chunks.length
def Waste.left (x : Waste) : Int := if (x.tags.length : Int) ≤ 1048576 then (if (x.chunks.length : Int) ≤ 1048576 - x.tags.length then 1048576 - x.tags.length - x.chunks.length else -1) else -1
theorem Waste.left_sz {x : Waste} (h : ¬ x.left < 0) : x.sz ≤ 1048576 := by
  unfold Waste.left at h
  unfold Waste.sz
  split at h
  · split at h <;> omega
  · omega
theorem Waste.eq_iff (x y : Waste) : x = y ↔ x.slot = y.slot ∧ x.first = y.first ∧ x.tags = y.tags ∧ x.chunks = y.chunks ∧ x.done = y.done := by
  constructor
  · rintro rfl; exact ⟨rfl, rfl, rfl, rfl, rfl⟩
  · cases x; cases y; rintro ⟨h1, h2, h3, h4, h5⟩; simp_all
instance : DecidableEq Waste := fun x y => decidable_of_iff _ (Waste.eq_iff x y).symm
theorem c_eqWaste {x y : Waste} (h : x.sz ≤ 1048576) : CallD Try.prog F_laws_eqWaste [rWaste x, rWaste y] fun r _ => r = bS (decide (x = y)) := by
  unfold Waste.sz at h
  refine k_laws_eqWaste ?_
  unfold vc_laws_eqWaste
  have h1 : x.tags.length ≤ M63 := by unfold M63; omega
  have h2 : x.chunks.length ≤ M63 := by unfold M63; omega
  refine ⟨fun e => bS_eq ?_, fun e1 => ⟨fun e => bS_eq ?_, fun e2 => ⟨_, c_eqIntS h1, fun e3 => ⟨_, c_eqIntS h2, fun e4 => ⟨fun e => bS_eq ?_, fun e5 => bS_eq ?_⟩, fun e => bS_eq ?_⟩, fun e => bS_eq ?_⟩⟩⟩
  all_goals simp_all [Waste.eq_iff]


theorem set3 {x y z a b c : DV} {r : List DV} : ∀ p : List DV, (((p ++ a :: b :: c :: r).set p.length x).set (p.length + 1) y).set (p.length + 1 + 1) z = p ++ x :: y :: z :: r
  | [] => rfl
  | q :: p => by simp
theorem things_split {l : List Thing} {k : Nat} (h : k < l.length) : thgs l = thgs (l.take k) ++ iV l[k].pos :: iV l[k].len :: iV l[k].run :: thgs (l.drop (k + 1)) := by
  have e : l = l.take k ++ l[k] :: l.drop (k + 1) := by rw [List.getElem_cons_drop, List.take_append_drop]
  have e2 : thgs l = thgs (l.take k ++ l[k] :: l.drop (k + 1)) := by rw [← e]
  rw [e2]
  unfold thgs flat
  rw [List.flatMap_append, List.flatMap_cons]
  rfl
theorem set_things {l : List Thing} {k : Nat} (h : k < l.length) (t : Thing) : (((thgs l).set (k * 3) (iV t.pos)).set (k * 3 + 1) (iV t.len)).set (k * 3 + 1 + 1) (iV t.run) = thgs (l.set k t) := by
  have hl : (thgs (l.take k)).length = k * 3 := by rw [things_length, List.length_take]; congr 1; omega
  rw [things_split h, ← hl, set3, List.set_eq_take_append_cons_drop, if_pos h]
  simp [thgs, flat, Thing.enc]
theorem zero_things (n : Nat) : (List.replicate n [iV 0, iV 0, iV 0]).flatten = thgs (List.replicate n ⟨0, 0, 0⟩) := by
  simp only [thgs, flat, List.flatMap, List.map_replicate]
  rfl
theorem take_things (l : List Thing) (k : Nat) : (thgs l).take (k * 3) = thgs (l.take k) := flat_takeAll Thing.enc_len k l
theorem drop0 {α : Type} (l : List α) (n : Nat) : l.drop (Int.toNat 0 * n) = l := by simp
theorem take_rep_step {α : Type} {l : List α} {z : α} {k : Nat} (h : k < l.length) : (l.take k ++ List.replicate (l.length - k) z).set k l[k] = l.take (k + 1) ++ List.replicate (l.length - (k + 1)) z := by
  apply List.ext_getElem
  · simp; omega
  · intro i h1 h2
    simp only [List.length_set, List.length_append, List.length_take, List.length_replicate] at h1
    rw [List.getElem_set]
    split
    · rename_i e; subst e
      rw [List.getElem_append_left (by simp; omega)]
      simp
    · rename_i e
      by_cases hi : i < k
      · rw [List.getElem_append_left (by simp; omega), List.getElem_append_left (by simp; omega)]
        simp
      · rw [List.getElem_append_right (by simp; omega), List.getElem_append_right (by simp; omega)]
        simp
theorem take_next {α : Type} {a b : List α} {k : Nat} (ha : k < a.length) (hb : k < b.length) (h : a.take k = b.take k) (e : a[k] = b[k]) : a.take (k + 1) = b.take (k + 1) := by
  rw [List.take_succ_eq_append_getElem ha, List.take_succ_eq_append_getElem hb, h, e]
theorem Thing.eq_iff (x y : Thing) : x = y ↔ x.pos = y.pos ∧ x.len = y.len ∧ x.run = y.run := by
  constructor
  · rintro rfl; exact ⟨rfl, rfl, rfl⟩
  · cases x; cases y; rintro ⟨h1, h2, h3⟩; simp_all
instance : DecidableEq Thing := fun x y => decidable_of_iff _ (Thing.eq_iff x y).symm

theorem c_eqThing (t u : Thing) : CallD Try.prog F_laws_eqThing [thingS t, thingS u] fun r _ => r = bS (decide (t = u)) := by
  refine k_laws_eqThing ?_
  unfold vc_laws_eqThing
  refine ⟨fun h => bS_eq ?_, fun h => ⟨fun h2 => bS_eq ?_, fun h2 => ⟨fun h3 => bS_eq ?_, fun h3 => bS_eq ?_⟩⟩⟩ <;> simp_all [Thing.eq_iff]
theorem c_eqThingS {a b : List Thing} (ha : a.length ≤ M63) : CallD Try.prog F_laws_eqThingS [rTh a, rTh b] fun r _ => r = bS (decide (a = b)) := by
  refine k_laws_eqThingS ?_
  unfold vc_laws_eqThingS
  unfold M63 at ha
  simp only [nI, n_things]
  refine ⟨fun h1 => bS_eq ?_, fun h1 => ?_⟩
  · have : a.length ≠ b.length := by simp at h1; omega
    have : a ≠ b := fun e => this (by rw [e])
    simp [this]
  · have hl : a.length = b.length := by simp at h1; omega
    refine ⟨fun i m => ∃ k : Nat, i = k ∧ k ≤ a.length ∧ m = a.length - k ∧ a.take k = b.take k, ⟨a.length, 0, rfl, Nat.zero_le _, rfl, rfl⟩, ?_⟩
    rintro i m ⟨k, rfl, hk, rfl, ht⟩
    simp only [Int.toNat_natCast, decide_eq_true_eq, decide_eq_false_iff_not]
    refine ⟨fun h1 => ?_, fun h1 => bS_eq ?_⟩
    · have ha' : k < a.length := by omega
      have hb' : k < b.length := by omega
      simp only [drop_things ha', drop_things hb', hdD_cons, List.tail_cons, isI_iV, asI_iV, wrap_id (n := (k : Int) + 1) (by omega) (by omega)]
      refine ⟨by omega, by omega, by simp, trivial, trivial, trivial, by omega, by omega, by simp, trivial, trivial, trivial, _, c_eqThing a[k] b[k], fun h2 => ⟨⟨trivial, trivial⟩, a.length - (k + 1), by omega, k + 1, by omega, by omega, rfl, take_next ha' hb' ht (by simpa using h2)⟩, fun h2 => bS_eq ?_⟩
      have : a ≠ b := fun e => by subst e; simp at h2
      simp [this]
    · have : k = a.length := by omega
      subst this
      rw [List.take_length, hl, List.take_length] at ht
      simp [ht]

/-- The first place where p holds; -1, if there is none. -/
def idx {α : Type} (p : α → Bool) (l : List α) : Int := if l.any p then (l.findIdx p : Nat) else -1
theorem idx_at {α : Type} {p : α → Bool} {l : List α} {k : Nat} (hk : k < l.length) (h : p l[k] = true) (hb : ∀ j (hj : j < k), p (l[j]'(by omega)) = false) : idx p l = k := by
  unfold idx
  rw [if_pos (List.any_eq_true.2 ⟨_, List.getElem_mem hk, h⟩), (List.findIdx_eq hk).2 ⟨h, hb⟩]
theorem idx_none {α : Type} {p : α → Bool} {l : List α} (hb : ∀ j (hj : j < l.length), p l[j] = false) : idx p l = -1 := by
  unfold idx
  have : l.any p = false := by
    rw [List.any_eq_false]
    intro x hx
    obtain ⟨j, hj, rfl⟩ := List.mem_iff_getElem.1 hx
    simp [hb j hj]
  rw [this]; rfl
theorem idx_any {α : Type} (p : α → Bool) (l : List α) : decide (0 ≤ idx p l) = l.any p := by
  unfold idx
  cases h : l.any p <;> simp
def apart (a b : Thing) : Bool := decide (a.len < 1) || decide (b.len < 1) || (if a.pos ≤ b.pos then decide (a.len ≤ b.pos - a.pos) else decide (b.len ≤ a.pos - b.pos))
theorem apart_symm (a b : Thing) : apart a b = apart b a := by
  rw [Bool.eq_iff_iff]
  simp only [apart, Bool.or_eq_true, decide_eq_true_eq]
  split <;> split <;> simp only [decide_eq_true_eq] <;> omega
def within (a b c : Int) : Bool := decide (b ≤ a) && decide (a ≤ c)
theorem c_within (a b c : Int) : CallD Try.prog F_impl_within [iS a, iS b, iS c] fun r _ => r = bS (within a b c) := by
  refine k_impl_within ?_
  unfold vc_impl_within within
  refine ⟨fun h => ⟨fun h' => bS_eq ?_, fun h' => bS_eq ?_⟩, fun h => bS_eq ?_⟩ <;> simp_all <;> omega
theorem c_l1In (a b c : Int) : CallD Try.prog F_spec_l1In [iS a, iS b, iS c] fun r _ => r = bS (within a b c) := by
  refine k_spec_l1In ?_
  unfold vc_spec_l1In within
  refine ⟨fun h => ⟨fun h' => bS_eq ?_, fun h' => bS_eq ?_⟩, fun h => bS_eq ?_⟩ <;> simp_all <;> omega
theorem c_toConf (c : Conf) : CallD Try.prog F_laws_toConf [confS c] fun r _ => r = confS c := k_laws_toConf rfl

def has (l : List Int) (b : Int) : Bool := l.any fun y => decide (b = y)
theorem has_at {l : List Int} {b : Int} {k : Nat} (hk : k < l.length) (h : l[k] = b) : has l b = true := List.any_eq_true.2 ⟨_, List.getElem_mem hk, by simp [h]⟩
theorem has_not {l : List Int} {b : Int} (h : ∀ j (hj : j < l.length), l[j] ≠ b) : has l b = false := by
  refine List.any_eq_false.2 fun x hx => ?_
  obtain ⟨j, hj, rfl⟩ := List.mem_iff_getElem.1 hx
  have := h j hj
  simp only [decide_eq_true_eq]
  exact fun e => this e.symm
def Conf.good (c : Conf) : Bool := within c.chunks 2 12 && (within c.size 8 16 && (within c.slots 2 8 && (within c.tax 1 8 && (within c.slice 1 16 && within c.gens 1 4))))
theorem c_confOk (c : Conf) : CallD Try.prog F_impl_ConfOk [confS c] fun r _ => r = bS c.good := by
  refine k_impl_ConfOk ?_
  unfold vc_impl_ConfOk Conf.good
  refine ⟨_, c_within _ _ _, fun h1 => ⟨_, c_within _ _ _, fun h2 => ⟨_, c_within _ _ _, fun h3 => ⟨_, c_within _ _ _, fun h4 => ⟨_, c_within _ _ _, fun h5 => ⟨_, c_within _ _ _, fun h6 => bS_eq ?_, fun h6 => bS_eq ?_⟩, fun h5 => bS_eq ?_⟩, fun h4 => bS_eq ?_⟩, fun h3 => bS_eq ?_⟩, fun h2 => bS_eq ?_⟩, fun h1 => bS_eq ?_⟩ <;> simp [*]
theorem c_confOkS (c : Conf) : CallD Try.prog F_spec_ConfOk [confS c] fun r _ => r = bS c.good := by
  refine k_spec_ConfOk ?_
  unfold vc_spec_ConfOk Conf.good
  refine ⟨_, c_l1In _ _ _, fun h1 => ⟨_, c_l1In _ _ _, fun h2 => ⟨_, c_l1In _ _ _, fun h3 => ⟨_, c_l1In _ _ _, fun h4 => ⟨_, c_l1In _ _ _, fun h5 => ⟨_, c_l1In _ _ _, fun h6 => bS_eq ?_, fun h6 => bS_eq ?_⟩, fun h5 => bS_eq ?_⟩, fun h4 => bS_eq ?_⟩, fun h3 => bS_eq ?_⟩, fun h2 => bS_eq ?_⟩, fun h1 => bS_eq ?_⟩ <;> simp [*]

def Node.sz (n : Node) : Int := n.chunks.length + n.things.length + n.tags.length
theorem c_eqNode_self {n : Node} (h : n.sz ≤ 1048576) : CallD Try.prog F_laws_eqNode [rNode n, rNode n] fun r _ => r = bS true := by
  unfold Node.sz at h
  have h1 : n.chunks.length ≤ M63 := by unfold M63; omega
  have h2 : n.things.length ≤ M63 := by unfold M63; omega
  have h3 : n.tags.length ≤ M63 := by unfold M63; omega
  refine k_laws_eqNode ?_
  unfold vc_laws_eqNode
  refine ⟨fun h => absurd h (by simp), fun _ => ⟨fun h => absurd h (by simp), fun _ => ⟨fun h => absurd h (by simp), fun _ => ⟨fun h => absurd h (by simp), fun _ => ⟨fun h => absurd h (by simp), fun _ => ⟨fun h => absurd h (by simp), fun _ =>
    ⟨fun h => absurd h (by simp), fun _ => ⟨fun h => absurd h (by simp), fun _ => ⟨_, c_eqIntS h1, fun _ => ⟨fun h => absurd h (by simp), fun _ => ⟨fun h => absurd h (by simp), fun _ => ⟨_, c_eqThingS h2, fun _ =>
    ⟨_, c_eqIntS h3, fun _ => rfl, fun h => absurd h (by simp)⟩, fun h => absurd h (by simp)⟩⟩⟩, fun h => absurd h (by simp)⟩⟩⟩⟩⟩⟩⟩⟩⟩
def left1 (k : Nat) (n : Int) : Int := if (k : Int) ≤ n then n - k else -1
def Node.left (n : Node) : Int := if left1 n.chunks.length 1048576 < 0 then -1 else if left1 n.things.length (left1 n.chunks.length 1048576) < 0 then -1 else left1 n.tags.length (left1 n.things.length (left1 n.chunks.length 1048576))
theorem Node.left_sz {n : Node} (h : ¬ n.left < 0) : n.sz ≤ 1048576 := by
  unfold Node.left left1 at h
  unfold Node.sz
  repeat' split at h
  all_goals omega
theorem c_eqByteS {a b : List Int} (ha : a.length ≤ M63) : CallD Try.prog F_laws_eqByteS [rB a, rB b] fun r _ => r = bS (decide (a = b)) := by
  refine k_laws_eqByteS ?_
  unfold vc_laws_eqByteS
  simp only [nI, n_byts]
  refine ⟨fun h1 => bS_eq ?_, fun h1 => ?_⟩
  · have : a.length ≠ b.length := by simp at h1; omega
    have : a ≠ b := fun e => this (by rw [e])
    simp [this]
  · have hl : a.length = b.length := by simp at h1; omega
    refine ⟨fun i m => ∃ k : Nat, i = k ∧ k ≤ a.length ∧ m = a.length - k ∧ a.take k = b.take k, ⟨a.length, 0, rfl, Nat.zero_le _, rfl, rfl⟩, ?_⟩
    rintro i m ⟨k, rfl, hk, rfl, ht⟩
    simp only [Int.toNat_natCast, decide_eq_true_eq, decide_eq_false_iff_not, Nat.mul_one]
    refine ⟨fun h1 => ?_, fun h1 => bS_eq ?_⟩
    · have ha' : k < a.length := by omega
      have hb' : k < b.length := by omega
      unfold M63 at ha
      simp only [hd_byts ha', hd_byts hb', isI_uV, asI_uV, wrap_id (n := (k : Int) + 1) (by omega) (by omega)]
      refine ⟨by omega, by omega, by simp [byts]; omega, trivial, by omega, by omega, by simp [byts]; omega, trivial, fun h2 => bS_eq ?_, fun h2 => ⟨⟨trivial, trivial⟩, a.length - (k + 1), by omega, k + 1, by omega, by omega, rfl, all_take_succ ha' hb' ht (by simpa using h2)⟩⟩
      have : a ≠ b := fun e => by subst e; simp at h2
      simp [this]
    · have : k = a.length := by omega
      subst this
      rw [List.take_length, hl, List.take_length] at ht
      simp [ht]

/-- The marks that the laws write into bytes. -/
def marksB (b : Int) (k : Nat) : List Int := (List.range k).map fun i : Nat => (b + (i : Int)) % 256
theorem marksB_length (b : Int) (k : Nat) : (marksB b k).length = k := by simp [marksB]
theorem marksB_step {b : Int} {l : List Int} {k : Nat} (h : k < l.length) : (marksB b k ++ l.drop k).set k ((b + k) % 256) = marksB b (k + 1) ++ l.drop (k + 1) := by
  have e : l.drop k = l[k] :: l.drop (k + 1) := List.drop_eq_getElem_cons h
  rw [List.set_append_right _ _ (by rw [marksB_length]; omega), marksB_length, Nat.sub_self, e, List.set_cons_zero]
  simp [marksB, List.range_succ]
theorem c_markB {l : List Int} (hl : l.length ≤ 1048576) : CallD Try.prog F_laws_markByteS [oB l, iS 1] fun r bs => r = iS (1 + l.length) ∧ bs.getD 0 .dead = oB (marksB 1 l.length) := by
  refine k_laws_markByteS ?_
  unfold vc_laws_markByteS
  simp only [nI, es_sl]
  refine ⟨fun es n n1 m => ∃ k : Nat, n1 = k ∧ k ≤ l.length ∧ m = l.length - k ∧ n = 1 + (k : Int) ∧ es = byts (marksB 1 k ++ l.drop k), ⟨_, 0, rfl, Nat.zero_le _, rfl, rfl, by simp [marksB]⟩, ?_⟩
  rintro es n n1 m ⟨k, rfl, hk, rfl, rfl, rfl⟩
  have e0 : (marksB 1 k ++ l.drop k).length = l.length := by simp [marksB_length]; omega
  simp only [n_byts, byts_length, e0, Int.toNat_natCast, Nat.mul_one, decide_eq_true_eq, decide_eq_false_iff_not]
  refine ⟨fun h1 => ?_, fun h1 => ?_⟩
  · have ha : k < l.length := by omega
    refine ⟨by omega, by omega, trivial, by omega, trivial, l.length - (k + 1), by omega, k + 1, by rw [wrap_id] <;> omega, by omega, rfl, by rw [wrap_id] <;> omega, ?_⟩
    rw [set_byts, wrap8, marksB_step ha]
  · have : k = l.length := by omega
    subst this
    simp
theorem c_heldB {b : Nat} (hb : b ≤ 1048576) : CallD Try.prog F_laws_heldByteS [rB (marksB 1 b), iS 1] fun r _ => r = iS (1 + b) := by
  refine k_laws_heldByteS ?_
  unfold vc_laws_heldByteS
  simp only [nI, n_byts, marksB_length]
  refine ⟨fun n n1 m => ∃ k : Nat, n1 = k ∧ k ≤ b ∧ m = b - k ∧ n = 1 + (k : Int), ⟨_, 0, rfl, Nat.zero_le _, rfl, rfl⟩, ?_⟩
  rintro n n1 m ⟨k, rfl, hk, rfl, rfl⟩
  simp only [Int.toNat_natCast, Nat.mul_one, decide_eq_true_eq (p := (k : Int) < b), decide_eq_false_iff_not (p := (k : Int) < b)]
  refine ⟨fun h1 => ?_, fun h1 => iS_eq ?_⟩
  · have ha : k < (marksB 1 b).length := by rw [marksB_length]; omega
    have e : (marksB 1 b)[k] = (1 + (k : Int)) % 256 := by simp [marksB]
    simp only [hd_byts ha, getD_eq ha, isI_uV, asI_uV, e, wrap8]
    refine ⟨by omega, by omega, by simp [byts, marksB]; omega, trivial, fun g => absurd g (by simp), fun _ => ⟨trivial, b - (k + 1), by omega, k + 1, by rw [wrap_id] <;> omega, by omega, rfl, by rw [wrap_id] <;> omega⟩⟩
  · omega

abbrev tB (l : List Int) (b : Bool) : SV := .tup [.cell (.own (.sl 1 (byts l))), .cell (bC b)]
/-- A memory of a length has k bytes from i on. -/
def there (len : Nat) (i k : Int) : Bool := decide (0 ≤ i) && decide (0 ≤ k) && decide (i + k ≤ len)
def getR (l : List Int) (i k : Int) : List Int := if there l.length i k then (l.take (i + k).toNat).drop i.toNat else []
/-- Where bytes of a thing begin, and whether the memory has them. -/
def inThing (n : Nat) (t : Thing) (off k : Int) : Bool := decide (0 ≤ off) && decide (0 ≤ k) && decide (off + k ≤ t.len) && there n (IntKind.i64.wrap (t.pos + off)) k
def startN (t : Thing) (off k : Int) : Int := if 0 ≤ off ∧ 0 ≤ k ∧ off + k ≤ t.len ∧ 0 ≤ IntKind.i64.wrap (t.pos + off) then IntKind.i64.wrap (t.pos + off) else 0
theorem startN_in {n : Nat} {t : Thing} {off k : Int} (h : inThing n t off k = true) : startN t off k = IntKind.i64.wrap (t.pos + off) := by
  simp only [inThing, there, Bool.and_eq_true, decide_eq_true_eq] at h
  unfold startN
  rw [if_pos (by omega)]
/-- What is read, and whether it is there. -/
def readR (l : List Int) (t : Thing) (off k : Int) : List Int := if inThing l.length t off k then getR l (IntKind.i64.wrap (t.pos + off)) k else []
theorem setRange_app {α : Type} : ∀ (new a b : List α), new.length ≤ b.length → setRange (a ++ b) a.length new = a ++ (new ++ b.drop new.length)
  | [], a, b, _ => by simp [setRange]
  | x :: xs, a, [], h => by simp at h
  | x :: xs, a, y :: b, h => by
    have e : (a ++ y :: b).set a.length x = (a ++ [x]) ++ b := by rw [List.set_append_right _ _ (Nat.le_refl _)]; simp
    have := setRange_app xs (a ++ [x]) b (by simpa using h)
    simp only [List.length_append, List.length_singleton] at this
    unfold setRange
    rw [e, this]
    simp
theorem setRange_eq {α : Type} (new es : List α) (j : Nat) (h : j + new.length ≤ es.length) : setRange es j new = es.take j ++ (new ++ es.drop (j + new.length)) := by
  have := setRange_app new (es.take j) (es.drop j) (by simp; omega)
  rw [List.take_append_drop, List.length_take, Nat.min_eq_left (by omega), List.drop_drop] at this
  exact this
def putAt (l : List Int) (j : Nat) (s : List Int) : List Int := l.take j ++ (s ++ l.drop (j + s.length))
theorem putAt_length {l s : List Int} {j : Nat} (h : j + s.length ≤ l.length) : (putAt l j s).length = l.length := by
  simp [putAt]; omega
theorem putAt_step {l s : List Int} {j k : Nat} (hk : k < s.length) (h : j + s.length ≤ l.length) : (putAt l j (s.take k)).set (j + k) s[k] = putAt l j (s.take (k + 1)) := by
  unfold putAt
  have hl : (l.take j).length = j := by simp; omega
  have hk' : (s.take k).length = k := by simp; omega
  rw [List.set_append_right _ _ (by omega), hl, List.set_append_right _ _ (by omega), hk', Nat.add_sub_cancel_left, Nat.sub_self]
  have e : l.drop (j + k) = l[j + k] :: l.drop (j + k + 1) := List.drop_eq_getElem_cons (by omega)
  have e3 : (s.take (k + 1)).length = k + 1 := by simp; omega
  rw [e, List.set_cons_zero, List.take_succ_eq_append_getElem hk]
  simp only [List.append_assoc, List.singleton_append, List.length_append, hk', List.length_singleton, Nat.add_assoc]
def putR (l : List Int) (i : Int) (s : List Int) : List Int := if there l.length i s.length then putAt l i.toNat s else l

def writeR (l : List Int) (t : Thing) (off : Int) (s : List Int) : List Int := if inThing l.length t off s.length then putR l (IntKind.i64.wrap (t.pos + off)) s else l
theorem c_markBk {l : List Int} {b : Int} (hl : l.length ≤ 1048576) (h0 : 0 ≤ b) (h1 : b ≤ 1099511627776) : CallD Try.prog F_laws_markByteS [oB l, iS b] fun r bs => r = iS (b + l.length) ∧ bs.getD 0 .dead = oB (marksB b l.length) := by
  refine k_laws_markByteS ?_
  unfold vc_laws_markByteS
  simp only [nI, es_sl]
  refine ⟨fun es n n1 m => ∃ k : Nat, n1 = k ∧ k ≤ l.length ∧ m = l.length - k ∧ n = b + (k : Int) ∧ es = byts (marksB b k ++ l.drop k), ⟨_, 0, rfl, Nat.zero_le _, rfl, by simp, by simp [marksB]⟩, ?_⟩
  rintro es n n1 m ⟨k, rfl, hk, rfl, rfl, rfl⟩
  have e0 : (marksB b k ++ l.drop k).length = l.length := by simp [marksB_length]; omega
  simp only [n_byts, byts_length, e0, Int.toNat_natCast, Nat.mul_one, decide_eq_true_eq, decide_eq_false_iff_not]
  refine ⟨fun h1 => ?_, fun h1 => ?_⟩
  · have ha : k < l.length := by omega
    refine ⟨by omega, by omega, trivial, by omega, trivial, l.length - (k + 1), by omega, k + 1, by rw [wrap_id] <;> omega, by omega, rfl, by rw [wrap_id] <;> omega, ?_⟩
    rw [set_byts, wrap8, marksB_step ha]
  · have : k = l.length := by omega
    subst this
    simp

/-- A mark is no more than this. -/
abbrev M40 : Int := 1099511627776
def marks (b : Int) (k : Nat) : List Int := (List.range k).map fun i : Nat => b + (i : Int)
theorem marks_length (b : Int) (k : Nat) : (marks b k).length = k := by simp [marks]
theorem marks_step {b : Int} {l : List Int} {k : Nat} (h : k < l.length) : (marks b k ++ l.drop k).set k (b + k) = marks b (k + 1) ++ l.drop (k + 1) := by
  have e : l.drop k = l[k] :: l.drop (k + 1) := List.drop_eq_getElem_cons h
  rw [List.set_append_right _ _ (by rw [marks_length]; omega), marks_length, Nat.sub_self, e, List.set_cons_zero]
  simp [marks, List.range_succ]
theorem c_markI {l : List Int} {b : Int} (hl : l.length ≤ 1048576) (h0 : 0 ≤ b) (hb : b ≤ M40) : CallD Try.prog F_laws_markIntS [oI l, iS b] fun r bs => r = iS (b + l.length) ∧ bs.getD 0 .dead = oI (marks b l.length) := by
  unfold M40 at hb
  refine k_laws_markIntS ?_
  unfold vc_laws_markIntS
  simp only [nI, es_sl]
  refine ⟨fun es n n1 m => ∃ k : Nat, n1 = k ∧ k ≤ l.length ∧ m = l.length - k ∧ n = b + (k : Int) ∧ es = ints (marks b k ++ l.drop k), ⟨_, 0, rfl, Nat.zero_le _, rfl, by simp, by simp [marks]⟩, ?_⟩
  rintro es n n1 m ⟨k, rfl, hk, rfl, rfl, rfl⟩
  have e0 : (marks b k ++ l.drop k).length = l.length := by simp [marks_length]; omega
  simp only [n_ints, ints_length, e0, Int.toNat_natCast, Nat.mul_one, decide_eq_true_eq, decide_eq_false_iff_not]
  refine ⟨fun h1 => ?_, fun h1 => ?_⟩
  · have ha : k < l.length := by omega
    refine ⟨by omega, by omega, trivial, by omega, trivial, l.length - (k + 1), by omega, k + 1, by rw [wrap_id] <;> omega, by omega, rfl, by rw [wrap_id] <;> omega, ?_⟩
    rw [set_ints, marks_step ha]
  · have : k = l.length := by omega
    subst this
    simp
theorem c_heldI {n : Nat} {b : Int} (hn : n ≤ 1048576) (h0 : 0 ≤ b) (hb : b ≤ M40) : CallD Try.prog F_laws_heldIntS [rI (marks b n), iS b] fun r _ => r = iS (b + n) := by
  unfold M40 at hb
  refine k_laws_heldIntS ?_
  unfold vc_laws_heldIntS
  simp only [nI, n_ints, marks_length]
  refine ⟨fun x n1 m => ∃ k : Nat, n1 = k ∧ k ≤ n ∧ m = n - k ∧ x = b + (k : Int), ⟨_, 0, rfl, Nat.zero_le _, rfl, by simp⟩, ?_⟩
  rintro x n1 m ⟨k, rfl, hk, rfl, rfl⟩
  simp only [Int.toNat_natCast, Nat.mul_one, decide_eq_true_eq (p := (k : Int) < n), decide_eq_false_iff_not (p := (k : Int) < n)]
  refine ⟨fun h1 => ?_, fun h1 => iS_eq ?_⟩
  · have ha : k < (marks b n).length := by rw [marks_length]; omega
    have e : (marks b n)[k] = b + (k : Int) := by simp [marks]
    simp only [hd_ints ha, getD_eq ha, isI_iV, asI_iV, e]
    refine ⟨by omega, by omega, by simp [ints, marks]; omega, trivial, fun g => absurd g (by simp), fun _ => ⟨trivial, n - (k + 1), by omega, k + 1, by rw [wrap_id] <;> omega, by omega, rfl, by rw [wrap_id] <;> omega⟩⟩
  · omega

def marksT (b : Int) (k : Nat) : List Thing := (List.range k).map fun i : Nat => ⟨b + 3 * (i : Int), b + 3 * (i : Int) + 1, b + 3 * (i : Int) + 2⟩
theorem marksT_length (b : Int) (k : Nat) : (marksT b k).length = k := by simp [marksT]
theorem marksT_step {b : Int} {l : List Thing} {k : Nat} (h : k < l.length) : (marksT b k ++ l.drop k).set k ⟨b + 3 * k, b + 3 * k + 1, b + 3 * k + 2⟩ = marksT b (k + 1) ++ l.drop (k + 1) := by
  have e : l.drop k = l[k] :: l.drop (k + 1) := List.drop_eq_getElem_cons h
  rw [List.set_append_right _ _ (by rw [marksT_length]; omega), marksT_length, Nat.sub_self, e, List.set_cons_zero]
  simp [marksT, List.range_succ]
theorem c_markTh {l : List Thing} {b : Int} (hl : l.length ≤ 1048576) (h0 : 0 ≤ b) (hb : b ≤ M40) : CallD Try.prog F_laws_markThingS [oTh l, iS b] fun r bs => r = iS (b + 3 * l.length) ∧ bs.getD 0 .dead = oTh (marksT b l.length) := by
  unfold M40 at hb
  refine k_laws_markThingS ?_
  unfold vc_laws_markThingS
  simp only [nI, es_sl]
  refine ⟨fun es n n1 m => ∃ k : Nat, n1 = k ∧ k ≤ l.length ∧ m = l.length - k ∧ n = b + 3 * (k : Int) ∧ es = thgs (marksT b k ++ l.drop k), ⟨_, 0, rfl, Nat.zero_le _, rfl, by simp, by simp [marksT]⟩, ?_⟩
  rintro es n n1 m ⟨k, rfl, hk, rfl, rfl, rfl⟩
  have e0 : (marksT b k ++ l.drop k).length = l.length := by simp [marksT_length]; omega
  have en : ∀ (es : List DV) (i : Nat) (x : DV), (DV.sl 3 (es.set i x)).n = (DV.sl 3 es).n := fun es i x => by rw [DV.n_eq, DV.n_eq, List.length_set]
  simp only [en, n_things, things_length, List.length_set, e0, Int.toNat_natCast, decide_eq_true_eq, decide_eq_false_iff_not]
  refine ⟨fun h1 => ?_, fun h1 => ?_⟩
  · have ha : k < l.length := by omega
    have w1 : IntKind.i64.wrap (b + 3 * (k : Int) + 1) = b + 3 * k + 1 := wrap_id (by omega) (by omega)
    have w2 : IntKind.i64.wrap (b + 3 * (k : Int) + 1 + 1) = b + 3 * k + 2 := by rw [wrap_id (by omega) (by omega)]; omega
    have w3 : IntKind.i64.wrap (b + 3 * (k : Int) + 2 + 1) = b + 3 * ((k + 1 : Nat) : Int) := by rw [wrap_id (by omega) (by omega)]; omega
    rw [w1, w2, w3]
    refine ⟨by omega, by omega, trivial, by omega, by omega, by omega, trivial, by omega, by omega, by omega, trivial, by omega, trivial, l.length - (k + 1), by omega, k + 1, by rw [wrap_id] <;> omega, by omega, rfl, rfl, ?_⟩
    have := set_things (l := marksT b k ++ l.drop k) (k := k) (by omega) ⟨b + 3 * k, b + 3 * k + 1, b + 3 * k + 2⟩
    rw [marksT_step ha] at this
    exact this
  · have : k = l.length := by omega
    subst this
    simp
theorem c_heldTh {n : Nat} {b : Int} (hn : n ≤ 1048576) (h0 : 0 ≤ b) (hb : b ≤ M40) : CallD Try.prog F_laws_heldThingS [rTh (marksT b n), iS b] fun r _ => r = iS (b + 3 * n) := by
  unfold M40 at hb
  refine k_laws_heldThingS ?_
  unfold vc_laws_heldThingS
  simp only [nI, n_things, marksT_length]
  refine ⟨fun x n1 m => ∃ k : Nat, n1 = k ∧ k ≤ n ∧ m = n - k ∧ x = b + 3 * (k : Int), ⟨_, 0, rfl, Nat.zero_le _, rfl, by simp⟩, ?_⟩
  rintro x n1 m ⟨k, rfl, hk, rfl, rfl⟩
  simp only [Int.toNat_natCast, decide_eq_true_eq (p := (k : Int) < n), decide_eq_false_iff_not (p := (k : Int) < n)]
  refine ⟨fun h1 => ?_, fun h1 => iS_eq ?_⟩
  · have ha : k < (marksT b n).length := by rw [marksT_length]; omega
    have e : (marksT b n)[k] = ⟨b + 3 * (k : Int), b + 3 * k + 1, b + 3 * k + 2⟩ := by simp [marksT]
    have w1 : IntKind.i64.wrap (b + 3 * (k : Int) + 1) = b + 3 * k + 1 := wrap_id (by omega) (by omega)
    have w2 : IntKind.i64.wrap (b + 3 * (k : Int) + 1 + 1) = b + 3 * k + 2 := by rw [wrap_id (by omega) (by omega)]; omega
    have w3 : IntKind.i64.wrap (b + 3 * (k : Int) + 2 + 1) = b + 3 * ((k + 1 : Nat) : Int) := by rw [wrap_id (by omega) (by omega)]; omega
    simp only [drop_things ha, List.drop_zero, List.drop_succ_cons, hdD_cons, isI_iV, asI_iV, e, w1, w2, w3]
    refine ⟨by omega, by omega, by simp, trivial, fun g => absurd g (by simp), fun _ => ⟨by omega, by omega, by simp, trivial, fun g => absurd g (by simp), fun _ => ⟨by omega, by omega, by simp, trivial, fun g => absurd g (by simp),
      fun _ => ⟨trivial, n - (k + 1), by omega, k + 1, by rw [wrap_id] <;> omega, by omega, rfl, rfl⟩⟩⟩⟩
  · omega

/-- A node with marks. -/
def Node.marked (n : Node) (b : Int) : Node := { n with chunks := marks b n.chunks.length, things := marksT (b + n.chunks.length) n.things.length, tags := marks (b + n.chunks.length + 3 * n.things.length) n.tags.length }
def Node.cells (n : Node) : Int := n.chunks.length + 3 * n.things.length + n.tags.length
def Waste.marked (x : Waste) (b : Int) : Waste := { x with tags := marks b x.tags.length, chunks := marks (b + x.tags.length) x.chunks.length }
end Go.Proofs.Ytlffmhhdgedddaa
