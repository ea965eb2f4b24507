/- Contracts of small functions: references to the objects of a room. -/
import Derived.Test.YtmnfcahbmlfccaaHT
import Derived.Test.YtmnfcahbmlfccaaVHZ
namespace Go.Proofs.Ytmnfcahbmlfccaa
open Go Go.Proofs.Ytmnfcahbmlfccaa.DL
set_option maxRecDepth 100000

def Ref.enc (r : Ref) : List DV := [iV r.h.slot, iV r.h.gen, iV r.ep, iV r.no]
def rfs (l : List Ref) : List DV := flat Ref.enc l
theorem Ref.enc_len (r : Ref) : r.enc.length = 4 := rfl
theorem refs_length (l : List Ref) : (rfs l).length = l.length * 4 := flat_length Ref.enc_len l
theorem n_refs (l : List Ref) : (DV.sl 4 (rfs l)).n = l.length := flat_n Ref.enc_len l (by omega)
theorem drop_refs {l : List Ref} {k : Nat} (h : k < l.length) : (rfs l).drop (k * 4) = iV l[k].h.slot :: iV l[k].h.gen :: iV l[k].ep :: iV l[k].no :: rfs (l.drop (k + 1)) := flat_drop Ref.enc_len l k h
abbrev rRf (l : List Ref) : SV := oneC (.rd (.sl 4 (rfs l)))
abbrev oRf (l : List Ref) : SV := oneC (.own (.sl 4 (rfs l)))
theorem oRf_eq {a b : List Ref} (h : a = b) : oRf a = oRf b := by rw [h]
theorem n_one4 (a b c d : Int) : (DV.sl 4 [iV a, iV b, iV c, iV d]).n = 1 := by rw [DV.n_eq]; simp
theorem rfs_snoc (l : List Ref) (r : Ref) : rfs l ++ [iV r.h.slot, iV r.h.gen, iV r.ep, iV r.no] = rfs (l ++ [r]) := flat_one Ref.enc l r
theorem c_eqHandleSelf (h : Handle) : CallD Try.prog F_laws_eqHandle [handleS h, handleS h] fun r _ => r = bS true := by
  refine k_laws_eqHandle ?_
  unfold vc_laws_eqHandle
  exact ⟨fun g => absurd g (by simp), fun _ => ⟨fun g => absurd g (by simp), fun _ => rfl⟩⟩
theorem c_eqRefSelf (r : Ref) : CallD Try.prog F_laws_eqRef [refS r, refS r] fun x _ => x = bS true := by
  refine k_laws_eqRef ?_
  unfold vc_laws_eqRef
  exact ⟨_, c_eqHandleSelf r.h, fun _ => ⟨fun g => absurd g (by simp), fun _ => ⟨fun g => absurd g (by simp), fun _ => rfl⟩⟩, fun g => absurd g (by simp)⟩
theorem c_eqRefS {l : List Ref} (hl : l.length ≤ 1048576) : CallD Try.prog F_laws_eqRefS [rRf l, rRf l] fun r _ => r = bS true := by
  refine k_laws_eqRefS ?_
  unfold vc_laws_eqRefS
  simp only [nI, n_refs]
  refine ⟨fun g => absurd g (by simp), fun _ => ⟨fun i m => ∃ k : Nat, i = k ∧ k ≤ l.length ∧ m = l.length - k, ⟨l.length, 0, rfl, Nat.zero_le _, rfl⟩, ?_⟩⟩
  rintro i m ⟨k, rfl, hk, rfl⟩
  simp only [Int.toNat_natCast, decide_eq_true_eq (p := (k : Int) < l.length), decide_eq_false_iff_not (p := (k : Int) < l.length)]
  refine ⟨fun h1 => ?_, fun _ => trivial⟩
  have ha : k < l.length := by omega
  simp only [drop_refs ha, hdD_cons, List.tail_cons, isI_iV, asI_iV, wrap_id (n := (k : Int) + 1) (by omega) (by omega)]
  exact ⟨by omega, by omega, by simp, trivial, trivial, trivial, trivial, by omega, by omega, by simp, trivial, trivial, trivial, trivial,
    _, c_eqRefSelf l[k], fun _ => ⟨⟨trivial, trivial⟩, l.length - (k + 1), by omega, k + 1, by omega, by omega, rfl⟩, fun g => absurd g (by simp)⟩
def refM (n : Int) : Ref := ⟨⟨n, n + 1⟩, n + 1 + 1, n + 1 + 1 + 1⟩
def marksR (b : Int) (k : Nat) : List Ref := (List.range k).map fun i : Nat => refM (b + 4 * (i : Int))
theorem marksR_length (b : Int) (k : Nat) : (marksR b k).length = k := by simp [marksR]
theorem marksR_succ (b : Int) (k : Nat) : marksR b (k + 1) = marksR b k ++ [refM (b + 4 * (k : Int))] := by simp [marksR, List.range_succ]
theorem c_markRefS {l : List Ref} (hl : l.length ≤ 1048576) {b : Int} (h0 : 0 ≤ b) (hb : b ≤ 1073741824) : CallD Try.prog F_laws_markRefS [oRf l, iS b] fun r bs => r = iS (b + 4 * l.length) ∧ bs.getD 0 .dead = oRf (marksR b l.length) := by
  refine k_laws_markRefS ?_
  unfold vc_laws_markRefS
  refine ⟨fun es n n1 m => ∃ k : Nat, n1 = k ∧ k ≤ l.length ∧ m = l.length - k ∧ n = b + 4 * (k : Int) ∧ es = rfs (marksR b k ++ l.drop k), ⟨_, 0, rfl, Nat.zero_le _, rfl, by simp, by simp [marksR]⟩, ?_⟩
  rintro es n n1 m ⟨k, rfl, hk, rfl, rfl, rfl⟩
  have e0 : (marksR b k ++ l.drop k).length = l.length := by simp [marksR_length]; omega
  refine ⟨fun g => ?_, fun g => ?_⟩
  · have ha : k < l.length := by
      simp only [nI, n_refs, e0, decide_eq_true_eq] at g; omega
    have sp : rfs (marksR b k ++ l.drop k) = rfs (marksR b k) ++ (l[k].enc ++ rfs (l.drop (k + 1))) := by
      rw [List.drop_eq_getElem_cons ha]
      unfold rfs flat
      rw [List.flatMap_append, List.flatMap_cons]
    have hp : (rfs (marksR b k)).length = k * 4 := by rw [refs_length, marksR_length]
    have hq : (rfs (l.drop (k + 1))).length = (l.length - (k + 1)) * 4 := by rw [refs_length, List.length_drop]
    have hes : rfs (marksR b (k + 1) ++ l.drop (k + 1)) = rfs (marksR b k) ++ ((refM (b + 4 * (k : Int))).enc ++ rfs (l.drop (k + 1))) := by
      rw [marksR_succ, List.append_assoc]
      unfold rfs flat
      rw [List.flatMap_append]
      rfl
    rw [sp]
    clear sp g e0
    generalize rfs (marksR b k) = p at *
    generalize rfs (l.drop (k + 1)) = q at *
    have hn : b + 4 * (k : Int) ≤ 1100000000 ∧ 0 ≤ b + 4 * (k : Int) := by omega
    have hend : b + 4 * (k : Int) + 1 + 1 + 1 + 1 = b + 4 * ((k + 1 : Nat) : Int) := by omega
    generalize b + 4 * (k : Int) = n at *
    simp only [Int.toNat_natCast, Nat.add_zero, Ref.enc, List.cons_append, List.nil_append, set_at hp, set_at0 hp, List.set_cons_zero, List.set_cons_succ, es_sl,
      nI, DV.n_eq, List.length_append, List.length_cons, hp, hq]
    simp (disch := omega) only [wrap_id]
    have hlt : l.length - (k + 1) < l.length - k := by omega
    have hk1 : ((k : Int) + 1) = ((k + 1 : Nat) : Int) := by omega
    repeat' (first
      | omega
      | trivial
      | rfl
      | exact hlt | exact hk1 | exact hend | exact hes.symm
      | apply And.intro
      | apply Exists.intro)
  · have : k = l.length := by
      simp only [nI, n_refs, e0, decide_eq_false_iff_not] at g; omega
    subst this
    simp
theorem c_heldRefS {n : Nat} {b : Int} (hn : n ≤ 1048576) (h0 : 0 ≤ b) (hb : b ≤ 1073741824) : CallD Try.prog F_laws_heldRefS [rRf (marksR b n), iS b] fun r _ => r = iS (b + 4 * n) := by
  refine k_laws_heldRefS ?_
  unfold vc_laws_heldRefS
  simp only [nI, n_refs, marksR_length]
  refine ⟨fun x n1 m => ∃ k : Nat, n1 = k ∧ k ≤ n ∧ m = n - k ∧ x = b + 4 * (k : Int), ⟨_, 0, rfl, Nat.zero_le _, rfl, by simp⟩, ?_⟩
  rintro x n1 m ⟨k, rfl, hk, rfl, rfl⟩
  simp only [Int.toNat_natCast, decide_eq_true_eq (p := (k : Int) < n), decide_eq_false_iff_not (p := (k : Int) < n)]
  refine ⟨fun h1 => ?_, fun h1 => iS_eq ?_⟩
  · have ha : k < (marksR b n).length := by rw [marksR_length]; omega
    have e : (marksR b n)[k] = refM (b + 4 * (k : Int)) := by simp [marksR]
    have hend : b + 4 * (k : Int) + 1 + 1 + 1 + 1 = b + 4 * ((k + 1 : Nat) : Int) := by omega
    have hb2 : 0 ≤ b + 4 * (k : Int) ∧ b + 4 * (k : Int) ≤ 1100000000 := by omega
    simp only [drop_refs ha, List.drop_zero, List.drop_succ_cons, hdD_cons, isI_iV, asI_iV, e, refM]
    generalize b + 4 * (k : Int) = z at *
    simp (disch := omega) only [wrap_id]
    refine ⟨by omega, by omega, by simp, trivial, fun g => absurd g (by simp), fun _ => ⟨by omega, by omega, by simp, trivial, fun g => absurd g (by simp), fun _ => ⟨by omega, by omega, by simp, trivial, fun g => absurd g (by simp),
      fun _ => ⟨by omega, by omega, by simp, trivial, fun g => absurd g (by simp), fun _ => ⟨trivial, n - (k + 1), by omega, k + 1, by omega, by omega, rfl, hend⟩⟩⟩⟩⟩
  · omega
/-- A reference for each object of a room. -/
def refsOf (h : Handle) (ep : Int) (k : Nat) : List Ref := (List.range k).map fun i : Nat => ⟨h, ep, (i : Int)⟩
theorem refsOf_length (h : Handle) (ep : Int) (k : Nat) : (refsOf h ep k).length = k := by simp [refsOf]
theorem refsOf_succ (h : Handle) (ep : Int) (k : Nat) : refsOf h ep (k + 1) = refsOf h ep k ++ [⟨h, ep, (k : Int)⟩] := by simp [refsOf, List.range_succ]
def thingsIn (w : World') (h : Handle) : List Ref := if findC w h = 0 then refsOf h (nodeAt w.l (findK w h)).ep (nodeAt w.l (findK w h)).things.length else []
theorem findC_slot {w : World'} {h : Handle} (g : findC w h = 0) : slotB w.l (findK w h) = true := find_slot (by simp [g])
theorem thingsIn_len {w : World'} (hl : totN w.l ≤ 1048576) (h : Handle) : (thingsIn w h).length ≤ 1048576 := by
  have hz := szs_nonneg w.l
  unfold thingsIn
  split
  · rename_i g
    obtain ⟨hi, e⟩ := nodeAt_eq (findC_slot g)
    have hs := szs_at hi
    rw [refsOf_length, e]
    unfold Node.sz at hs
    unfold totN at hl
    omega
  · simp
theorem c_ThingsIn {w : World'} (hn : totN w.l ≤ 1048576) {h : Handle} (hh : h.ok) : CallD Try.prog F_impl_ThingsIn [rWorld w, handleS h] fun r _ => r = oRf (thingsIn w h) := by
  have hz := szs_nonneg w.l
  have hl : w.l.length ≤ 1048576 := by unfold totN at hn; omega
  have hle := thingsIn_len hn h
  refine k_impl_ThingsIn ?_
  unfold vc_impl_ThingsIn
  refine ⟨_, _, c_FindRoom hl hh, fun g => ?_, fun g => ?_⟩
  · show oRf [] = oRf (thingsIn w h)
    exact oRf_eq (by unfold thingsIn; rw [if_neg (by simpa using g)])
  have hs := find_slot g
  have g0 : findC w h = 0 := by simpa using g
  obtain ⟨q1, q2⟩ := slotB_iff.1 hs
  obtain ⟨hi, e⟩ := nodeAt_eq hs
  have eT : thingsIn w h = refsOf h w.l[(findK w h).toNat].ep w.l[(findK w h).toNat].things.length := by unfold thingsIn; rw [if_pos g0, e]
  rw [eT] at hle ⊢
  rw [refsOf_length] at hle
  simp only [nI, n_nodes, drop_nodes hi, List.drop_zero, List.drop_succ_cons, hdD_cons, isI_iV, asI_iV, isL_sl, es_sl, n_things, n_one4]
  generalize w.l[(findK w h).toNat].things.length = T at *
  generalize w.l[(findK w h).toNat].ep = ep at *
  refine ⟨q1, q2, by simp, trivial, fun es n m => ∃ k : Nat, n = k ∧ k ≤ T ∧ m = T - k ∧ es = rfs (refsOf h ep k), ⟨_, 0, rfl, Nat.zero_le _, rfl, rfl⟩, ?_⟩
  rintro es n m ⟨k, rfl, hk, rfl, rfl⟩
  simp only [n_refs, refsOf_length, decide_eq_true_eq (p := (k : Int) < T), decide_eq_false_iff_not (p := (k : Int) < T), wrap_id (n := (k : Int) + 1) (by omega) (by omega)]
  refine ⟨fun h1 => ⟨q1, q2, by simp, trivial, by omega, by omega, ⟨trivial, trivial, trivial, trivial⟩, T - (k + 1), by omega, k + 1, by omega, by omega, rfl, ?_⟩, fun h1 => ?_⟩
  · rw [refsOf_succ]; exact rfs_snoc _ ⟨h, ep, (k : Int)⟩
  · have : k = T := by omega
    subst this; rfl
theorem c_ThingsInS {w : World'} (hn : totN w.l ≤ 1048576) (hok : ∀ n ∈ w.l, n.ok) {h : Handle} (hh : h.ok) : CallD Try.prog F_spec_ThingsIn [rWorld w, handleS h] fun r _ => r = oRf (thingsIn w h) := by
  have hz := szs_nonneg w.l
  have hl : w.l.length ≤ 1048576 := by unfold totN at hn; omega
  have hle := thingsIn_len hn h
  refine k_spec_ThingsIn ?_
  unfold vc_spec_ThingsIn
  refine ⟨_, _, c_FindRoomS hl hok hh, ?_⟩
  by_cases g0 : findC w h = 0
  · have hs := findC_slot g0
    obtain ⟨q1, q2⟩ := slotB_iff.1 hs
    obtain ⟨hi, e⟩ := nodeAt_eq hs
    have eT : thingsIn w h = refsOf h w.l[(findK w h).toNat].ep w.l[(findK w h).toNat].things.length := by unfold thingsIn; rw [if_pos g0, e]
    rw [eT] at hle ⊢
    rw [refsOf_length] at hle
    simp only [nI, n_nodes, drop_nodes hi, List.drop_zero, List.drop_succ_cons, hdD_cons, isI_iV, asI_iV, isL_sl, es_sl, n_things, n_one4]
    generalize w.l[(findK w h).toNat].things.length = T at *
    generalize w.l[(findK w h).toNat].ep = ep at *
    refine ⟨fun es n m => ∃ k : Nat, n = k ∧ k ≤ T ∧ m = T - k ∧ es = rfs (refsOf h ep k), ⟨_, 0, rfl, Nat.zero_le _, rfl, rfl⟩, ?_⟩
    rintro es n m ⟨k, rfl, hk, rfl, rfl⟩
    simp only [n_refs, refsOf_length, decide_eq_true_eq (p := (k : Int) < T), decide_eq_false_iff_not (p := (k : Int) < T), wrap_id (n := (k : Int) + 1) (by omega) (by omega)]
    refine ⟨fun _ => ⟨q1, q2, by simp, trivial, fun h1 => ⟨q1, q2, by simp, trivial, by omega, by omega, ⟨trivial, trivial, trivial, trivial⟩, T - (k + 1), by omega, k + 1, by omega, by omega, rfl, ?_⟩, fun h1 => ?_⟩, fun g => absurd g (by simp [g0])⟩
    · rw [refsOf_succ]; exact rfs_snoc _ ⟨h, ep, (k : Int)⟩
    · have : k = T := by omega
      subst this; rfl
  · refine ⟨fun es n m => es = [], ⟨0, rfl⟩, ?_⟩
    rintro es n m rfl
    refine ⟨fun g => absurd g (by simp [g0]), fun _ => ?_⟩
    show oRf [] = oRf (thingsIn w h)
    exact oRf_eq (by unfold thingsIn; rw [if_neg g0])
end Go.Proofs.Ytmnfcahbmlfccaa
