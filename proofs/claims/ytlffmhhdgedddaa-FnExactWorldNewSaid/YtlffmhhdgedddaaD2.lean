/- The library: parts D1 to D2. -/
import Derived.Test.YtlffmhhdgedddaaL26
/- The data of this program as plain lists and structures, and how they lie in cells. -/
namespace Go.Proofs.Ytlffmhhdgedddaa
open Go Go.Proofs.Ytlffmhhdgedddaa.DL

def I64 (n : Int) : Prop := -9223372036854775808 ≤ n ∧ n ≤ 9223372036854775807
theorem wrapI (n : Int) : IntKind.i64.wrap n = if n % 18446744073709551616 ≥ 9223372036854775808 then n % 18446744073709551616 - 18446744073709551616 else n % 18446744073709551616 := by
  simp [IntKind.wrap, IntKind.bits, IntKind.signed]
theorem wrapU (n : Int) : IntKind.u64.wrap n = n % 18446744073709551616 := by simp [IntKind.wrap, IntKind.bits, IntKind.signed]
theorem wrap8 (n : Int) : IntKind.u8.wrap n = n % 256 := by simp [IntKind.wrap, IntKind.bits, IntKind.signed]
theorem wrap_id {n : Int} (h1 : -9223372036854775808 ≤ n) (h2 : n ≤ 9223372036854775807) : IntKind.i64.wrap n = n := by
  rw [wrapI]; split <;> omega
theorem wrap_I64 (n : Int) : I64 (IntKind.i64.wrap n) := by
  unfold I64; rw [wrapI]; split <;> omega

def ints (l : List Int) : List DV := l.map fun n => iV n
def byts (l : List Int) : List DV := l.map fun n => uV n
def flat {α : Type} (enc : α → List DV) (l : List α) : List DV := l.flatMap enc

theorem ints_length (l : List Int) : (ints l).length = l.length := by simp [ints]
theorem byts_length (l : List Int) : (byts l).length = l.length := by simp [byts]
theorem n_one (es : List DV) : (DV.sl 1 es).n = es.length := rfl
theorem n_ints (l : List Int) : (DV.sl 1 (ints l)).n = l.length := ints_length l
theorem n_byts (l : List Int) : (DV.sl 1 (byts l)).n = l.length := byts_length l
theorem es_sl (sz : Nat) (es : List DV) : (DV.sl sz es).es = es := rfl
theorem AllVal_ints (l : List Int) : AllVal (ints l) := fun d hd => by
  obtain ⟨n, _, rfl⟩ := List.mem_map.1 hd; exact trivial
theorem AllVal_byts (l : List Int) : AllVal (byts l) := fun d hd => by
  obtain ⟨n, _, rfl⟩ := List.mem_map.1 hd; exact trivial
theorem hdD_cons (d : DV) (ds : List DV) : hdD (d :: ds) = d := rfl
theorem asI_iV (n : Int) : (iV n).asI = n := rfl
theorem asI_uV (n : Int) : (uV n).asI = n := rfl
theorem isI_iV (n : Int) : DV.isI .i64 (iV n) = True := eq_true rfl
theorem isI_uV (n : Int) : DV.isI .u8 (uV n) = True := eq_true rfl
theorem isL_sl (sz : Nat) (es : List DV) : DV.isL sz (.sl sz es) = True := eq_true rfl
theorem hd_drop (es : List DV) (k : Nat) : hdD (es.drop k) = es.getD k dfl := by
  simp [hdD, List.headD_eq_head?_getD, List.head?_drop, List.getD_eq_getElem?_getD]
theorem getD_ints {l : List Int} {k : Nat} (h : k < l.length) : (ints l).getD k dfl = iV (l.getD k 0) := by
  simp [ints, List.getD_eq_getElem?_getD, h]
theorem getD_byts {l : List Int} {k : Nat} (h : k < l.length) : (byts l).getD k dfl = uV (l.getD k 0) := by
  simp [byts, List.getD_eq_getElem?_getD, h]
theorem hd_ints {l : List Int} {k : Nat} (h : k < l.length) : hdD ((ints l).drop k) = iV (l.getD k 0) := by rw [hd_drop, getD_ints h]
theorem hd_byts {l : List Int} {k : Nat} (h : k < l.length) : hdD ((byts l).drop k) = uV (l.getD k 0) := by rw [hd_drop, getD_byts h]
theorem set_ints (l : List Int) (k : Nat) (n : Int) : (ints l).set k (iV n) = ints (l.set k n) := by simp [ints, List.map_set]
theorem set_byts (l : List Int) (k : Nat) (n : Int) : (byts l).set k (uV n) = byts (l.set k n) := by simp [byts, List.map_set]
theorem ints_app (a b : List Int) : ints a ++ ints b = ints (a ++ b) := by simp [ints]
theorem ints_snoc (a : List Int) (n : Int) : ints a ++ [iV n] = ints (a ++ [n]) := by simp [ints]
theorem byts_app (a b : List Int) : byts a ++ byts b = byts (a ++ b) := by simp [byts]
theorem ints_nil : ints [] = [] := rfl
theorem byts_nil : byts [] = [] := rfl
theorem zero_ints (n : Nat) : List.replicate n (iV 0) = ints (List.replicate n 0) := by simp [ints]
theorem zero_byts (n : Nat) : List.replicate n (uV 0) = byts (List.replicate n 0) := by simp [byts]
theorem ints_inj {a b : List Int} (h : ints a = ints b) : a = b := by
  unfold ints at h
  exact (List.map_inj_right (fun x y e => by simpa using e)).1 h
theorem take_ints (l : List Int) (k : Nat) : (ints l).take k = ints (l.take k) := by simp [ints, List.map_take]
theorem drop_ints (l : List Int) (k : Nat) : (ints l).drop k = ints (l.drop k) := by simp [ints, List.map_drop]
theorem take_byts (l : List Int) (k : Nat) : (byts l).take k = byts (l.take k) := by simp [byts, List.map_take]
theorem drop_byts (l : List Int) (k : Nat) : (byts l).drop k = byts (l.drop k) := by simp [byts, List.map_drop]

section
variable {α : Type} {enc : α → List DV} {sz : Nat} (hs : ∀ a, (enc a).length = sz)
include hs
theorem flat_length (l : List α) : (flat enc l).length = l.length * sz := by
  induction l with
  | nil => simp [flat]
  | cons a l ih => simp only [flat, List.flatMap_cons, List.length_append, hs] at ih ⊢; rw [ih, List.length_cons, Nat.add_mul]; omega
theorem flat_n (l : List α) (h : 0 < sz) : (DV.sl sz (flat enc l)).n = l.length := by
  rw [DV.n_eq, flat_length hs]; exact Nat.mul_div_cancel _ h
theorem flat_drop (l : List α) (k : Nat) (h : k < l.length) : (flat enc l).drop (k * sz) = enc l[k] ++ flat enc (l.drop (k + 1)) := by
  induction l generalizing k with
  | nil => simp at h
  | cons a l ih =>
    cases k with
    | zero => simp [flat]
    | succ k =>
      have h' : k < l.length := by simpa using h
      have : (k + 1) * sz = (enc a).length + k * sz := by rw [hs, Nat.add_mul]; omega
      have e : flat enc (a :: l) = enc a ++ flat enc l := rfl
      rw [this, e, List.drop_append, List.drop_eq_nil_of_le (by omega)]
      have := ih k h'
      simpa using this
theorem flat_getD (l : List α) (k j : Nat) (h : k < l.length) (hj : j < sz) : (flat enc l).getD (k * sz + j) dfl = (enc l[k]).getD j dfl := by
  have h1 := flat_drop hs l k h
  have : (flat enc l)[k * sz + j]? = (enc l[k])[j]? := by
    rw [← List.getElem?_drop, h1, List.getElem?_append_left (by rw [hs]; exact hj)]
  simp only [List.getD_eq_getElem?_getD, this]
theorem flat_dropAll (k : Nat) : ∀ l : List α, (flat enc l).drop (k * sz) = flat enc (l.drop k) := by
  induction k with
  | zero => intro l; simp
  | succ k ih =>
    intro l
    cases l with
    | nil => simp [flat]
    | cons a l =>
      have e : flat enc (a :: l) = enc a ++ flat enc l := rfl
      have t1 : (k + 1) * sz = (enc a).length + k * sz := by rw [hs, Nat.add_mul]; omega
      rw [e, t1, List.drop_append, List.drop_eq_nil_of_le (by omega), List.drop_succ_cons, ← ih l, Nat.add_sub_cancel_left, List.nil_append]
theorem flat_takeAll (k : Nat) : ∀ l : List α, (flat enc l).take (k * sz) = flat enc (l.take k) := by
  induction k with
  | zero => intro l; simp [flat]
  | succ k ih =>
    intro l
    cases l with
    | nil => simp [flat]
    | cons a l =>
      have e : ∀ l, flat enc (a :: l) = enc a ++ flat enc l := fun _ => rfl
      have t1 : (k + 1) * sz = (enc a).length + k * sz := by rw [hs, Nat.add_mul]; omega
      rw [e, t1, List.take_append, List.take_of_length_le (by omega), List.take_succ_cons, e, ← ih l, Nat.add_sub_cancel_left]
theorem flat_set (l : List α) (k : Nat) (a : α) (h : k < l.length) : flat enc (l.set k a) = (flat enc l).take (k * sz) ++ (enc a ++ (flat enc l).drop ((k + 1) * sz)) := by
  rw [flat_takeAll hs, flat_dropAll hs, List.set_eq_take_append_cons_drop, if_pos h]
  simp [flat]
end
theorem flat_nil {α : Type} (enc : α → List DV) : flat enc [] = [] := rfl
theorem flat_cons {α : Type} (enc : α → List DV) (a : α) (l : List α) : flat enc (a :: l) = enc a ++ flat enc l := rfl
theorem flat_app {α : Type} (enc : α → List DV) (a b : List α) : flat enc a ++ flat enc b = flat enc (a ++ b) := by simp [flat]
theorem flat_one {α : Type} (enc : α → List DV) (a : List α) (x : α) : flat enc a ++ enc x = flat enc (a ++ [x]) := by simp [flat]

structure Conf where
  chunks : Int
  size : Int
  slots : Int
  tax : Int
  slice : Int
  gens : Int
structure Thing where
  pos : Int
  len : Int
  run : Int
structure Handle where
  slot : Int
  gen : Int
structure Ref where
  h : Handle
  ep : Int
  no : Int
structure Node where
  st : Int
  gen : Int
  ep : Int
  up : Int
  upEp : Int
  first : Int
  next : Int
  prev : Int
  chunks : List Int
  cur : Int
  bump : Int
  things : List Thing
  tags : List Int
structure Waste where
  slot : Int
  first : Int
  tags : List Int
  chunks : List Int
  done : Int
structure Pool where
  mem : List Int
  st : List Int
  own : List Int
structure World' where
  c : Conf
  p : Pool
  l : List Node
  q : List Waste
  log : List Int
def Thing.enc (t : Thing) : List DV := [iV t.pos, iV t.len, iV t.run]
def thgs (l : List Thing) : List DV := flat Thing.enc l
def Node.enc (n : Node) : List DV := [iV n.st, iV n.gen, iV n.ep, iV n.up, iV n.upEp, iV n.first, iV n.next, iV n.prev, .sl 1 (ints n.chunks), iV n.cur, iV n.bump, .sl 3 (thgs n.things), .sl 1 (ints n.tags)]
def nods (l : List Node) : List DV := flat Node.enc l
def Waste.enc (x : Waste) : List DV := [iV x.slot, iV x.first, .sl 1 (ints x.tags), .sl 1 (ints x.chunks), iV x.done]
def wsts (l : List Waste) : List DV := flat Waste.enc l
theorem Thing.enc_len (t : Thing) : t.enc.length = 3 := rfl
theorem Node.enc_len (n : Node) : n.enc.length = 13 := rfl
theorem Waste.enc_len (x : Waste) : x.enc.length = 5 := rfl
theorem things_length (l : List Thing) : (thgs l).length = l.length * 3 := flat_length Thing.enc_len l
theorem nodes_length (l : List Node) : (nods l).length = l.length * 13 := flat_length Node.enc_len l
theorem wastes_length (l : List Waste) : (wsts l).length = l.length * 5 := flat_length Waste.enc_len l
theorem n_things (l : List Thing) : (DV.sl 3 (thgs l)).n = l.length := flat_n Thing.enc_len l (by omega)
theorem n_nodes (l : List Node) : (DV.sl 13 (nods l)).n = l.length := flat_n Node.enc_len l (by omega)
theorem n_wastes (l : List Waste) : (DV.sl 5 (wsts l)).n = l.length := flat_n Waste.enc_len l (by omega)
theorem drop_things {l : List Thing} {k : Nat} (h : k < l.length) : (thgs l).drop (k * 3) = iV l[k].pos :: iV l[k].len :: iV l[k].run :: thgs (l.drop (k + 1)) := flat_drop Thing.enc_len l k h
theorem drop_nodes {l : List Node} {k : Nat} (h : k < l.length) : (nods l).drop (k * 13) = iV l[k].st :: iV l[k].gen :: iV l[k].ep :: iV l[k].up :: iV l[k].upEp :: iV l[k].first :: iV l[k].next :: iV l[k].prev ::
    .sl 1 (ints l[k].chunks) :: iV l[k].cur :: iV l[k].bump :: .sl 3 (thgs l[k].things) :: .sl 1 (ints l[k].tags) :: nods (l.drop (k + 1)) := flat_drop Node.enc_len l k h
theorem drop_wastes {l : List Waste} {k : Nat} (h : k < l.length) : (wsts l).drop (k * 5) = iV l[k].slot :: iV l[k].first :: .sl 1 (ints l[k].tags) :: .sl 1 (ints l[k].chunks) :: iV l[k].done :: wsts (l.drop (k + 1)) := flat_drop Waste.enc_len l k h
theorem AllVal_things (l : List Thing) : AllVal (thgs l) := fun d hd => by
  obtain ⟨t, _, ht⟩ := List.mem_flatMap.1 hd
  simp only [Thing.enc, List.mem_cons, List.not_mem_nil, or_false] at ht
  rcases ht with rfl | rfl | rfl <;> exact trivial

/-- Values as a callee is lent them. -/
abbrev rI (l : List Int) : SV := oneC (.rd (.sl 1 (ints l)))
abbrev oI (l : List Int) : SV := oneC (.own (.sl 1 (ints l)))
abbrev rB (l : List Int) : SV := oneC (.rd (.sl 1 (byts l)))
abbrev oB (l : List Int) : SV := oneC (.own (.sl 1 (byts l)))
abbrev rTh (l : List Thing) : SV := oneC (.rd (.sl 3 (thgs l)))
abbrev oTh (l : List Thing) : SV := oneC (.own (.sl 3 (thgs l)))
abbrev rNs (l : List Node) : SV := oneC (.rd (.sl 13 (nods l)))
abbrev oNs (l : List Node) : SV := oneC (.own (.sl 13 (nods l)))
abbrev iS (n : Int) : SV := oneC (iC n)
abbrev bS (b : Bool) : SV := oneC (bC b)
abbrev confS (c : Conf) : SV := aS [iC c.chunks, iC c.size, iC c.slots, iC c.tax, iC c.slice, iC c.gens]
abbrev thingS (t : Thing) : SV := aS [iC t.pos, iC t.len, iC t.run]
abbrev handleS (h : Handle) : SV := aS [iC h.slot, iC h.gen]
abbrev refS (r : Ref) : SV := aS [iC r.h.slot, iC r.h.gen, iC r.ep, iC r.no]
abbrev rNode (n : Node) : SV := aS [iC n.st, iC n.gen, iC n.ep, iC n.up, iC n.upEp, iC n.first, iC n.next, iC n.prev, .rd (.sl 1 (ints n.chunks)), iC n.cur, iC n.bump, .rd (.sl 3 (thgs n.things)), .rd (.sl 1 (ints n.tags))]
abbrev oNode (n : Node) : SV := aS [iC n.st, iC n.gen, iC n.ep, iC n.up, iC n.upEp, iC n.first, iC n.next, iC n.prev, .own (.sl 1 (ints n.chunks)), iC n.cur, iC n.bump, .own (.sl 3 (thgs n.things)), .own (.sl 1 (ints n.tags))]
abbrev rWaste (x : Waste) : SV := aS [iC x.slot, iC x.first, .rd (.sl 1 (ints x.tags)), .rd (.sl 1 (ints x.chunks)), iC x.done]
abbrev oWaste (x : Waste) : SV := aS [iC x.slot, iC x.first, .own (.sl 1 (ints x.tags)), .own (.sl 1 (ints x.chunks)), iC x.done]

theorem bS_eq {b b' : Bool} (h : b = b') : bS b = bS b' := by rw [h]
theorem iS_eq {a b : Int} (h : a = b) : iS a = iS b := by rw [h]
theorem oI_eq {a b : List Int} (h : a = b) : oI a = oI b := by rw [h]
theorem getD_eq {l : List Int} {k : Nat} (h : k < l.length) : l.getD k 0 = l[k] := by simp [List.getD_eq_getElem?_getD, h]

end Go.Proofs.Ytlffmhhdgedddaa

/- Well-shaped inputs are the cells of plain data. -/
namespace Go.Proofs.Ytlffmhhdgedddaa
open Go Go.Proofs.Ytlffmhhdgedddaa.DL Go.RowKit

theorem i64_wf {n : Int} (h : (Lit.int .i64 n).wf = true) : I64 n := by
  simp only [Lit.wf, Bool.and_eq_true, decide_eq_true_eq] at h
  have e1 : IntKind.i64.min = -9223372036854775808 := by decide
  have e2 : IntKind.i64.max = 9223372036854775807 := by decide
  rw [e1, e2] at h
  exact h
theorem u8_wf {n : Int} (h : (Lit.int .u8 n).wf = true) : 0 ≤ n ∧ n ≤ 255 := by
  simp only [Lit.wf, Bool.and_eq_true, decide_eq_true_eq] at h
  have e1 : IntKind.u8.min = 0 := by decide
  have e2 : IntKind.u8.max = 255 := by decide
  rw [e1, e2] at h
  exact h
abbrev M63 : Nat := 9223372036854775807
theorem maxLen_M : maxLen = M63 := by unfold maxLen; rfl

theorem rows_inv {α : Type} {e : List Sh} {enc : α → List DV} {ok : α → Prop} (h : ∀ r, WTs e r → ∃ a, r = enc a ∧ ok a) : ∀ rows : List (List DV), (∀ r ∈ rows, WTs e r) → ∃ l : List α, rows.flatten = flat enc l ∧ l.length = rows.length ∧ ∀ a ∈ l, ok a
  | [], _ => ⟨[], rfl, rfl, fun a ha => by cases ha⟩
  | r :: rows, hr => by
    obtain ⟨a, h1, h2⟩ := h r (hr r (List.mem_cons_self ..))
    obtain ⟨l, h3, h4, h5⟩ := rows_inv h rows fun r hr' => hr r (List.mem_cons_of_mem _ hr')
    refine ⟨a :: l, by simp [flat, h1] at h3 ⊢; exact h3, by simp [h4], fun b hb => ?_⟩
    rcases List.mem_cons.1 hb with rfl | hb
    · exact h2
    · exact h5 b hb
theorem sl_inv {α : Type} {e : List Sh} {enc : α → List DV} {ok : α → Prop} (h : ∀ r, WTs e r → ∃ a, r = enc a ∧ ok a) {d : DV} (hd : WT (.sl e) d) : ∃ l : List α, d = .sl e.length (flat enc l) ∧ l.length ≤ M63 ∧ ∀ a ∈ l, ok a := by
  cases hd with
  | sl h1 h2 =>
    obtain ⟨l, h3, h4, h5⟩ := rows_inv h _ h2
    exact ⟨l, by rw [h3], by rw [h4, ← maxLen_M]; exact h1, h5⟩
theorem ints_flat (l : List Int) : flat (fun n => [iV n]) l = ints l := by
  induction l with
  | nil => rfl
  | cons a l ih => rw [flat_cons, ih]; rfl
theorem byts_flat (l : List Int) : flat (fun n => [uV n]) l = byts l := by
  induction l with
  | nil => rfl
  | cons a l ih => rw [flat_cons, ih]; rfl
theorem nil_inv {ds : List DV} (h : WTs [] ds) : ds = [] := by cases h; rfl
theorem cons_inv {s : Sh} {ss : List Sh} {ds : List DV} (h : WTs (s :: ss) ds) : ∃ d r, ds = d :: r ∧ WT s d ∧ WTs ss r := by
  cases h with
  | cons h1 h2 => exact ⟨_, _, rfl, h1, h2⟩
theorem int_inv {d : DV} (h : WT (.int .i64) d) : ∃ n, d = iV n ∧ I64 n := by
  cases h with
  | int h => exact ⟨_, rfl, i64_wf h⟩
theorem u8_inv {d : DV} (h : WT (.int .u8) d) : ∃ n, d = uV n ∧ 0 ≤ n ∧ n ≤ 255 := by
  cases h with
  | int h => exact ⟨_, rfl, u8_wf h⟩
theorem ints_inv {d : DV} (h : WT (.sl [.int .i64]) d) : ∃ l : List Int, d = .sl 1 (ints l) ∧ l.length ≤ M63 ∧ ∀ a ∈ l, I64 a := by
  obtain ⟨l, h1, h2, h3⟩ := sl_inv (enc := fun n => [iV n]) (ok := I64) (fun r hr => by
    obtain ⟨d, r', rfl, g1, g2⟩ := cons_inv hr
    obtain ⟨n, rfl, hn⟩ := int_inv g1
    rw [nil_inv g2]
    exact ⟨n, rfl, hn⟩) h
  exact ⟨l, by rw [h1, ints_flat]; rfl, h2, h3⟩
theorem byts_inv {d : DV} (h : WT (.sl [.int .u8]) d) : ∃ l : List Int, d = .sl 1 (byts l) ∧ l.length ≤ M63 ∧ ∀ a ∈ l, 0 ≤ a ∧ a ≤ 255 := by
  obtain ⟨l, h1, h2, h3⟩ := sl_inv (enc := fun n => [uV n]) (ok := fun n => 0 ≤ n ∧ n ≤ 255) (fun r hr => by
    obtain ⟨d, r', rfl, g1, g2⟩ := cons_inv hr
    obtain ⟨n, rfl, hn⟩ := u8_inv g1
    rw [nil_inv g2]
    exact ⟨n, rfl, hn⟩) h
  exact ⟨l, by rw [h1, byts_flat]; rfl, h2, h3⟩

def Conf.ok (c : Conf) : Prop := I64 c.chunks ∧ I64 c.size ∧ I64 c.slots ∧ I64 c.tax ∧ I64 c.slice ∧ I64 c.gens
def Thing.ok (t : Thing) : Prop := I64 t.pos ∧ I64 t.len ∧ I64 t.run
def Handle.ok (h : Handle) : Prop := I64 h.slot ∧ I64 h.gen
def Ref.ok (r : Ref) : Prop := r.h.ok ∧ I64 r.ep ∧ I64 r.no
def Ints (l : List Int) : Prop := l.length ≤ M63 ∧ ∀ a ∈ l, I64 a
def Node.ok (n : Node) : Prop := I64 n.st ∧ I64 n.gen ∧ I64 n.ep ∧ I64 n.up ∧ I64 n.upEp ∧ I64 n.first ∧ I64 n.next ∧ I64 n.prev ∧ Ints n.chunks ∧ I64 n.cur ∧ I64 n.bump ∧ (n.things.length ≤ M63 ∧ ∀ t ∈ n.things, t.ok) ∧ Ints n.tags
def Waste.ok (x : Waste) : Prop := I64 x.slot ∧ I64 x.first ∧ Ints x.tags ∧ Ints x.chunks ∧ I64 x.done
theorem conf_inv {ds : List DV} (h : WTs [.int .i64, .int .i64, .int .i64, .int .i64, .int .i64, .int .i64] ds) : ∃ c : Conf, ds = [iV c.chunks, iV c.size, iV c.slots, iV c.tax, iV c.slice, iV c.gens] ∧ c.ok := by
  obtain ⟨d1, r, rfl, h1, h⟩ := cons_inv h
  obtain ⟨d2, r, rfl, h2, h⟩ := cons_inv h
  obtain ⟨d3, r, rfl, h3, h⟩ := cons_inv h
  obtain ⟨d4, r, rfl, h4, h⟩ := cons_inv h
  obtain ⟨d5, r, rfl, h5, h⟩ := cons_inv h
  obtain ⟨d6, r, rfl, h6, h⟩ := cons_inv h
  rw [nil_inv h]
  obtain ⟨a1, rfl, k1⟩ := int_inv h1
  obtain ⟨a2, rfl, k2⟩ := int_inv h2
  obtain ⟨a3, rfl, k3⟩ := int_inv h3
  obtain ⟨a4, rfl, k4⟩ := int_inv h4
  obtain ⟨a5, rfl, k5⟩ := int_inv h5
  obtain ⟨a6, rfl, k6⟩ := int_inv h6
  exact ⟨⟨a1, a2, a3, a4, a5, a6⟩, rfl, k1, k2, k3, k4, k5, k6⟩
theorem thing_inv {ds : List DV} (h : WTs [.int .i64, .int .i64, .int .i64] ds) : ∃ t : Thing, ds = t.enc ∧ t.ok := by
  obtain ⟨d1, r, rfl, h1, h⟩ := cons_inv h
  obtain ⟨d2, r, rfl, h2, h⟩ := cons_inv h
  obtain ⟨d3, r, rfl, h3, h⟩ := cons_inv h
  rw [nil_inv h]
  obtain ⟨a1, rfl, k1⟩ := int_inv h1
  obtain ⟨a2, rfl, k2⟩ := int_inv h2
  obtain ⟨a3, rfl, k3⟩ := int_inv h3
  exact ⟨⟨a1, a2, a3⟩, rfl, k1, k2, k3⟩
theorem handle_inv {ds : List DV} (h : WTs [.int .i64, .int .i64] ds) : ∃ t : Handle, ds = [iV t.slot, iV t.gen] ∧ t.ok := by
  obtain ⟨d1, r, rfl, h1, h⟩ := cons_inv h
  obtain ⟨d2, r, rfl, h2, h⟩ := cons_inv h
  rw [nil_inv h]
  obtain ⟨a1, rfl, k1⟩ := int_inv h1
  obtain ⟨a2, rfl, k2⟩ := int_inv h2
  exact ⟨⟨a1, a2⟩, rfl, k1, k2⟩
theorem ref_inv {ds : List DV} (h : WTs [.int .i64, .int .i64, .int .i64, .int .i64] ds) : ∃ r : Ref, ds = [iV r.h.slot, iV r.h.gen, iV r.ep, iV r.no] ∧ r.ok := by
  obtain ⟨d1, r, rfl, h1, h⟩ := cons_inv h
  obtain ⟨d2, r, rfl, h2, h⟩ := cons_inv h
  obtain ⟨d3, r, rfl, h3, h⟩ := cons_inv h
  obtain ⟨d4, r, rfl, h4, h⟩ := cons_inv h
  rw [nil_inv h]
  obtain ⟨a1, rfl, k1⟩ := int_inv h1
  obtain ⟨a2, rfl, k2⟩ := int_inv h2
  obtain ⟨a3, rfl, k3⟩ := int_inv h3
  obtain ⟨a4, rfl, k4⟩ := int_inv h4
  exact ⟨⟨⟨a1, a2⟩, a3, a4⟩, rfl, ⟨k1, k2⟩, k3, k4⟩
theorem things_inv {d : DV} (h : WT (.sl [.int .i64, .int .i64, .int .i64]) d) : ∃ l : List Thing, d = .sl 3 (thgs l) ∧ l.length ≤ M63 ∧ ∀ t ∈ l, t.ok :=
  sl_inv (enc := Thing.enc) (ok := Thing.ok) (fun _ hr => thing_inv hr) h
theorem waste_inv {ds : List DV} (h : WTs [.int .i64, .int .i64, .sl [.int .i64], .sl [.int .i64], .int .i64] ds) : ∃ x : Waste, ds = x.enc ∧ x.ok := by
  obtain ⟨d1, r, rfl, h1, h⟩ := cons_inv h
  obtain ⟨d2, r, rfl, h2, h⟩ := cons_inv h
  obtain ⟨d3, r, rfl, h3, h⟩ := cons_inv h
  obtain ⟨d4, r, rfl, h4, h⟩ := cons_inv h
  obtain ⟨d5, r, rfl, h5, h⟩ := cons_inv h
  rw [nil_inv h]
  obtain ⟨a1, rfl, k1⟩ := int_inv h1
  obtain ⟨a2, rfl, k2⟩ := int_inv h2
  obtain ⟨a3, rfl, k3⟩ := ints_inv h3
  obtain ⟨a4, rfl, k4⟩ := ints_inv h4
  obtain ⟨a5, rfl, k5⟩ := int_inv h5
  exact ⟨⟨a1, a2, a3, a4, a5⟩, rfl, k1, k2, k3, k4, k5⟩
theorem node_inv {ds : List DV} (h : WTs [.int .i64, .int .i64, .int .i64, .int .i64, .int .i64, .int .i64, .int .i64, .int .i64, .sl [.int .i64], .int .i64, .int .i64, .sl [.int .i64, .int .i64, .int .i64], .sl [.int .i64]] ds) :
    ∃ n : Node, ds = n.enc ∧ n.ok := by
  obtain ⟨d1, r, rfl, h1, h⟩ := cons_inv h
  obtain ⟨d2, r, rfl, h2, h⟩ := cons_inv h
  obtain ⟨d3, r, rfl, h3, h⟩ := cons_inv h
  obtain ⟨d4, r, rfl, h4, h⟩ := cons_inv h
  obtain ⟨d5, r, rfl, h5, h⟩ := cons_inv h
  obtain ⟨d6, r, rfl, h6, h⟩ := cons_inv h
  obtain ⟨d7, r, rfl, h7, h⟩ := cons_inv h
  obtain ⟨d8, r, rfl, h8, h⟩ := cons_inv h
  obtain ⟨d9, r, rfl, h9, h⟩ := cons_inv h
  obtain ⟨d10, r, rfl, h10, h⟩ := cons_inv h
  obtain ⟨d11, r, rfl, h11, h⟩ := cons_inv h
  obtain ⟨d12, r, rfl, h12, h⟩ := cons_inv h
  obtain ⟨d13, r, rfl, h13, h⟩ := cons_inv h
  rw [nil_inv h]
  obtain ⟨a1, rfl, k1⟩ := int_inv h1
  obtain ⟨a2, rfl, k2⟩ := int_inv h2
  obtain ⟨a3, rfl, k3⟩ := int_inv h3
  obtain ⟨a4, rfl, k4⟩ := int_inv h4
  obtain ⟨a5, rfl, k5⟩ := int_inv h5
  obtain ⟨a6, rfl, k6⟩ := int_inv h6
  obtain ⟨a7, rfl, k7⟩ := int_inv h7
  obtain ⟨a8, rfl, k8⟩ := int_inv h8
  obtain ⟨a9, rfl, k9⟩ := ints_inv h9
  obtain ⟨a10, rfl, k10⟩ := int_inv h10
  obtain ⟨a11, rfl, k11⟩ := int_inv h11
  obtain ⟨a12, rfl, k12⟩ := things_inv h12
  obtain ⟨a13, rfl, k13⟩ := ints_inv h13
  exact ⟨⟨a1, a2, a3, a4, a5, a6, a7, a8, a9, a10, a11, a12, a13⟩, rfl, k1, k2, k3, k4, k5, k6, k7, k8, k9, k10, k11, k12, k13⟩
theorem nodes_inv {d : DV} (h : WT (.sl [.int .i64, .int .i64, .int .i64, .int .i64, .int .i64, .int .i64, .int .i64, .int .i64, .sl [.int .i64], .int .i64, .int .i64, .sl [.int .i64, .int .i64, .int .i64], .sl [.int .i64]]) d) :
    ∃ l : List Node, d = .sl 13 (nods l) ∧ l.length ≤ M63 ∧ ∀ t ∈ l, t.ok := sl_inv (enc := Node.enc) (ok := Node.ok) (fun _ hr => node_inv hr) h
theorem wastes_inv {d : DV} (h : WT (.sl [.int .i64, .int .i64, .sl [.int .i64], .sl [.int .i64], .int .i64]) d) : ∃ l : List Waste, d = .sl 5 (wsts l) ∧ l.length ≤ M63 ∧ ∀ t ∈ l, t.ok :=
  sl_inv (enc := Waste.enc) (ok := Waste.ok) (fun _ hr => waste_inv hr) h
end Go.Proofs.Ytlffmhhdgedddaa
