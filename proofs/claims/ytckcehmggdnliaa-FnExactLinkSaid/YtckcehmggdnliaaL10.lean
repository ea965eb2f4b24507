/- The data level, part 10: parts of tuples, cuts, new slices. -/
import Derived.Test.YtckcehmggdnliaaL9
namespace Go.Proofs.Ytckcehmggdnliaa.DL
open Go Go.RowKit

theorem madeCells_rows (z : Array Value) : ∀ n, (madeCells z (n * z.size)).toList = (List.replicate n z.toList).flatten
  | 0 => by simp [madeCells]
  | n + 1 => by
    have ih := madeCells_rows z n
    simp only [madeCells, Array.toList_map, Array.toList_range] at ih ⊢
    rw [Nat.succ_mul, List.range_add, List.map_append, ih, List.replicate_succ', List.flatten_append]
    congr 1
    simp only [List.map_map, List.flatten_singleton]
    apply List.ext_getElem
    · simp
    · intro i h1 h2
      have hi : i < z.size := by simpa using h1
      simp [Nat.add_comm (n * z.size) i, Nat.add_mul_mod_self_right, Nat.mod_eq_of_lt hi, hi]

theorem zeroRows_eq (zs : List CV) (n : Nat) : zeroRows zs n = (List.replicate n (zs.map CV.toDV)).flatten := by
  unfold zeroRows
  split
  · rename_i z
    induction n with
    | zero => rfl
    | succ n ih => simp only [List.replicate_succ, ih]; rfl
  · rfl

section
variable {P : Program} {tb : Tb} {φ : Option Nat → List Nat} {w0 w w' : World} {F0 : List Nat} {sl : Sl} {fx : SV} {ts : Array Value} {fv : Value} {ds : List Deferred}

theorem Rd.zeros {o : Bool} : ∀ {zs : List CV}, zs.all zeroOk = true → Rd o w (zs.map zeroV) (zs.map CV.toDV) []
  | [], _ => .nil
  | z :: zs, h => by
    simp only [List.all_cons, Bool.and_eq_true] at h
    cases z with
    | sc v => exact .sc h.1 (Rd.zeros h.2)
    | own d =>
      cases d with
      | val v => simp [zeroOk] at h
      | sl sz es =>
        cases es with
        | nil => exact .e0 (fun _ => rfl) (Rd.zeros h.2)
        | cons _ _ => simp [zeroOk] at h
    | _ => simp [zeroOk] at h

theorem Rd.rows {o : Bool} {vs : List Value} {es : List DV} (h : Rd o w vs es []) : ∀ n, Rd o w (List.replicate n vs).flatten (List.replicate n es).flatten []
  | 0 => .nil
  | n + 1 => by
    simp only [List.replicate_succ, List.flatten_cons]
    exact Rd.append h (Rd.rows h n)

theorem make_sound (hT : TbOk P tb) (h : RelW φ w0 F0 sl fx ts fv w) {t ty : TypeId} {l c : Operand} {cs : List Prop} {r : SV} {sl' : Sl}
    (hx : opV tb sl ty (.makeSlice t l c) = some (cs, r, sl')) (hc : ∀ p ∈ cs, p) : Sound P w0 F0 ts ds w (.makeSlice t l c) ty r sl' := by
  simp only [opV] at hx
  split at hx
  · rename_i e k1 n k2 m hk hl hm
    cases hx
    have e0 : n = m := hc _ (by simp)
    subst e0
    have h0 : 0 ≤ n := hc _ (by simp)
    have hb : ((tb e).bytes : Int) * n ≤ 281474976710656 := hc _ (by simp)
    have h63 : n ≤ 9223372036854775807 := hc _ (by simp)
    obtain ⟨e1, -⟩ := opView_sc (ds := ds) h hl
    obtain ⟨e2, -⟩ := opView_sc (ds := ds) h hm
    have he : (tb e).k ≠ .other := not_other hT (hc _ (by simp))
    obtain ⟨j, z, h1, h2, h3, h4, h5⟩ := info_of hT he
    have hz : (tb e).zero.all zeroOk = true ∧ (tb e).zero.length = (tb e).size ∧ 0 < (tb e).size := by
      have := (hT e).1
      unfold TIok at this
      split at this
      · rename_i hh; exact absurd hh he
      · exact ⟨this.2.1, this.2.2.1, this.2.2.2.1⟩
    have hzs : z.cells.size = (tb e).size := by
      have := congrArg List.length h4
      simpa [hz.2.1] using this
    have hrun := run_make (P := P) w t e j z ((under_of hT).2.1 e hk) h1 h3 k1 k2 n n h0 (Int.le_refl _) (by rw [h5]; exact hb) h63
    have hcells : (madeCells z.cells (n.toNat * j.size)).toList = (List.replicate n.toNat ((tb e).zero.map zeroV)).flatten := by
      rw [h2, ← hzs, madeCells_rows, h4]
    have hsize : (w.alloc (.cells (madeCells z.cells (n.toNat * j.size)) e)).heap.size = w.heap.size + 1 := by show (w.heap.push _).size = _; simp
    have hrows : (zeroRows (tb e).zero n.toNat).length = n.toNat * (tb e).size := by
      rw [zeroRows_eq]; simp [List.length_flatten, hz.2.1]
    have hrd : Rd true (w.alloc (.cells (madeCells z.cells (n.toNat * j.size)) e)) [.slice (some ⟨w.heap.size, 0, none⟩) n.toNat n.toNat] [.sl (tb e).size (zeroRows (tb e).zero n.toNat)] [w.heap.size] := by
      have := Rd.sl (o := true) (w := w.alloc (.cells (madeCells z.cells (n.toNat * j.size)) e)) (b := w.heap.size) (off := 0) (n := n.toNat) (cap := n.toNat) (sz := (tb e).size)
        (us := (List.replicate n.toNat ((tb e).zero.map zeroV)).flatten) (es := zeroRows (tb e).zero n.toNat) (bs1 := []) (vs := []) (ds := []) (bs2 := [])
        (fun k v hv => by
          rw [← hcells] at hv
          simp only [World.cell?, heap_alloc_self, Nat.zero_add]
          simpa using hv)
        (fun _ => ⟨_, e, heap_alloc_self w _, by rw [size_madeCells, h2]; omega⟩) (by omega) hrows ⟨hz.2.2, Nat.le_refl _⟩
        (by rw [zeroRows_eq]; exact Rd.rows (Rd.zeros hz.1) _) .nil
      simpa using this
    refine ⟨_, _, _, yields_val (s := Instr.makeSlice t (Act.eval ⟨ts, ds⟩ l) (Act.eval ⟨ts, ds⟩ c)) (fun _ _ _ _ => rfl) (by rw [e1, e2]; exact hrun),
      h.fresh (Ext.alloc w _) (ψ := [w.heap.size]) (x := .one (.cell (.own (.sl (tb e).size (zeroRows (tb e).zero n.toNat))))) (by simp) (fun b hb => ?_) hrd⟩
    have : b = w.heap.size := by simpa using hb
    omega
  · cases hx

theorem nil_sound (h : RelW φ w0 F0 sl fx ts fv w) {ty : TypeId} {x : Operand} {cs : List Prop} {r : SV} {sl' : Sl}
    (hx : opV tb sl ty (.nilCheck x) = some (cs, r, sl')) : Sound P w0 F0 ts ds w (.nilCheck x) ty r sl' := by
  simp only [opV] at hx
  split at hx
  · rename_i s q j hp
    cases hx
    have hr := opView_rel (ds := ds) h hp rfl
    obtain ⟨-, hv, b, o, h2, h3, h5⟩ := hr
    exact sound_see h (fun dst pos after guard => .inl (by simp only [execOp, h5]; rfl)) ⟨rfl, hv, b, o, h2, h3, rfl⟩
  · rename_i es hp
    cases hx
    have hr := opView_rel (ds := ds) h hp rfl
    obtain ⟨-, b, o, vs, bs, h1, h2⟩ := hr
    exact sound_see h (fun dst pos after guard => .inl (by simp only [execOp, h1]; rfl)) ⟨rfl, b, o, vs, bs, rfl, h2⟩
  · cases hx

theorem RVs.part {w : World} {φ : Option Nat → List Nat} {f : Nat → Value} {vs : List Value} {rs : List RV} {ψ : List Nat} (h : RVs w φ f vs rs ψ) {i : Nat} {r : RV} (hi : rs[i]? = some r) :
    ∃ v χ ψ', vs[i]? = some v ∧ RVRel w φ f v χ r ∧ RVs w φ f vs (rs.set i (.cell .un)) ψ' ∧ ψ.Perm (χ ++ ψ') := by
  induction h generalizing i with
  | nil => simp at hi
  | @cons v r' ψ1 vs rs ψs h1 h2 ih =>
    cases i with
    | zero =>
      simp only [List.getElem?_cons_zero, Option.some.injEq] at hi
      subst hi
      refine ⟨v, ψ1, ψs, rfl, h1, ?_, .refl _⟩
      have : RVs w φ f (v :: vs) (.cell .un :: rs) ([] ++ ψs) := .cons (show RVRel w φ f v [] (.cell .un) from trivial) h2
      simpa using this
    | succ i =>
      simp only [List.getElem?_cons_succ] at hi
      obtain ⟨v', χ, ψ', g1, g2, g3, g4⟩ := ih hi
      refine ⟨v', χ, ψ1 ++ ψ', by simpa using g1, g2, by simpa using RVs.cons h1 g3, ?_⟩
      refine (List.Perm.append_left ψ1 g4).trans ?_
      rw [← List.append_assoc, ← List.append_assoc]
      exact List.Perm.append_right ψ' List.perm_append_comm

/-- A part of what slot t holds takes flight. -/
theorem RelW.splitOff (h : RelW φ w0 F0 sl fx ts fv w) (t : Nat) {v : Value} {x y : SV} {χ ψ' : List Nat} (hx : SlotRel w φ (valAt ts) v χ x) (hy : SlotRel w φ (valAt ts) (valAt ts t) ψ' y)
    (hp : (φ (some t)).Perm (χ ++ ψ')) : ∃ φ', RelW φ' w0 F0 (putT sl t y) (killSV t x) ts v w := by
  have hnd := (hp.nodup_iff).1 (h.nd (some t))
  have hin : ∀ b, b ∈ χ ∨ b ∈ ψ' → b ∈ φ (some t) := fun b hb => hp.mem_iff.2 (by simpa using hb)
  have keep : ∀ (y : SV) (u : Value) (ω : List Nat), t ∉ y.roots → SlotRel w φ (valAt ts) u ω y →
      SlotRel w (fun s => if s = none then χ else if s = some t then ψ' else φ s) (valAt ts) u ω y := fun y u ω hy hr =>
    hr.kept ⟨Nat.le_refl _, fun _ _ => rfl, fun r hr' => by
      have hne : r ≠ t := fun e => hy (e ▸ hr')
      exact ⟨rfl, by simp [hne], fun _ _ => rfl⟩, fun b hb hfree => ⟨rfl, fun s hs => by
        split at hs
        · exact hfree (some t) (hin b (.inl hs))
        · split at hs
          · exact hfree (some t) (hin b (.inr hs))
          · exact hfree s hs⟩⟩
  refine ⟨fun s => if s = none then χ else if s = some t then ψ' else φ s, by simp [putT, h.len], fun s z hz => ?_, fun s => ?_, fun s s' hne b hb hb' => ?_, fun s b hb => ?_, h.ext⟩
  · cases s with
    | none =>
      cases hz
      simp only [vget, if_true]
      exact keep _ _ _ (not_root_kill t _) (killSV_rel t hx)
    | some s =>
      simp only [sget, putT] at hz
      by_cases e : s = t
      · subst e
        rw [List.getElem?_set] at hz
        simp only [if_true] at hz
        split at hz
        · cases hz
          simp only [vget, reduceCtorEq, if_false, if_true]
          exact keep _ _ _ (not_root_kill s _) (killSV_rel s hy)
        · cases hz
      · rw [List.getElem?_set_ne (Ne.symm e), List.getElem?_map] at hz
        cases hq : sl[s]? with
        | none => simp [hq] at hz
        | some q =>
          simp only [hq, Option.map_some, Option.some.injEq] at hz
          subst hz
          rw [if_neg (by simp), if_neg (by simpa using e)]
          exact keep _ _ _ (not_root_kill t q) (killSV_rel t (h.slot (some s) q hq))
  · split
    · exact (List.nodup_append.1 hnd).1
    · split
      · exact (List.nodup_append.1 hnd).2.1
      · exact h.nd s
  · have apart : ∀ b ∈ χ, b ∉ ψ' := fun b h1 h2 => (List.nodup_append.1 hnd).2.2 b h1 b h2 rfl
    split at hb
    · split at hb'
      · rename_i e1 e2; exact hne (e1.trans e2.symm)
      · split at hb'
        · exact apart b hb hb'
        · rename_i e1 e2 e3; exact h.dj (some t) s' (Ne.symm e3) b (hin b (.inl hb)) hb'
    · split at hb
      · split at hb'
        · exact apart b hb' hb
        · split at hb'
          · rename_i e1 e2 e3 e4; exact hne (e2.trans e4.symm)
          · rename_i e1 e2 e3 e4; exact h.dj (some t) s' (Ne.symm e4) b (hin b (.inr hb)) hb'
      · split at hb'
        · rename_i e1 e2 e3; exact h.dj s (some t) e2 b hb (hin b (.inl hb'))
        · split at hb'
          · rename_i e1 e2 e3 e4; exact h.dj s (some t) e2 b hb (hin b (.inr hb'))
          · exact h.dj s s' hne b hb hb'
  · split at hb
    · exact h.lt _ b (hin b (.inl hb))
    · split at hb
      · exact h.lt _ b (hin b (.inr hb))
      · exact h.lt s b hb

theorem extract_sound (h : RelW φ w0 F0 sl fx ts fv w) {ty : TypeId} {x : Operand} {i : Nat} {cs : List Prop} {r : SV} {sl' : Sl}
    (hx : opV tb sl ty (.extract x i) = some (cs, r, sl')) : Sound P w0 F0 ts ds w (.extract x i) ty r sl' := by
  simp only [opV] at hx
  split at hx
  · rename_i t
    split at hx
    · rename_i rs hg
      have hs := gt_rel h t
      rw [hg] at hs
      obtain ⟨vs, h1, h2⟩ := hs
      have run : ∀ v, vs.toList[i]? = some v → (Instr.extract (Act.eval ⟨ts, ds⟩ (.tmp t)) i).run P w = .ok v w := fun v g1 => by
        have : Act.eval ⟨ts, ds⟩ (.tmp t) = .tuple vs := h1
        rw [this]
        simp only [Instr.extract]
        have hv : vs[i]? = some v := by simpa using g1
        rw [hv]
        rfl
      split at hx
      · rename_i r' hr
        obtain ⟨v, χ, ψ', g1, g2, g3, g4⟩ := h2.part hr
        split at hx
        · cases hx
          obtain ⟨φ', hk⟩ := h.splitOff t (x := .one r') (y := .tup (rs.set i (.cell .un))) g2 ⟨vs, h1, g3⟩ g4
          exact ⟨v, w, φ', yields_val (s := Instr.extract (Act.eval ⟨ts, ds⟩ (.tmp t)) i) (fun _ _ _ _ => rfl) (run v g1), hk⟩
        · rename_i ho
          cases hx
          exact ⟨v, w, _, yields_val (s := Instr.extract (Act.eval ⟨ts, ds⟩ (.tmp t)) i) (fun _ _ _ _ => rfl) (run v g1), h.see (g2.bare (by simpa using ho))⟩
      · cases hx
    · cases hx
  · cases hx

end

end Go.Proofs.Ytckcehmggdnliaa.DL
