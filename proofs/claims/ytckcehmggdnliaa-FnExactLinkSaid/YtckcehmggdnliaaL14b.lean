/- The data level, part 14b: what is moved out of a box; append. -/
import Derived.Test.YtckcehmggdnliaaL14a
import Derived.Laws.AppendOwn
namespace Go.Proofs.Ytckcehmggdnliaa.DL
open Go Go.RowKit

section
variable {P : Program} {C : Cfg} {tb : Tb} {φ : Option Nat → List Nat} {w0 w w' : World} {F0 : List Nat} {sl : Sl} {fx : SV} {ts : Array Value} {fv : Value} {ds : List Deferred}

theorem var_run (hT : TbOk P tb) {f : Nat → Value} {t : TypeId} {b o : Nat} {us : List Value} {cs : List CV} {r : RV} {ψ : List Nat} (hlen : us.length = (tb t).size) (hr : w.rangeAt b o us)
    (hc : CVs w φ f us cs ψ) (hw : wrapCs (tb t).k cs = some r) :
    ∃ v, (loadVar t ⟨b, o, none⟩).run P w = .ok v w ∧ RVRel w φ f v ψ r := by
  have conv : ∀ v, (Instr.loadAt t (.pointer (some ⟨b, o, none⟩))).run P w = .ok v w → (loadVar t ⟨b, o, none⟩).run P w = .ok v w := fun v h => by
    simpa [Instr.loadAt, Instr.sureAddr] using h
  have agg : ∀ d, P.underlying t = some d → d.isRow = true → r = .agg cs → (P.info? t).map (·.size) = some us.length → ∃ v, (loadVar t ⟨b, o, none⟩).run P w = .ok v w ∧ RVRel w φ f v ψ r := by
    intro d h1 h2 h3 h4
    refine ⟨.agg us.toArray, conv _ (run_loadAt_mid w b o t us d hr h1 h2 h4), ?_⟩
    rw [h3]
    exact ⟨us.toArray, rfl, by simpa using hc⟩
  have one : ∀ d, P.underlying t = some d → d.isRow = false → (∃ c, cs = [c] ∧ r = .cell c) → ∃ v, (loadVar t ⟨b, o, none⟩).run P w = .ok v w ∧ RVRel w φ f v ψ r := by
    rintro d h1 h2 ⟨c, rfl, rfl⟩
    obtain ⟨v, rfl, h3⟩ := hc.single
    exact ⟨v, conv _ (run_loadAt_one h1 h2 (by simpa using hr 0 v rfl)), h3⟩
  have := (hT t).1
  unfold TIok at this
  have cellOf : (match cs with | [c] => some (RV.cell c) | _ => none) = some r → ∃ c, cs = [c] ∧ r = .cell c := fun hw => by
    split at hw
    · cases hw; exact ⟨_, rfl, rfl⟩
    · cases hw
  have size : (∃ j z, P.info? t = some j ∧ j.size = (tb t).size ∧ j.zero = some z ∧ z.cells.toList = (tb t).zero.map zeroV ∧ j.bytes = (tb t).bytes) → (P.info? t).map (·.size) = some us.length := by
    rintro ⟨j, z, h1, h2, _⟩
    rw [h1]; simp [h2, hlen]
  cases hk : (tb t).k with
  | other => rw [hk] at hw; cases hw
  | int k => rw [hk] at this hw; exact one _ this.2.2.2.2.1 rfl (cellOf hw)
  | bool => rw [hk] at this hw; exact one _ this.2.2.2.2.1 rfl (cellOf hw)
  | string => rw [hk] at this hw; exact one _ this.2.2.2.2.1 rfl (cellOf hw)
  | slice e => rw [hk] at this hw; exact one _ this.2.2.2.2.1 rfl (cellOf hw)
  | struct offs => rw [hk] at this; obtain ⟨h1, _, h3, _, fs, h5, _, _⟩ := this; rw [hk] at hw; exact agg _ h5 rfl (by cases hw; rfl) (size h1)
  | array n e => rw [hk] at this; obtain ⟨h1, _, h3, _, h5⟩ := this; rw [hk] at hw; exact agg _ h5 rfl (by cases hw; rfl) (size h1)


theorem CVs.bareMap {f : Nat → Value} {vs : List Value} {cs : List CV} {ψ : List Nat} (h : CVs w φ f vs cs ψ) (hf : cs.all CV.free = true) : CVs w φ f vs (cs.map bareC) [] := by
  induction h with
  | nil => exact .nil
  | @cons v c ψ vs cs ψs h1 _ ih =>
    simp only [List.all_cons, Bool.and_eq_true] at hf
    have h2 : CVRel w φ f v [] (bareC c) := by
      cases c with
      | own d => exact trivial
      | sc u => exact ⟨h1.1, h1.2.1, rfl⟩
      | rd d => exact ⟨rfl, h1.2⟩
      | _ => simp [CV.free] at hf
    have := CVs.cons h2 (ih hf.2)
    simpa using this

theorem roots_free {cs : List CV} (h : cs.all CV.free = true) : ∀ c ∈ cs, c.roots = [] := fun c hc => by
  have := List.all_eq_true.1 h c hc
  cases c <;> simp_all [CV.free, CV.roots]

theorem wrap_roots {k : TK} {cs : List CV} {r : RV} (h : wrapCs k cs = some r) (hc : ∀ c ∈ cs, c.roots = []) : r.roots = [] := by
  unfold wrapCs at h
  split at h
  · cases h; simpa [RV.roots] using hc
  · cases h; simpa [RV.roots] using hc
  · cases h
  · split at h
    · cases h; simpa [RV.roots] using hc
    · cases h

theorem loadMv_sound (hT : TbOk P tb) (h : RelW φ w0 F0 sl fx ts fv w) {t ty : TypeId} {a : Operand} {p x : SV} {sl' : Sl}
    (hp : opView tb ty sl a = some p) (hl : loadMv tb t sl p = some (x, sl')) : ∃ v φ', (Instr.loadAt t (Act.eval ⟨ts, ds⟩ a)).run P w = .ok v w ∧ RelW φ' w0 F0 sl' x ts v w := by
  unfold loadMv at hl
  split at hl
  · rename_i s j
    split at hl
    · rename_i cs hs
      split at hl
      · rename_i hc
        simp only [Option.map_eq_some_iff, Prod.mk.injEq] at hl
        obtain ⟨r, hr, rfl, rfl⟩ := hl
        simp only [Bool.and_eq_true] at hc
        have hle : j + (tb t).zero.length ≤ cs.length := Nat.le_of_ble_eq_true hc.1
        obtain ⟨-, hv, b, o, g1, g2, g3⟩ := opView_rel (ds := ds) h hp rfl
        have hg := gt_rel h s
        rw [hs] at hg
        obtain ⟨hroots, b0, c, el, ψs, h1, h2, h3, h4⟩ := hg
        simp only [hdr, Option.some.injEq] at g1
        subst g1
        rw [h1] at g2
        simp only [locOf, Option.some.injEq, Prod.mk.injEq] at g2
        obtain ⟨rfl, rfl⟩ := g2
        obtain ⟨ψ1, ψ4, k1, k4, rfl⟩ := h3.split j
        obtain ⟨ψ2, ψ3, k2, k3, rfl⟩ := k4.split (tb t).zero.length
        rw [List.drop_drop, List.drop_drop] at k3
        have hsz : (tb t).zero.length = (tb t).size := by
          have := (hT t).1
          unfold TIok at this
          split at this
          · rename_i hk; rw [hk] at hr; simp [wrapCs] at hr
          · exact this.2.2.1
        have hlen : ((c.toList.drop j).take (tb t).zero.length).length = (tb t).zero.length := by
          have := h3.len
          rw [List.length_take, List.length_drop, this]; omega
        obtain ⟨v, q1, q2⟩ := var_run (t := t) (b := b0) (o := 0 + j) hT (hlen.trans hsz) (fun k u hk => by
          rw [List.getElem?_take] at hk
          split at hk
          · rw [List.getElem?_drop] at hk
            have hk' : c[j + k]? = some u := by simpa using hk
            simp only [World.cell?, h2]
            rw [show 0 + j + k = j + k by omega]
            simpa using hk'
          · cases hk) k2 hr
        have hrr := wrap_roots hr (roots_free hc.2)
        obtain ⟨φ', hk⟩ := h.splitOff s (x := .one r) (y := .box (cs.take j ++ (((cs.drop j).take (tb t).zero.length).map bareC ++ cs.drop (j + (tb t).zero.length)))) (ψ' := b0 :: (ψ1 ++ ([] ++ ψ3))) q2
          ⟨fun c' hc' => by
            simp only [List.mem_append] at hc'
            rcases hc' with h' | h' | h'
            · exact hroots c' (List.mem_of_mem_take h')
            · obtain ⟨c0, h0, rfl⟩ := List.mem_map.1 h'
              have := List.all_eq_true.1 hc.2 c0 h0
              cases c0 <;> simp_all [CV.free, bareC, CV.roots]
            · exact hroots c' (List.mem_of_mem_drop h'), b0, c, el, _, h1, h2, by
              have := k1.append ((k2.bareMap hc.2).append k3)
              have e : c.toList.take j ++ ((c.toList.drop j).take (tb t).zero.length ++ c.toList.drop (j + (tb t).zero.length)) = c.toList := by
                rw [← List.drop_drop, List.take_append_drop, List.take_append_drop]
              rwa [e] at this, rfl⟩ (by
          rw [h4]
          simp only [List.nil_append]
          refine (List.Perm.cons b0 (List.perm_append_comm_assoc ψ1 ψ2 ψ3)).trans ?_
          exact (List.perm_middle (a := b0) (l₁ := ψ2) (l₂ := ψ1 ++ ψ3)).symm)
        refine ⟨v, φ', ?_, ?_⟩
        · rw [g3]
          simpa [Instr.loadAt, Instr.sureAddr] using q1
        · have : killSV s (.one r) = .one r := by simp [killSV, SV.roots, hrr]
          rwa [this] at hk
      · cases hl
    · cases hl
  · cases hl

/-- Scalars own nothing. -/
theorem Rd.vals {o o' : Bool} {vs : List Value} {es : List DV} {bs : List Nat} (h : Rd o w vs es bs) (ha : AllVal es) : Rd o' w vs es [] := by
  induction h with
  | nil => exact .nil
  | sc h _ ih => exact .sc h (ih fun d hd => ha d (List.mem_cons_of_mem _ hd))
  | e0 _ _ _ => exact (ha _ (List.mem_cons_self ..)).elim
  | sl _ _ _ _ _ _ _ _ => exact (ha _ (List.mem_cons_self ..)).elim

theorem Rd.ones {o : Bool} {vs : List Value} {es : List DV} {bs : List Nat} (h : Rd o w vs es bs) : ∀ v ∈ vs, v.oneCell' = true := by
  induction h with
  | nil => intro v hv; cases hv
  | sc hs _ ih =>
    intro v hv
    rcases List.mem_cons.1 hv with rfl | hv
    · cases v <;> simp_all [isSc, Value.oneCell']
    · exact ih v hv
  | e0 _ _ ih =>
    intro v hv
    rcases List.mem_cons.1 hv with rfl | hv
    · rfl
    · exact ih v hv
  | sl _ _ _ _ _ _ _ _ ih =>
    intro v hv
    rcases List.mem_cons.1 hv with rfl | hv
    · rfl
    · exact ih v hv

/-- A slice's elements, wherever they lie. -/
theorem Rd.elems {o : Bool} {v : Value} {sz : Nat} {es : List DV} {bs : List Nat} (h : Rd o w [v] [.sl sz es] bs) :
    ∃ a n cap us bs1, v = .slice a n cap ∧ us.length = n * sz ∧ Rd o w us es bs1 ∧ (∀ b ∈ bs1, b ∈ bs) ∧ (n = 0 ∨ ∃ b off, a = some ⟨b, off, none⟩ ∧ w.rangeAt b off us ∧ bs = b :: bs1) ∧ (0 < sz → (DV.sl sz es).n = n) := by
  rcases h.one with ⟨a, cap, rfl, rfl, rfl, -⟩ | ⟨b, off, n, cap, us, bs1, rfl, rfl, h1, -, -, h4, h5, -, h7⟩
  · exact ⟨a, 0, cap, [], [], rfl, by simp, .nil, (fun b hb => by cases hb), .inl rfl, fun _ => by rw [DV.n_eq]; simp⟩
  · exact ⟨_, n, cap, us, bs1, rfl, by rw [h7.length, h4], h7, fun b hb => List.mem_cons_of_mem _ hb, .inr ⟨b, off, rfl, h1, rfl⟩, fun _ => by rw [DV.n_eq, h4]; exact Nat.mul_div_cancel _ h5⟩

theorem Rd.mk {v : Value} {n cap sz b off : Nat} {us : List Value} {es : List DV} {bs1 : List Nat} (hv : v = .slice (some ⟨b, off, none⟩) n cap) (h1 : w.rangeAt b off us) (h2 : OwnRow w b (off + cap * sz)) (h3 : b < w.heap.size)
    (h4 : es.length = n * sz) (h5 : 0 < sz ∧ n ≤ cap) (h6 : Rd true w us es bs1) : Rd true w [v] [.sl sz es] (b :: bs1) := by
  subst hv
  have := Rd.sl (o := true) h1 (fun _ => h2) h3 h4 h5 h6 .nil
  simpa using this

theorem append_run (hT : TbOk P tb) {t e ty : TypeId} (hk : (tb t).k = .slice e) (hpos : 0 < (tb e).size) {vx : Value} {es es2 : List DV} {bs χ : List Nat} {a2 : Option Addr} {n2 cap2 : Nat} {us2 : List Value}
    (hx : Rd true w [vx] [.sl (tb e).size es] bs) (l2 : us2.length = n2 * (tb e).size) (p2 : n2 = 0 ∨ ∃ b off, a2 = some ⟨b, off, none⟩ ∧ w.rangeAt b off us2) (hU : Rd true w us2 es2 χ)
    (hb : ((DV.sl (tb e).size es).n + n2) * (tb e).bytes ≤ 140737488355328) (hb' : (DV.sl (tb e).size es).n + n2 ≤ 140737488355328)
    (hnd : bs.Nodup) (hχn : χ.Nodup) (hdj : ∀ b ∈ χ, b ∉ bs) :
    ∃ v' w' ψ, (Builtin.append_ #[t, t] ty #[vx, .slice a2 n2 cap2]).run P w = .ok v' w' ∧ Ext bs w w' ∧ Rd true w' [v'] [.sl (tb e).size (es ++ es2)] ψ ∧ ψ.Nodup ∧ ∀ b ∈ ψ, b < w'.heap.size ∧ ((b ∈ bs ∨ b ∈ χ) ∨ w.heap.size ≤ b) := by
  obtain ⟨j, z, i1, i2, i3, i4, i5⟩ := info_of hT (not_other hT hpos)
  have hu := (under_of hT).2.1 e hk
  have hzs : z.cells.size = (tb e).size := by
    have := congrArg List.length i4
    simpa [(info_zero hT (not_other hT hpos)).2.1] using this
  have hel2 : es2.length = n2 * (tb e).size := by rw [← hU.length, l2]
  have hUlt : ∀ b ∈ χ, b < w.heap.size := hU.lt
  -- what is read of the second
  have first2 : ∀ w1 : World, (∀ b o, w1.cell? ⟨b, o, none⟩ = w.cell? ⟨b, o, none⟩) → (Builtin.firstCells j.size n2 (.slice a2 n2 cap2)).run P w1 = .ok us2.toArray w1 := fun w1 hw1 => by
    rcases p2 with h0 | ⟨b, off, rfl, h2⟩
    · subst h0
      have : us2 = [] := List.eq_nil_of_length_eq_zero (by simpa using l2)
      subst this
      cases a2 with
      | none => exact run_firstCells_none (P := P) w1 _ _ _ _
      | some a => exact run_firstCells_some (P := P) w1 j.size 0 a 0 cap2 [] (by simp) (fun j v h => by simp at h)
    · refine run_firstCells_some (P := P) w1 j.size n2 _ n2 cap2 us2 (by rw [l2, i2]) fun k v hk => ?_
      rw [Addr_add, hw1]
      exact h2 k v hk
  rcases hx.one with ⟨a, cap, rfl, rfl, rfl, hcap⟩ | ⟨b, off, n, cap, us, bs1, rfl, rfl, h1, h2, h3, h4, h5, h6, h7⟩
  · -- the first is empty, and has no room
    have hcap := hcap rfl
    subst hcap
    have e1 : (DV.sl (tb e).size []).n = 0 := by rw [DV.n_eq]; simp
    rw [e1] at hb hb'
    simp only [Nat.zero_add] at hb hb'
    rcases Nat.eq_zero_or_pos n2 with h0 | hp2
    · subst h0
      have : us2 = [] := List.eq_nil_of_length_eq_zero (by simpa using l2)
      subst this
      have hes2 : es2 = [] := List.eq_nil_of_length_eq_zero (by simpa using hel2)
      subst hes2
      refine ⟨.slice a 0 0, w, [], ?_, Ext.refl _ _, .e0 (fun _ => rfl) .nil, .nil, fun b hb => by cases hb⟩
      have hf := first2 w (fun _ _ => rfl)
      cases a with
      | none => simp [Builtin.append_, run_underlying hu, sizeOf, typeInfo, i1, Builtin.lenOf, hf]
      | some a => simp [Builtin.append_, run_underlying hu, sizeOf, typeInfo, i1, Builtin.lenOf, hf, storeCells]
    · rcases p2 with h0 | ⟨b2, off2, rfl, h22⟩
      · omega
      · have hge := grownCap_ge w n2 0 e
        have fin : ∀ w1, w1 = w.drew.alloc (.cells (us2.toArray ++ Builtin.zeroCells z.cells (grownCap w n2 0 e - n2)) e) →
            Ext [] w w1 ∧ Rd true w1 [.slice (some ⟨w.heap.size, 0, none⟩) n2 (grownCap w n2 0 e)] [.sl (tb e).size ([] ++ es2)] (w.heap.size :: χ) := by
          rintro w1 rfl
          have hx0 : Ext [] w (w.drew.alloc (.cells (us2.toArray ++ Builtin.zeroCells z.cells (grownCap w n2 0 e - n2)) e)) := ⟨rfl, rfl, rfl, by simp, fun k hk _ => heap_alloc_old w.drew _ k hk⟩
          have hh : (w.drew.alloc (.cells (us2.toArray ++ Builtin.zeroCells z.cells (grownCap w n2 0 e - n2)) e)).heap[w.heap.size]? = some (.cells (us2.toArray ++ Builtin.zeroCells z.cells (grownCap w n2 0 e - n2)) e (0, 0)) := heap_alloc_new w.drew _
          refine ⟨hx0, Rd.mk rfl (us := us2) (fun k v hk => ?_) ⟨_, e, hh, ?_⟩ (by simp) (by simpa using hel2) ⟨hpos, hge⟩ (by simpa using hU.frame hx0.size fun b hb => hx0.block b (hUlt b hb) (by simp))⟩
          · simp only [World.cell?, hh, Nat.zero_add]
            have hk2 := (List.getElem?_eq_some_iff.1 hk).1
            have e3 : (us2.toArray ++ Builtin.zeroCells z.cells (grownCap w n2 0 e - n2))[k]? = some v := by
              rw [Array.getElem?_append_left (by simpa using hk2)]
              simpa using hk
            simpa using e3
          · rw [Array.size_append, size_zeroCells, hzs]
            simp only [List.size_toArray, l2, ← Nat.add_mul, Nat.zero_add]
            exact Nat.mul_le_mul_right _ (by omega)
        obtain ⟨f1, f2⟩ := fin _ rfl
        refine ⟨_, _, w.heap.size :: χ, ?_, f1, f2, List.nodup_cons.2 ⟨fun hm => Nat.lt_irrefl _ (hUlt _ hm), hχn⟩, fun b hb => ?_⟩
        · cases a with
          | none => exact run_append_nil (P := P) w t ty e j z hu i1 i3 ⟨b2, off2, none⟩ n2 cap2 us2 (by rw [l2, i2]) (fun k v hk => by rw [Addr_add]; exact h22 k v hk) hp2 (by omega) (by rw [i5]; omega)
          | some a =>
            have := run_append_grow (P := P) w t ty e j z hu i1 i3 a 0 0 [] (by simp) (fun j v h => by simp at h) ⟨b2, off2, none⟩ n2 cap2 us2 (by rw [l2, i2]) (fun k v hk => by rw [Addr_add]; exact h22 k v hk) (by omega) (by omega) (growslice_fits (by omega) (by rw [i5]; simpa using hb))
            simpa using this
        · rcases List.mem_cons.1 hb with rfl | hb
          · exact ⟨by simp, .inr (Nat.le_refl _)⟩
          · exact ⟨Nat.lt_of_lt_of_le (hUlt b hb) f1.size, .inl (.inr hb)⟩
  · have e1 : (DV.sl (tb e).size es).n = n := by rw [DV.n_eq, h4]; exact Nat.mul_div_cancel _ hpos
    rw [e1] at hb hb'
    have hul : us.length = n * (tb e).size := by rw [h7.length, h4]
    obtain ⟨hbb, hnd1⟩ := List.nodup_cons.1 hnd
    have hlt1 : ∀ x ∈ bs1, x < w.heap.size := h7.lt
    have hnd2 : (b :: (bs1 ++ χ)).Nodup := List.nodup_cons.2 ⟨fun hm => by
      rcases List.mem_append.1 hm with hm | hm
      · exact hbb hm
      · exact hdj b hm (List.mem_cons_self ..), List.nodup_append.2 ⟨hnd1, hχn, fun x hx y hy e => hdj y hy (by rw [← e]; exact List.mem_cons_of_mem _ hx)⟩⟩
    by_cases hroom : n + n2 ≤ cap
    · -- in place
      obtain ⟨c, el, hc, hm⟩ := h2 rfl
      have hfit : off + n * (tb e).size + us2.length ≤ c.size := by
        rw [l2, Nat.add_assoc, ← Nat.add_mul]
        exact Nat.le_trans (Nat.add_le_add_left (Nat.mul_le_mul_right _ hroom) _) hm
      have hst := run_storeCells_cells (P := P) b (off + n * (tb e).size) us2 0 w (fun k hk => by
        simp only [World.cell?, hc, Nat.add_zero]
        simp; omega) (fun k hk => by simp [World.frozen?, hc]) hU.ones
      simp only [Nat.add_zero] at hst
      have hxx := setCells_ext w b (off + n * (tb e).size) us2
      have hblk := setCells_block (b := b) us2 (off + n * (tb e).size) hc
      refine ⟨.slice (some ⟨b, off, none⟩) (n + n2) cap, w.setCells b (off + n * (tb e).size) us2, b :: (bs1 ++ χ), ?_, hxx.mono (fun x hx _ => by
        have : x = b := by simpa using hx
        rw [this]; exact List.mem_cons_self ..), ?_, hnd2, fun x hx => ?_⟩
      · have hf := first2 w (fun _ _ => rfl)
        rw [i2] at hf
        simp [Builtin.append_, run_underlying hu, sizeOf, typeInfo, i1, Builtin.lenOf, hroom, hf, Addr_add, i2, hst]
      · refine Rd.mk rfl (us := us ++ us2) (fun k v hk => ?_) ⟨_, el, hblk, ?_⟩ (Nat.lt_of_lt_of_le h3 hxx.size) (by rw [List.length_append, h4, hel2, Nat.add_mul]) ⟨hpos, hroom⟩ ?_
        · by_cases hk1 : k < us.length
          · rw [List.getElem?_append_left hk1] at hk
            rw [World.cell?_setCells_out _ _ _ _ _ (fun _ _ => .inl (by show off + k < off + n * (tb e).size; omega))]
            exact h1 k v hk
          · rw [List.getElem?_append_right (by omega)] at hk
            have hk2 := (List.getElem?_eq_some_iff.1 hk).1
            have := World.cell?_setCells_in b us2 (off + n * (tb e).size) w (fun i hi => by
              simp only [World.cell?, hc]
              simp; omega) (k - us.length) hk2
            rw [show off + k = off + n * (tb e).size + (k - us.length) by omega, this, (List.getElem?_eq_some_iff.1 hk).2]
        · have hsz : (setRange c.toList (off + n * (tb e).size) us2).length = c.size := by rw [setRange_length]; simp
          first
            | (rw [← Array.length_toList]; simp [setRange_length]; omega)
            | (simp [setRange_length]; omega)
            | omega
        · refine (h7.frame hxx.size fun x hx => ?_).append (hU.frame hxx.size fun x hx => ?_)
          · exact hxx.block x (hlt1 x hx) (by simp; intro e'; exact hbb (e' ▸ hx))
          · exact hxx.block x (hUlt x hx) (by simp; intro e'; exact hdj x hx (by rw [e']; exact List.mem_cons_self ..))
      · rcases List.mem_cons.1 hx with rfl | hx
        · exact ⟨Nat.lt_of_lt_of_le h3 hxx.size, .inl (.inl (List.mem_cons_self ..))⟩
        · rcases List.mem_append.1 hx with hx | hx
          · exact ⟨Nat.lt_of_lt_of_le (hlt1 x hx) hxx.size, .inl (.inl (List.mem_cons_of_mem _ hx))⟩
          · exact ⟨Nat.lt_of_lt_of_le (hUlt x hx) hxx.size, .inl (.inr hx)⟩
    · -- a new row
      have hp2 : 0 < n2 := by omega
      rcases p2 with h0 | ⟨b2, off2, rfl, h22⟩
      · omega
      · have hge := grownCap_ge w (n + n2) cap e
        have hr := run_append_grow (P := P) w t ty e j z hu i1 i3 ⟨b, off, none⟩ n cap us (by rw [hul, i2]) (fun k v hk => by rw [Addr_add]; exact h1 k v hk) ⟨b2, off2, none⟩ n2 cap2 us2 (by rw [l2, i2])
          (fun k v hk => by rw [Addr_add]; exact h22 k v hk) (by omega) (by omega) (growslice_fits (by omega) (by rw [i5]; exact hb))
        have hx0 : Ext [] w (w.drew.alloc (.cells (us.toArray ++ us2.toArray ++ Builtin.zeroCells z.cells (grownCap w (n + n2) cap e - (n + n2))) e)) := ⟨rfl, rfl, rfl, by simp, fun k hk _ => heap_alloc_old w.drew _ k hk⟩
        have hh : (w.drew.alloc (.cells (us.toArray ++ us2.toArray ++ Builtin.zeroCells z.cells (grownCap w (n + n2) cap e - (n + n2))) e)).heap[w.heap.size]? = some (.cells (us.toArray ++ us2.toArray ++ Builtin.zeroCells z.cells (grownCap w (n + n2) cap e - (n + n2))) e (0, 0)) := heap_alloc_new w.drew _
        refine ⟨_, _, w.heap.size :: (bs1 ++ χ), hr, hx0.mono (by simp), ?_, List.nodup_cons.2 ⟨fun hm => ?_, (List.nodup_cons.1 hnd2).2⟩, fun x hx => ?_⟩
        · refine Rd.mk rfl (us := us ++ us2) (fun k v hk => ?_) ⟨_, e, hh, ?_⟩ (by simp) (by rw [List.length_append, h4, hel2, Nat.add_mul]) ⟨hpos, hge⟩ ?_
          · simp only [World.cell?, hh, Nat.zero_add]
            have hk2 := (List.getElem?_eq_some_iff.1 hk).1
            have e3 : (us.toArray ++ us2.toArray ++ Builtin.zeroCells z.cells (grownCap w (n + n2) cap e - (n + n2)))[k]? = some v := by
              rw [Array.getElem?_append_left (by simpa using hk2)]
              simpa using hk
            simpa using e3
          · rw [Array.size_append, size_zeroCells, hzs]
            simp only [Array.size_append, List.size_toArray, hul, l2, ← Nat.add_mul, Nat.zero_add]
            exact Nat.mul_le_mul_right _ (by omega)
          · exact (h7.frame hx0.size fun x hx => hx0.block x (hlt1 x hx) (by simp)).append (hU.frame hx0.size fun x hx => hx0.block x (hUlt x hx) (by simp))
        · rcases List.mem_append.1 hm with hm | hm
          · exact Nat.lt_irrefl _ (hlt1 _ hm)
          · exact Nat.lt_irrefl _ (hUlt _ hm)
        · rcases List.mem_cons.1 hx with rfl | hx
          · exact ⟨by simp, .inr (Nat.le_refl _)⟩
          · rcases List.mem_append.1 hx with hx | hx
            · exact ⟨Nat.lt_of_lt_of_le (hlt1 x hx) hx0.size, .inl (.inl (List.mem_cons_of_mem _ hx))⟩
            · exact ⟨Nat.lt_of_lt_of_le (hUlt x hx) hx0.size, .inl (.inr hx)⟩

theorem appC_of {bytes sz : Nat} {d d2 : DV} (h : ∀ p ∈ appC bytes sz d d2, p) : d.sz = sz ∧ d2.sz = sz ∧ 0 < sz ∧ (d.n + d2.n) * bytes ≤ 140737488355328 ∧ d.n + d2.n ≤ 140737488355328 := by
  unfold appC at h
  split at h
  · rename_i hc
    simp only [Bool.and_eq_true, beq_iff_eq] at hc
    exact ⟨hc.1, hc.2.1, Nat.le_of_ble_eq_true hc.2.2, h _ (by simp), h _ (by simp)⟩
  · exact (h False (by simp)).elim

theorem append_sound (hT : TbOk P tb) (h : RelW φ w0 F0 sl fx ts fv w) {t ty : TypeId} {x y : Operand} {cs : List Prop} {v : SV} {sl' : Sl} (hx : appV tb sl t x y = some (cs, v, sl')) (hc : ∀ p ∈ cs, p) :
    ∃ u w' φ', (Builtin.append_ #[t, t] ty #[Act.eval ⟨ts, ds⟩ x, Act.eval ⟨ts, ds⟩ y]).run P w = .ok u w' ∧ RelW φ' w0 F0 sl' v ts u w' := by
  unfold appV at hx
  split at hx
  · rename_i u
    split at hx
    · rename_i e sz es sl1 hk hv
      obtain ⟨φ1, h1⟩ := opTake_rel (ds := ds) h hv
      have hx1 : Rd true w [Act.eval ⟨ts, ds⟩ x] [.sl sz es] (φ1 none) := h1.slot none _ rfl
      have hg := gt_rel h1 u
      have hu : Act.eval ⟨ts, ds⟩ (.tmp u) = valAt ts u := rfl
      split at hx
      · rename_i sz2 es2 hy
        simp only [Option.some.injEq, Prod.mk.injEq] at hx
        obtain ⟨rfl, rfl, rfl⟩ := hx
        obtain ⟨e1, e2, e3, e4, e5⟩ := appC_of hc
        simp only [DV.sz] at e1 e2
        subst e1
        subst e2
        rw [hy] at hg
        have h2 := h1.refly (Ext.refl _ _) (v := .tuple #[Act.eval ⟨ts, ds⟩ x]) (ψ := φ1 none) (x := .tup [.cell (.own (.sl (tb e).size es))]) (h1.nd none) (fun b hb => ⟨(h1.lt none b hb).1, .inl hb⟩) (by
          rw [setN_self]
          refine ⟨_, rfl, ?_⟩
          have := RVs.cons (w := w) (φ := φ1) (f := valAt ts) (r := .cell (.own (.sl (tb e).size es))) hx1 .nil
          simpa using this)
        rw [setN_self] at h2
        obtain ⟨φ3, h3⟩ := h2.join (by simp [RV.roots, CV.roots]) u (x := .cell (.own (.sl (tb e).size es2))) (List.Sublist.refl _) hg rfl
        obtain ⟨vs, hvs, h4⟩ := h3.slot none _ rfl
        have hvs : Value.tuple (#[Act.eval ⟨ts, ds⟩ x].push (valAt ts u)) = .tuple vs := hvs
        cases hvs
        have h4 : RVs w φ3 (valAt ts) [Act.eval ⟨ts, ds⟩ x, valAt ts u] [.cell (.own (.sl (tb e).size es)), .cell (.own (.sl (tb e).size es2))] (φ3 none) := by simpa using h4
        have hnd := h3.nd none
        have hlt := h3.lt none
        generalize hφ : φ3 none = ψ0 at h4 hnd hlt
        cases h4 with
        | @cons _ _ ψ1 _ _ ψ2' k1 k2 =>
          cases k2 with
          | @cons _ _ ψ2 _ _ ψ3 k2 k3 =>
            cases k3
            simp only [List.append_nil] at hnd hlt hφ
            obtain ⟨n1, n2, n3⟩ := List.nodup_append.1 hnd
            have k1 : Rd true w [Act.eval ⟨ts, ds⟩ x] [.sl (tb e).size es] ψ1 := k1
            have k2 : Rd true w [valAt ts u] [.sl (tb e).size es2] ψ2 := k2
            obtain ⟨a2, m2, cap2, us2, bs3, q1, q2, q3, q4, q5, q6⟩ := k2.elems
            rw [q6 e3] at e4 e5
            have hbs3 : bs3.Nodup := by
              rcases q5 with q5 | ⟨b, off, -, -, q5⟩
              · have : us2 = [] := List.eq_nil_of_length_eq_zero (by rw [q2, q5]; simp)
                subst this
                cases q3
                exact .nil
              · rw [q5] at n2; exact (List.nodup_cons.1 n2).2
            obtain ⟨v', w', ψ, r1, r2, r3, r4, r5⟩ := append_run (P := P) (ty := ty) (cap2 := cap2) hT hk e3 k1 q2 (q5.imp id fun ⟨b, off, h1, h2, _⟩ => ⟨b, off, h1, h2⟩) q3 e4 e5 n1 hbs3 (fun b hb hb' => n3 b hb' b (q4 b hb) rfl)
            refine ⟨v', w', _, by rw [hu, q1]; exact r1, h3.refly (r2.mono fun b hb _ => by rw [hφ]; simp [hb]) (ψ := ψ) (x := .one (.cell (.own _))) r4 (fun b hb => ⟨(r5 b hb).1, ?_⟩) r3⟩
            rcases (r5 b hb).2 with (g | g) | g
            · exact .inl (by rw [hφ]; simp [g])
            · exact .inl (by rw [hφ]; simp [q4 b g])
            · exact .inr g
      · split at hx
        · rename_i sz2 es2 hy
          simp only [Option.some.injEq, Prod.mk.injEq] at hx
          obtain ⟨rfl, rfl, rfl⟩ := hx
          have ha : AllVal es2 := hc _ (List.mem_cons_self ..)
          obtain ⟨e1, e2, e3, e4, e5⟩ := appC_of fun p hp => hc p (List.mem_cons_of_mem _ hp)
          simp only [DV.sz] at e1 e2
          subst e1
          subst e2
          have hflu : flat (view sl1 u) = true := by
            unfold sliceD at hy
            split at hy <;> first | (rename_i e; rw [e]; rfl) | cases hy
          obtain ⟨o, bs, k2⟩ := sliceD_rel' hy (opView_rel (tb := tb) (ds := ds) (ty := t) (o := .tmp u) h1 rfl hflu)
          obtain ⟨a2, m2, cap2, us2, bs3, q1, q2, q3, q4, q5, q6⟩ := k2.elems
          rw [q6 e3] at e4 e5
          obtain ⟨v', w', ψ, r1, r2, r3, r4, r5⟩ := append_run (P := P) (ty := ty) (cap2 := cap2) hT hk e3 hx1 q2 (q5.imp id fun ⟨b, off, h1, h2, _⟩ => ⟨b, off, h1, h2⟩) (q3.vals ha) e4 e5 (h1.nd none) .nil (fun b hb => by cases hb)
          refine ⟨v', w', _, by rw [q1]; exact r1, h1.refly r2 (ψ := ψ) (x := .one (.cell (.own _))) r4 (fun b hb => ⟨(r5 b hb).1, ?_⟩) r3⟩
          rcases (r5 b hb).2 with (g | g) | g
          · exact .inl g
          · cases g
          · exact .inr g
        · cases hx
    · cases hx
  · cases hx
end
end Go.Proofs.Ytckcehmggdnliaa.DL
