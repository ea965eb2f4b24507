/- The data level, part 21: regions whose operations may run in more than one order, as the walk wants them. -/
import Derived.Test.YtbmflnlppnkbaaaL20
namespace Go.Proofs.Ytbmflnlppnkbaaa.DL
open Go Go.RowKit

section
variable {P : Program} {C : Cfg} {tab : List Nat} {seg : List Oper} {c : Nat}

theorem putT_len {sl : Sl} {d : Nat} {x : SV} : (putT sl d x).length = sl.length := by simp [putT]
theorem gt_putT {sl : Sl} {d : Nat} {x : SV} (h : d < sl.length) : gt (putT sl d x) d = killSV d x := by
  simp [gt, putT, h]

theorem Run.length {ops : List Oper} {os : List Oper} {k : Nat} {sl sl' : Sl} {xs : List SV} (hr : Run P C ops tab seg c os k sl xs sl') : xs.length = os.length := by
  induction hr with
  | nil => rfl
  | cons _ _ _ _ _ _ _ ih => simp [ih]

theorem Run.hang {ops : List Oper} {os : List Oper} {k : Nat} {sl sl' : Sl} {xs : List SV} (hr : Run P C ops tab seg c os k sl xs sl') :
    ∀ i o x u, (os.zip xs)[i]? = some (o, x) → dstIs o u = true → u < sl.length → ∀ t ∈ x.roots, hangOk tab (k + i) t seg c = true := by
  induction hr with
  | nil => intro i o x u h; simp at h
  | cons h1 h2 h3 h4 h5 h6 h7 ih =>
    rename_i o os k d sl sl' x xs
    intro i o' x' u h hd hu t ht
    cases i with
    | zero =>
      simp only [List.zip_cons_cons, List.getElem?_cons_zero, Option.some.injEq, Prod.mk.injEq] at h
      obtain ⟨rfl, rfl⟩ := h
      have e : d = u := by
        unfold dstIs at hd
        rw [h4] at hd
        simpa using hd
      subst e
      refine h6 t ?_
      show t ∈ (gt (putT sl d x) d).roots
      rw [gt_putT hu]
      exact ht
    | succ i =>
      have := ih i o' x' u (by simpa using h) hd (by show u < (putT sl d x).length; rw [putT_len]; exact hu) t ht
      rwa [show k + 1 + i = k + (i + 1) by omega] at this

variable {w0 : World} {F0 : List Nat} {ts0 : Array Value} {ops : Array Oper} {Q : Exit → Act → World → Prop}

theorem mrg_none {L : Nat → Bool} {sl0 : Sl} {ox : List (Oper × SV)} (h : ∀ i, i < ox.length → L (c + i) = false) : mrg L sl0 ox c = sl0 := by
  refine List.ext_getElem mrg_len fun t h1 h2 => ?_
  simp only [mrg, List.getElem_map, List.getElem_range]
  rw [mrgT_none ox c _ fun i o x hi _ => h i (List.getElem?_eq_some_iff.1 hi).1]
  simp [gt, h2]

theorem drawnK_any (hT : TbOk P C.tb) (hM : Masks ops tab) {K' : Sl → Prop} (hK : ∀ sl', K' sl' → ∀ a' w', St C w0 F0 ts0 sl' a' w' → Q .normal a' w') : ∀ (ns : List Nat) (c : Nat) (sl : Sl),
    drawnK P C ops.toList tab ns c sl K' → ∀ fuel listed a w, listed.size = ops.size → (∀ j < ops.size, at' listed j = decide (j < c)) → cnt ops listed ≤ fuel → St C w0 F0 ts0 sl a w →
      wpAny P .any ops Q fuel listed a w
  | [], c, sl, h, fuel, listed, a, w, hs, hl, hcnt, hst => by
    simp only [drawnK] at h
    split at h
    · rename_i e
      have e : c = ops.size := by simpa using e
      refine wpAny_done ?_ (hK sl h a w hst) fuel
      cases hr : Region.ready .any ops listed with
      | nil => rfl
      | cons i r =>
        have hi : i ∈ Region.ready .any ops listed := by rw [hr]; exact List.mem_cons_self ..
        obtain ⟨h0, o, ho, -⟩ := mem_ready.1 hi
        have hil : i < ops.size := (Array.getElem?_eq_some_iff.1 ho).1
        have := hl i hil
        simp only [at', Array.getD_eq_getD_getElem?, hs, hil, Array.getElem?_eq_getElem, Option.getD_some] at this h0
        rw [this] at h0
        simp [e, hil] at h0
    · exact h.elim
  | n :: ns, c, sl, h, fuel, listed, a, w, hs, hl, hcnt, hst => by
    simp only [drawnK] at h
    split at h
    · rename_i hc
      simp only [Bool.and_eq_true] at hc
      obtain ⟨⟨hn0, hn⟩, hcut⟩ := hc
      have hn0 : 0 < n := Nat.le_of_ble_eq_true hn0
      have hn : c + n ≤ ops.size := by simpa using Nat.le_of_ble_eq_true hn
      have out : ∀ j, ops.size ≤ j → at' listed j = false := fun j hj => by simp [at', hs, hj]
      have pre : ∀ j < c, at' listed j = true := fun j hj => by rw [hl j (by omega)]; simp [hj]
      have post : ∀ j, c ≤ j → at' listed j = false := fun j hj => by
        rcases Nat.lt_or_ge j ops.size with h' | h'
        · rw [hl j h']; simp; omega
        · exact out j h'
      have closed : ∀ j, at' listed j = true → ∀ b, (tab.getD j 0).testBit b = true → at' listed b = true := fun j hj b hb => by
        have h1 := hM.back j b hb
        have h2 : j < c := by
          rcases Nat.lt_or_ge j c with h' | h'
          · exact h'
          · rw [post j h'] at hj; cases hj
        exact pre b (by omega)
      split at h
      · rename_i e1
        have e1 : n = 1 := by simpa using e1
        subst e1
        split at h
        · rename_i o ho
          have ho : ops[c]? = some o := by simpa using ho
          refine seg_abs hM hn hcut (fun L a w => if L c = true then ∃ sl', drawnK P C ops.toList tab ns (c + 1) sl' K' ∧ St C w0 F0 ts0 sl' a w else St C w0 F0 ts0 sl a w)
            (fun L L' a w hLL hS => ?_) (fun k o' L a w K h1 h2 ho' hLk _ _ hS hK' => ?_) (fun fuel listed a w hs hl hcnt hS => ?_) fuel listed a w hs pre (fun j hj => post j (by omega)) closed hcnt ?_
          · have := hLL c (Nat.le_refl _) (by omega)
            rw [← this]; exact hS
          · have e : k = c := by omega
            subst e
            rw [ho] at ho'
            cases ho'
            simp only [hLk, Bool.false_eq_true, if_false] at hS
            refine stepK_wp hT ho h hS fun sl' hsl' a' w' hst' => hK' a' w' ?_
            have : upd L k k = true := by simp [upd]
            simp only [this, if_true]
            exact ⟨sl', hsl', hst'⟩
          · have : (decide (c < c + 1)) = true := by simp
            simp only [this, if_true] at hS
            obtain ⟨sl', h1, h2⟩ := hS
            exact drawnK_any hT hM hK ns (c + 1) sl' h1 fuel listed a w hs hl hcnt h2
          · simp only [post c (Nat.le_refl _), Bool.false_eq_true, if_false]
            exact hst
        · exact h.elim
      · split at h
        · rename_i hck
          simp only [Bool.and_eq_true] at hck
          obtain ⟨hnd, hroot⟩ := hck
          obtain ⟨xs, sl', hrun, hnext⟩ := segK_run _ _ _ h
          generalize hseg : (ops.toList.drop c).take n = seg at *
          have hlen : seg.length = n := by rw [← hseg]; simp; omega
          have hxl := hrun.length
          have hfst : (seg.zip xs).map (·.1) = seg := by rw [List.map_fst_zip]; omega
          have hS : Seg P C ops.toList tab seg c sl (seg.zip xs) := by
            refine ⟨hfst, nodupB_spec _ hnd, fun o ho t ht x hx => ?_, fun i o x u hi hd hu t ht => hrun.hang i o x u hi hd hu t ht⟩
            have hdt : o.dst = some t := by
              unfold dstIs at ht
              split at ht
              · rename_i d e; rw [e]; simpa using ht
              · cases ht
            have := List.all_eq_true.1 hroot t (List.mem_filterMap.2 ⟨o, ho, hdt⟩)
            exact rooted_spec sl (by simpa using this) x hx
          have zl : (seg.zip xs).length = n := by simp [hlen, hxl]
          have start : mrg (fun j => decide (j < c)) sl (seg.zip xs) c = sl := mrg_none fun i _ => by simp
          obtain ⟨hend, hall⟩ := hrun.states hM.back hS (Nat.le_refl c) (by simp) hxl start.symm
          have segAt : ∀ i, i < n → seg[i]? = ops[c + i]? := fun i hi => by
            rw [← hseg]
            simp [hi]
          refine seg_abs hM hn hcut (fun L a w => St C w0 F0 ts0 (mrg L sl (seg.zip xs) c) a w)
            (fun L L' a w hLL hS' => ?_) (fun k o L a w K h1 h2 ho hLk hcl hbits hS' hK' => ?_) (fun fuel listed a w hs hl hcnt hS' => ?_) fuel listed a w hs pre (fun j hj => post j (by omega)) closed hcnt ?_
          · have : mrg L sl (seg.zip xs) c = mrg L' sl (seg.zip xs) c := by
              unfold mrg
              refine List.map_congr_left fun t _ => mrgT_congr _ _ _ fun i o x hi _ => hLL _ (by omega) ?_
              have := (List.getElem?_eq_some_iff.1 hi).1
              omega
            rw [← this]; exact hS'
          · obtain ⟨i, rfl⟩ : ∃ i, k = c + i := ⟨k - c, by omega⟩
            have hi : i < n := by omega
            have hz : ∃ x, (seg.zip xs)[i]? = some (o, x) := by
              have g1 : seg[i]? = some o := by rw [segAt i hi]; exact ho
              have g2 : i < xs.length := by omega
              exact ⟨xs[i], by rw [List.getElem?_zip_eq_some]; exact ⟨g1, List.getElem?_eq_getElem g2⟩⟩
            obtain ⟨x, hx⟩ := hz
            obtain ⟨d, y, g1, rfl, g3, g4, g5, g6⟩ := hall i o x hx (by omega)
            have agree : ∀ t ∈ foot ops.toList o (mrg (fun j => decide (j < c + i)) sl (seg.zip xs) c), gt (mrg L sl (seg.zip xs) c) t = gt (mrg (fun j => decide (j < c + i)) sl (seg.zip xs) c) t := fun t ht => by
              rw [gt_mrg, gt_mrg]
              split
              · refine mrgT_congr _ _ _ fun i' o' x' hi' hd' => ?_
                rcases lookOk_spec seg c i' o' (g5 t ht) (hS.at hi') hd' with e | ⟨e1, e2⟩ | ⟨e1, e2⟩
                · rw [e, hLk]; simp
                · rw [hbits _ e2]; simp [e1]
                · cases hL' : L (c + i') with
                  | false => simp; omega
                  | true => have := hcl _ hL' _ e2; rw [hLk] at this; cases this
              · rfl
            have hstep := (step_loc g4 g6 agree).2
            refine step_wp hT ho hstep g3 hS' fun a' w' hst' => hK' a' w' ?_
            rw [g1] at hst'
            rwa [hS.put hcl hx g1 hLk] at hst'
          · have e : mrg (fun j => decide (j < c + n)) sl (seg.zip xs) c = sl' := by rw [hend, hlen]
            rw [e] at hS'
            exact drawnK_any hT hM hK ns (c + n) sl' hnext fuel listed a w hs hl hcnt hS'
          · rw [mrg_none fun i _ => post _ (by omega)]
            exact hst
        · exact h.elim
    · exact h.elim

theorem drawn_wp (hT : TbOk P C.tb) (hm : P.follows .mixedOrders = true) {id : Nat} {K' : Sl → Prop} {sl : Sl} {a : Act} {w : World} (hk : drawnR P C ops.toList (maskTab ops.toList []) sl K')
    (h : St C w0 F0 ts0 sl a w) (hK : ∀ sl', K' sl' → ∀ a' w', St C w0 F0 ts0 sl' a' w' → Q .normal a' w') : (Code.region id ops true).wp P Q a w := by
  unfold drawnR at hk
  split at hk
  · rename_i hb
    refine wp_region_any hm (drawnK_any hT (masks hb) hK _ 0 sl hk ops.size _ a _ (by simp) (fun j hj => by simp [at', hj]) ?_ ?_)
    · unfold cnt
      exact Nat.le_trans (List.length_filter_le ..) (by simp)
    · obtain ⟨φ, fx, fv, h1, h2, h3⟩ := h
      exact ⟨φ, fx, fv, h1.extend ⟨rfl, rfl, rfl, Nat.le_refl _, fun _ _ _ => rfl⟩, h2, h3⟩
  · exact hk.elim
end
end Go.Proofs.Ytbmflnlppnkbaaa.DL
