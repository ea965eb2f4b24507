/- The data level, part 22: code. -/
import Derived.Test.YtckcehmggdnliaaL21
namespace Go.Proofs.Ytckcehmggdnliaa.DL
open Go Go.RowKit

theorem RelW.weak {φ : Option Nat → List Nat} {w0 w : World} {F0 : List Nat} {sl sl' : Sl} {fx : SV} {ts : Array Value} {fv : Value} (h : RelW φ w0 F0 sl fx ts fv w) (hl : sl'.length = sl.length)
    (hs : ∀ t, gt sl' t = gt sl t ∨ gt sl' t = .dead) : RelW φ w0 F0 sl' fx ts fv w := by
  refine ⟨h.len.trans hl.symm, fun t x hx => ?_, h.nd, h.dj, h.lt, h.ext⟩
  cases t with
  | none => exact h.slot none x hx
  | some t =>
    have e : gt sl' t = x := by
      simp only [sget] at hx
      simp [gt, hx]
    rcases hs t with g | g
    · rw [← e, g]; exact gt_rel h t
    · rw [← e, g]; exact trivial

theorem allCs_at : ∀ (zs : List CV) (I : InvT zs) (cs : List CV) (n : Nat) (K : List CV → Prop), appI zs I cs n → allCs zs K → K cs
  | [], I, [], n, K, _, h => h
  | [], I, c :: cs, n, K, hI, _ => by simp [appI] at hI
  | z :: zs, I, [], n, K, hI, _ => by
    cases z with
    | sc v => cases v <;> simp [appI] at hI
    | rd d => cases d <;> simp [appI] at hI
    | own d => cases d <;> simp [appI] at hI
    | _ => simp [appI] at hI
  | z :: zs, I, c :: cs, n, K, hI, h => by
    cases z with
    | sc v =>
      cases v with
      | int k m =>
        cases c with
        | sc u =>
          cases u with
          | int k' m' =>
            simp only [appI] at hI
            split at hI
            · rename_i e
              have e := sameK_eq e
              subst e
              exact allCs_at zs (I m') cs n _ hI (h m')
            · exact hI.elim
          | _ => simp [appI] at hI
        | _ => simp [appI] at hI
      | bool b =>
        cases c with
        | sc u =>
          cases u with
          | bool b' =>
            simp only [appI] at hI
            cases b' with
            | true => exact allCs_at zs (I true) cs n _ hI h.1
            | false => exact allCs_at zs (I false) cs n _ hI h.2
          | _ => simp [appI] at hI
        | _ => simp [appI] at hI
      | string b =>
        cases c with
        | sc u =>
          cases u with
          | string b' =>
            simp only [appI] at hI
            exact allCs_at zs (I b') cs n _ hI (h b')
          | _ => simp [appI] at hI
        | _ => simp [appI] at hI
      | _ => cases c <;> simp [appI] at hI
    | rd d =>
      cases d with
      | sl sz es =>
        cases c with
        | rd d' =>
          cases d' with
          | sl sz' es' =>
            simp only [appI] at hI
            split at hI
            · rename_i e
              have e : sz = sz' := by simpa using e
              subst e
              exact allCs_at zs (I es') cs n _ hI (h es')
            · exact hI.elim
          | _ => simp [appI] at hI
        | _ => simp [appI] at hI
      | _ => cases c <;> simp [appI] at hI
    | own d =>
      cases d with
      | sl sz es =>
        cases c with
        | own d' =>
          cases d' with
          | sl sz' es' =>
            simp only [appI] at hI
            split at hI
            · rename_i e
              have e : sz = sz' := by simpa using e
              subst e
              exact allCs_at zs (I es') cs n _ hI (h es')
            · exact hI.elim
          | _ => simp [appI] at hI
        | _ => simp [appI] at hI
      | _ => cases c <;> simp [appI] at hI
    | _ => cases c <;> simp [appI] at hI

theorem shape_len {x y : SV} (h : shapeB x y = true) : (svCells y).length = (svCells x).length ∧ svMk x (svCells y) = y := by
  cases x with
  | one r => cases r with
    | cell c => cases y with
      | one s => cases s with
        | cell d => exact ⟨rfl, rfl⟩
        | agg d => cases h
      | _ => cases h
    | agg c => cases y with
      | one s => cases s with
        | cell d => cases h
        | agg d => exact ⟨(by simpa [shapeB] using h : c.length = d.length).symm, rfl⟩
      | _ => cases h
  | box c => cases y with
    | box d => exact ⟨(by simpa [shapeB] using h : c.length = d.length).symm, rfl⟩
    | _ => cases h
  | _ => cases h

theorem cutHv_pick {sl sl' : Sl} : ∀ hv : List Nat, (∀ t ∈ hv, shapeB (gt sl t) (gt sl' t) = true) → cutHv sl hv (pickHv sl' hv) = hv.map fun t => (t, gt sl' t)
  | [], _ => rfl
  | t :: ts, h => by
    obtain ⟨h1, h2⟩ := shape_len (h t (List.mem_cons_self ..))
    simp only [cutHv, pickHv, List.flatMap_cons, List.map_cons, ← h1, List.take_left, List.drop_left, h2]
    rw [show List.flatMap (fun t => svCells (gt sl' t)) ts = pickHv sl' ts from rfl, cutHv_pick ts fun t ht => h t (List.mem_cons_of_mem _ ht)]

theorem lookup_map {g : Nat → SV} {i : Nat} : ∀ hv : List Nat, (hv.map fun t => (t, g t)).lookup i = if i ∈ hv then some (g i) else none
  | [] => rfl
  | t :: ts => by
    simp only [List.map_cons, List.lookup_cons, lookup_map ts, List.mem_cons]
    by_cases e : i = t
    · subst e; simp
    · have : (i == t) = false := by simpa using e
      rw [this]; simp [e]

theorem fillS_at {keep : List Nat} {hv : List (Nat × SV)} : ∀ (sl : Sl) (i : Nat), (fillS keep i sl hv).length = sl.length ∧ ∀ (j : Nat) (x : SV), sl[j]? = some x →
    (fillS keep i sl hv)[j]? = some (match hv.lookup (i + j) with
      | some y => y
      | none => if keep.contains (i + j) then x else .dead)
  | [], _ => ⟨rfl, fun j x h => by simp at h⟩
  | y :: sl, i => by
    obtain ⟨h1, h2⟩ := fillS_at (keep := keep) (hv := hv) sl (i + 1)
    refine ⟨by simp [fillS, h1], fun j x h => ?_⟩
    cases j with
    | zero =>
      simp only [List.getElem?_cons_zero, Option.some.injEq] at h
      subst h
      rfl
    | succ j =>
      have := h2 j x (by simpa using h)
      simp only [fillS, List.getElem?_cons_succ]
      rw [this, show i + 1 + j = i + (j + 1) by omega]

theorem sameS_spec {sl sl' : Sl} : ∀ keep : List Nat, sameS sl sl' keep → ∀ t ∈ keep, gt sl' t = gt sl t
  | [], _, t, ht => by cases ht
  | [a], h, t, ht => by
    have : t = a := by simpa using ht
    subst this; exact h
  | a :: b :: r, h, t, ht => by
    rcases List.mem_cons.1 ht with rfl | ht
    · exact h.1
    · exact sameS_spec (b :: r) h.2 t ht
theorem sameS_refl {sl : Sl} : ∀ keep : List Nat, sameS sl sl keep
  | [] => trivial
  | [_] => rfl
  | _ :: b :: r => ⟨rfl, sameS_refl (b :: r)⟩

section
variable {P : Program} {C : Cfg} {w0 : World} {F0 : List Nat} {ts0 : Array Value}

theorem fill_st {sl sl' : Sl} {hv keep : List Nat} {a : Act} {w : World} (h : St C w0 F0 ts0 sl' a w) (hl : ts0.size = sl.length) (hsh : ∀ t ∈ hv, shapeB (gt sl t) (gt sl' t) = true)
    (hk : ∀ t ∈ keep, gt sl' t = gt sl t) : St C w0 F0 ts0 (fillS keep 0 sl (cutHv sl hv (pickHv sl' hv))) a w := by
  obtain ⟨φ, fx, fv, h1, h2, h3⟩ := h
  obtain ⟨g1, g2⟩ := fillS_at (keep := keep) (hv := cutHv sl hv (pickHv sl' hv)) sl 0
  have len : sl'.length = sl.length := by rw [← h1.len, h3.1, hl]
  refine ⟨φ, fx, fv, h1.weak (g1.trans len.symm) fun t => ?_, h2, h3⟩
  cases hx : sl[t]? with
  | none =>
    right
    have : sl.length ≤ t := by
      rcases Nat.lt_or_ge t sl.length with h | h
      · simp [List.getElem?_eq_getElem h] at hx
      · exact h
    simp [gt, List.getElem?_eq_none (by omega : (fillS keep 0 sl (cutHv sl hv (pickHv sl' hv))).length ≤ t)]
  | some x =>
    have := g2 t x hx
    rw [cutHv_pick hv hsh, Nat.zero_add, lookup_map] at this
    unfold gt at *
    simp only [List.getD_eq_getElem?_getD] at *
    rw [cutHv_pick (sl := sl) (sl' := sl') hv (by simpa [gt] using hsh)]
    simp only [gt, List.getD_eq_getElem?_getD]
    rw [this]
    by_cases hm : t ∈ hv
    · left; simp [hm]
    · by_cases hkm : t ∈ keep
      · left
        have e := hk t hkm
        rw [hx] at e
        simp only [Option.getD_some] at e
        simp [hm, hkm, e]
      · right; simp [hm, hkm]

theorem dwp_sound (hT : TbOk P C.tb) (hm : P.follows .mixedOrders = true) : ∀ (c : Code) (Qd : Ex → Sl → Prop) (Q : Exit → Act → World → Prop) (sl : Sl) (a : Act) (w : World),
    dwp P C c Qd sl → St C w0 F0 ts0 sl a w → (∀ e sl', Qd e sl' → ∀ a' w', St C w0 F0 ts0 sl' a' w' → Q e.toExit a' w') → c.wp P Q a w
  | .skip, Qd, Q, sl, a, w, hk, h, hQ => wp_skip (hQ .normal sl hk a w h)
  | .region _ ops false, Qd, Q, sl, a, w, hk, h, hQ => region_wp hT hk h fun sl' => hQ .normal sl'
  | .region _ ops true, Qd, Q, sl, a, w, hk, h, hQ => drawn_wp hT hm hk h fun sl' => hQ .normal sl'
  | .seq x y, Qd, Q, sl, a, w, hk, h, hQ => wp_seq (dwp_sound hT hm x _ _ sl a w hk h fun e sl' hk' a' w' h' => by
      cases e with
      | normal => exact dwp_sound hT hm y Qd Q sl' a' w' hk' h' hQ
      | exit id => exact hQ (.exit id) sl' hk' a' w' h'
      | ret => exact hQ .ret sl' hk' a' w' h')
  | .cond c x y, Qd, Q, sl, a, w, hk, h, hQ => by
    simp only [dwp] at hk
    have val : ∀ b, opView C.tb 0 sl c = some (.one (.cell (.sc (.bool b)))) → a.eval c = .bool b := fun b hb => by
      obtain ⟨φ, fx, fv, h1, -, -⟩ := h
      obtain ⟨g1, -, -⟩ := opView_rel (ds := a.defers) h1 hb rfl
      exact g1
    split at hk
    · rename_i e; exact wp_cond_true (val _ e) (dwp_sound hT hm x Qd Q sl a w hk h hQ)
    · rename_i e; exact wp_cond_false (val _ e) (dwp_sound hT hm y Qd Q sl a w hk h hQ)
    · rename_i es e
      have val2 : ∃ b, a.eval c = .bool b ∧ (b = true → es = []) := by
        obtain ⟨φ, fx, fv, h1, -, -⟩ := h
        exact (opView_rel (ds := a.defers) h1 e rfl).2
      obtain ⟨b, hb, hes⟩ := val2
      cases b with
      | true => exact wp_cond_true hb (dwp_sound hT hm x Qd Q sl a w (hk.1 (hes rfl)) h hQ)
      | false => exact wp_cond_false hb (dwp_sound hT hm y Qd Q sl a w hk.2 h hQ)
    · exact hk.elim
  | .block id c, Qd, Q, sl, a, w, hk, h, hQ => wp_block (dwp_sound hT hm c _ _ sl a w hk h fun e sl' hk' a' w' h' => by
      cases e with
      | normal => exact hQ .normal sl' hk' a' w' h'
      | exit id' =>
        simp only [blockK] at hk'
        show Exit.inBlock id Q (.exit id') a' w'
        simp only [Exit.inBlock]
        split
        · rename_i e; rw [if_pos e] at hk'; exact hQ .normal sl' hk' a' w' h'
        · rename_i e; rw [if_neg e] at hk'; exact hQ (.exit id') sl' hk' a' w' h'
      | ret => exact hQ .ret sl' hk' a' w' h')
  | .loop c, Qd, Q, sl, a, w, hk, h, hQ => by
    simp only [dwp] at hk
    split at hk
    · rename_i hsh
      rw [forceCs_eq] at hk
      obtain ⟨I, ⟨n, hn⟩, hround⟩ := hk
      generalize hhv : (C.ann (firstR c)).1 = hv at *
      generalize hkp : (C.ann (firstR c)).2 = keep at *
      have hl : ts0.size = sl.length := by
        obtain ⟨φ, fx, fv, h1, -, h3⟩ := h
        rw [← h1.len, h3.1]
      refine wp_loop_ghost (fun n a w => ∃ sl', (∀ t ∈ hv, shapeB (gt sl t) (gt sl' t) = true) ∧ sameS sl sl' keep ∧ appI (pickHv sl hv) I (pickHv sl' hv) n ∧ St C w0 F0 ts0 sl' a w) n
        ⟨sl, List.all_eq_true.1 hsh, sameS_refl keep, hn, h⟩ fun n a w ⟨sl', g1, g2, g3, g4⟩ => ?_
      have := allCs_at _ I _ n _ g3 hround n g3
      rw [forceL_eq] at this
      refine dwp_sound hT hm c _ _ _ a w this (fill_st g4 hl g1 (sameS_spec keep g2)) fun e sl2 hk' a' w' h' => ?_
      cases e with
      | normal =>
        simp only [thenK] at hk'
        split at hk'
        · rename_i hsh'
          obtain ⟨k1, m, hm', k2⟩ := hk'
          rw [forceCs_eq] at k2
          exact ⟨m, hm', sl2, List.all_eq_true.1 hsh', k1, k2, h'⟩
        · exact hk'.elim
      | exit id => exact hQ (.exit id) sl2 hk' a' w' h'
      | ret => exact hQ .ret sl2 hk' a' w' h'
    · exact hk.elim
  | .exit id, Qd, Q, sl, a, w, hk, h, hQ => wp_exit (hQ (.exit id) sl hk a w h)
  | .ret, Qd, Q, sl, a, w, hk, h, hQ => wp_ret (hQ .ret sl hk a w h)
  | .goto l, Qd, Q, sl, a, w, hk, h, hQ => by cases hk
  | .label l, Qd, Q, sl, a, w, hk, h, hQ => by cases hk
  | .scope c, Qd, Q, sl, a, w, hk, h, hQ => by cases hk
  | .refuse .., Qd, Q, sl, a, w, hk, h, hQ => by cases hk
end
end Go.Proofs.Ytckcehmggdnliaa.DL
