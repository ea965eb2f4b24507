/- The data level, part 19a: what a store does to the slots, wherever it runs. -/
import Derived.Test.YtckcehmggdnliaaL19
namespace Go.Proofs.Ytckcehmggdnliaa.DL
open Go Go.RowKit

theorem kill_id {d : Nat} {x : SV} (h : d ∉ x.roots) : killSV d x = x := by simp [killSV, h]
theorem gt_set {sl : Sl} {t u : Nat} {y : SV} (h : t < sl.length) : gt (sl.set t y) u = if u = t then y else gt sl u := by
  unfold gt
  by_cases e : u = t
  · subst e; simp [List.getD_eq_getElem?_getD, h]
  · simp [List.getD_eq_getElem?_getD, List.getElem?_set_ne (Ne.symm e), e]
theorem gt_mem {sl : Sl} {t : Nat} (h : t < sl.length) : gt sl t ∈ sl := by
  unfold gt
  rw [List.getD_eq_getElem?_getD, List.getElem?_eq_getElem h]
  exact List.getElem_mem _
theorem gt_out {sl : Sl} {t : Nat} (h : sl.length ≤ t) : gt sl t = .dead := by
  unfold gt
  rw [List.getD_eq_getElem?_getD, List.getElem?_eq_none h]
  rfl
theorem map_same {keep : SV → SV} {sl : Sl} (h : ∀ y ∈ sl, keep y = y) : sl.map keep = sl := (List.map_congr_left h).trans (List.map_id _)

theorem kB_keep {X : SV} {s : Nat} {q : List Nat} {j n : Nat} {y : SV} (h : kB s y = true) : keepX X s q j n y = y := by
  by_cases hr : s ∈ y.roots
  · unfold kB at h
    have hc : y.roots.contains s = true := by simpa using hr
    rw [hc] at h
    simp only [Bool.not_true, Bool.false_or] at h
    split at h
    · simp only [keepX, keepW]
      split <;> rfl
    · simp only [keepX, keepC]
      split <;> rfl
    · cases h
  · have oldC : ∀ c : CV, s ∉ c.roots → keepC (isBox X) s q j n c = c := fun c hc => by simp [keepC, hc]
    unfold keepX
    split
    · rename_i c
      rw [oldC c (by simpa [SV.roots, RV.roots] using hr)]
    · rename_i cs
      congr 2
      refine (List.map_congr_left fun c hc => oldC c fun hr' => hr ?_).trans (List.map_id _)
      simp only [SV.roots, RV.roots, List.mem_flatMap]
      exact ⟨c, hc, hr'⟩
    · simp [keepW, hr]

def setD (m : Sl) (tv : List Nat) : Sl :=
  match tv with
  | [t] => m.set t .dead
  | _ => m
theorem setD_length (m : Sl) (tv : List Nat) : (setD m tv).length = m.length := by
  unfold setD; split <;> simp

section
variable {tb : Tb} {sl sl2 : Sl}
/-- A store, in slots that agree on what it looks at. -/
theorem store_eff {ty : TypeId} {op : Op} {c : List Prop} {r : SV} {sl' : Sl} {s : Nat} {tv : List Nat} (hT : storeT tb sl ty op = some (s, tv)) (h : opV tb sl ty op = some (c, r, sl')) (hstv : s ∉ tv)
    (hk1 : ∀ y ∈ sl, kB s y = true ∧ ∀ t ∈ tv, t ∉ y.roots) (hl : sl2.length = sl.length) (hok : ∀ x ∈ op.operands, OkOp sl sl2 x) (hss : gt sl2 s = gt sl s)
    (hk2 : ∀ y ∈ sl2, kB s y = true ∧ ∀ t ∈ tv, t ∉ y.roots) :
    r = .und ∧ s < sl.length ∧ ∃ sl2', opV tb sl2 ty op = some (c, .und, sl2') ∧ sl2'.length = sl2.length ∧ ∀ q, q < sl2.length → gt sl2' q = if q = s then gt sl' s else if q ∈ tv then .dead else gt sl2 q := by
  cases op with
  | store t a x =>
    have ha := hok a (by simp [Op.operands])
    have hx := hok x (by simp [Op.operands])
    simp only [storeT] at hT
    split at hT
    · rename_i v sl1 hv
      split at hT
      · rename_i s' q j hp
        simp only [Option.some.injEq, Prod.mk.injEq] at hT
        obtain ⟨rfl, htv⟩ := hT
        -- what is taken
        have take : ∃ sl21, opTake tb ty sl2 x = some (v, sl21) ∧ sl1 = setD sl tv ∧ sl21 = setD sl2 tv ∧ (tv = [] ∨ ∃ u, tv = [u]) := by
          cases x with
          | tmp tx =>
            obtain ⟨e1, -⟩ := hx tx rfl
            simp only [opTake, takeT, Option.some.injEq] at hv ⊢
            rw [e1]
            dsimp only at htv
            split at hv
            · rename_i ho
              rw [if_pos ho] at htv
              subst htv
              simp only [Prod.mk.injEq] at hv
              obtain ⟨rfl, rfl⟩ := hv
              have k1 : sl.map (killSV tx) = sl := map_same fun y hy => kill_id ((hk1 y hy).2 tx (by simp))
              have k2 : sl2.map (killSV tx) = sl2 := map_same fun y hy => kill_id ((hk2 y hy).2 tx (by simp))
              refine ⟨_, by rw [if_pos ho], ?_, ?_, .inr ⟨tx, rfl⟩⟩
              · simp only [putT, setD, k1]; rw [kill_id (by simp [SV.roots])]
              · simp only [putT, setD, k2]; rw [kill_id (by simp [SV.roots])]
            · rename_i ho
              rw [if_neg ho] at htv
              subst htv
              simp only [Prod.mk.injEq] at hv
              obtain ⟨rfl, rfl⟩ := hv
              exact ⟨sl2, by rw [if_neg ho], rfl, rfl, .inl rfl⟩
          | const u =>
            dsimp only at htv
            subst htv
            simp only [opTake, Option.map_eq_some_iff, Prod.mk.injEq] at hv ⊢
            obtain ⟨z, g1, rfl, rfl⟩ := hv
            exact ⟨sl2, ⟨_, g1, rfl, rfl⟩, rfl, rfl, .inl (by trivial)⟩
          | func f =>
            dsimp only at htv
            subst htv
            simp only [opTake, Option.some.injEq, Prod.mk.injEq] at hv ⊢
            obtain ⟨rfl, rfl⟩ := hv
            exact ⟨sl2, ⟨rfl, rfl⟩, rfl, rfl, .inl (by trivial)⟩
          | global g => simp [opTake] at hv
        obtain ⟨sl21, hv2, rfl, rfl, hone⟩ := take
        have gtD : ∀ (m : Sl) (u : Nat), m.length = sl.length → gt (setD m tv) u = if u ∈ tv then .dead else gt m u := by
          intro m u hm
          rcases hone with rfl | ⟨w, rfl⟩
          · simp [setD]
          · simp only [setD, List.mem_singleton]
            by_cases hw : w < m.length
            · exact gt_set hw
            · rw [List.set_eq_of_length_le (by omega)]
              split
              · rename_i e; rw [e]; exact gt_out (by omega)
              · rfl
        have hagree : OkOp (setD sl tv) (setD sl2 tv) a := by
          intro ta e
          obtain ⟨e1, e2⟩ := ha ta e
          refine ⟨?_, fun r hr => ?_⟩
          · rw [gtD sl ta rfl, gtD sl2 ta hl]
            split
            · rfl
            · exact e1
          · rw [gtD sl ta rfl] at hr
            split at hr
            · cases hr
            · rw [gtD sl r rfl, gtD sl2 r hl]
              split
              · rfl
              · exact e2 r hr
        have hp2 : opView tb ty (setD sl2 tv) a = some (.ptr s' q j) := by rw [opView_loc hagree]; exact hp
        have hs1 : gt (setD sl tv) s' = gt sl s' := by rw [gtD sl s' rfl, if_neg hstv]
        have hs2 : gt (setD sl2 tv) s' = gt sl s' := by rw [gtD sl2 s' hl, if_neg hstv]; exact hss
        simp only [opV, hv, hv2, hp, hp2] at h ⊢
        cases hcs : cellsOf v with
        | none => rw [hcs] at h; cases h
        | some cs =>
          rw [hcs] at h
          dsimp only at h ⊢
          split at h
          · cases h
          · rename_i hlen
            rw [if_neg hlen]
            rw [hs1] at h
            rw [hs2]
            cases hso : setOk (gt sl s') q j cs.length cs with
            | none => rw [hso] at h; cases h
            | some c0 =>
              rw [hso] at h
              simp only [Option.map_some, Option.some.injEq, Prod.mk.injEq] at h
              obtain ⟨rfl, rfl, rfl⟩ := h
              have hlt : s' < sl.length := by
                refine Nat.lt_of_not_le fun hle => ?_
                rw [gt_out hle] at hso
                simp [setOk] at hso
              refine ⟨rfl, hlt, _, rfl, by simp [putW, setD_length], fun u hu => ?_⟩
              have kp : ∀ (m : Sl), (∀ y ∈ m, kB s' y = true ∧ ∀ t ∈ tv, t ∉ y.roots) → (setD m tv).map (keepX (setCs (gt sl s') q j cs) s' q j cs.length) = setD m tv := by
                intro m hm
                refine map_same fun y hy => kB_keep ?_
                rcases hone with rfl | ⟨w, rfl⟩
                · exact (hm y hy).1
                · simp only [setD] at hy
                  rcases List.mem_or_eq_of_mem_set hy with g | g
                  · exact (hm y g).1
                  · rw [g]; simp [kB, SV.roots]
              simp only [putW]
              rw [kp sl hk1, kp sl2 hk2, gt_set (by rw [setD_length, hl]; exact hlt), gt_set (by rw [setD_length]; exact hlt), gtD sl2 u hl]
              simp
      · cases hT
    · cases hT
  | _ => simp [storeT] at hT
end
end Go.Proofs.Ytckcehmggdnliaa.DL
