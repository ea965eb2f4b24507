/- The data level, part 18: what a reading operation brings hangs on the slots it looks at alone. -/
import Derived.Test.YtckcehmggdnliaaL17
namespace Go.Proofs.Ytckcehmggdnliaa.DL
open Go Go.RowKit

/-- The slots that an operand leads to are in sl2 as in sl. -/
def OkOp (sl sl2 : Sl) (x : Operand) : Prop := ∀ t, x = .tmp t → gt sl2 t = gt sl t ∧ ∀ r ∈ (gt sl t).roots, gt sl2 r = gt sl r

section
variable {tb : Tb} {sl sl2 : Sl} {x y z : Operand}

theorem resC_loc {c : CV} (h : ∀ r ∈ c.roots, gt sl2 r = gt sl r) : resC sl2 c = resC sl c := by
  unfold resC
  split
  · rename_i s p
    rw [h s (by simp [CV.roots])]
  · rfl
theorem view_loc {t : Nat} (h : gt sl2 t = gt sl t ∧ ∀ r ∈ (gt sl t).roots, gt sl2 r = gt sl r) : view sl2 t = view sl t := by
  obtain ⟨h1, h2⟩ := h
  unfold view
  rw [h1]
  split
  · rfl
  · rename_i c hn e
    rw [resC_loc fun r hr => h2 r (by rw [e]; simpa [SV.roots, RV.roots] using hr)]
  · rename_i cs e
    congr 2
    refine List.map_congr_left fun c hc => resC_loc fun r hr => h2 r ?_
    rw [e]
    simp only [SV.roots, RV.roots, List.mem_flatMap]
    exact ⟨c, hc, hr⟩
  · rfl
  · rfl
theorem opView_loc (h : OkOp sl sl2 x) (ty : TypeId) : opView tb ty sl2 x = opView tb ty sl x := by
  cases x with
  | tmp t => simp only [opView, view_loc (h t rfl)]
  | _ => rfl
theorem bound_loc {ty : TypeId} {x : Option Operand} (h : ∀ y, x = some y → OkOp sl sl2 y) (d : Int) : boundI tb ty sl2 x d = boundI tb ty sl x d := by
  cases x with
  | none => rfl
  | some y => simp only [boundI, opView_loc (h y rfl)]

theorem load_loc (h : OkOp sl sl2 x) {ty t : TypeId} {p : SV} (hp : opView tb ty sl x = some p) : loadV tb t sl2 p = loadV tb t sl p := by
  cases p with
  | ptr s q j =>
    have : gt sl2 s = gt sl s := by
      cases x with
      | tmp t =>
        obtain ⟨h1, h2⟩ := h t rfl
        simp only [opView, Option.some.injEq] at hp
        unfold view at hp
        split at hp
        · cases hp
        · cases hp
        · cases hp
        · cases hp; exact h1
        · exact h2 s (by rw [hp]; simp [SV.roots])
      | const v =>
        simp only [opView] at hp
        unfold constSV at hp
        split at hp <;> first | (cases hp; done) | (split at hp <;> cases hp) | cases hp
      | func f => simp [opView] at hp
      | global g => simp [opView] at hp
    simp only [loadV, this]
  | _ => rfl

theorem caps_loc : ∀ ss : List Nat, (∀ r ∈ ss, gt sl2 r = gt sl r) → capsV sl2 ss = capsV sl ss
  | [], _ => rfl
  | s :: ss, h => by
    simp only [capsV, h s (List.mem_cons_self ..), caps_loc ss fun r hr => h r (List.mem_cons_of_mem _ hr)]
theorem argV_loc (h : OkOp sl sl2 x) {ty : TypeId} {v : SV} (hv : opView tb ty sl x = some v) : argV sl2 v = argV sl v := by
  cases v with
  | one r => cases r <;> rfl
  | cloS f ss =>
    have : ∀ r ∈ ss, gt sl2 r = gt sl r := by
      cases x with
      | tmp t =>
        simp only [opView, Option.some.injEq] at hv
        unfold view at hv
        split at hv
        · cases hv
        · cases hv
        · cases hv
        · cases hv
        · intro r hr; exact (h t rfl).2 r (by rw [hv]; simpa [SV.roots] using hr)
      | const v =>
        simp only [opView] at hv
        unfold constSV at hv
        split at hv <;> first | (cases hv; done) | (split at hv <;> cases hv) | cases hv
      | func f => simp [opView] at hv
      | global g => simp [opView] at hv
    simp only [argV, caps_loc ss this]
  | _ => rfl
theorem argsV_loc : ∀ (os : List Operand) (tys : List TypeId), (∀ o ∈ os, OkOp sl sl2 o) → argsV tb sl2 tys os = argsV tb sl tys os
  | [], _, _ => rfl
  | o :: os, tys, h => by
    simp only [argsV, opView_loc (h o (List.mem_cons_self ..)), argsV_loc os tys.tail fun o' ho => h o' (List.mem_cons_of_mem _ ho)]
    cases hv : opView tb (tys.headD 0) sl o with
    | none => rfl
    | some v => simp only [Option.bind_some, argV_loc (h o (List.mem_cons_self ..)) hv]

theorem take_loc (h : OkOp sl sl2 x) (hn : ∀ t, x = .tmp t → (gt sl t).isOwn = false) (ty : TypeId) :
    ∃ r : Option SV, opTake tb ty sl x = r.map (·, sl) ∧ opTake tb ty sl2 x = r.map (·, sl2) := by
  cases x with
  | tmp t =>
    refine ⟨some (gt sl t), ?_, ?_⟩
    · simp [opTake, takeT, hn t rfl]
    · simp [opTake, takeT, (h t rfl).1, hn t rfl]
  | const v => exact ⟨constSV tb ty v, rfl, rfl⟩
  | func f => exact ⟨some (.cloR f []), rfl, rfl⟩
  | global g => exact ⟨none, rfl, rfl⟩

theorem parts_loc {pl : Nat → Option (Nat × Nat)} {total : Nat} : ∀ ps : List (Nat × Operand), (∀ p ∈ ps, OkOp sl sl2 p.2) → (∀ p ∈ ps, ∀ t, p.2 = .tmp t → (gt sl t).isOwn = false) →
    ∃ r : Option (List (Nat × List CV)), takeParts tb pl total sl ps = r.map (·, sl) ∧ takeParts tb pl total sl2 ps = r.map (·, sl2)
  | [], _, _ => ⟨some [], rfl, rfl⟩
  | (i, x) :: ps, h, hn => by
    obtain ⟨r0, h1, h2⟩ := take_loc (tb := tb) (h (i, x) (List.mem_cons_self ..)) (fun t e => hn (i, x) (List.mem_cons_self ..) t e) 0
    obtain ⟨r, h3, h4⟩ := parts_loc (pl := pl) (total := total) ps (fun p hp => h p (List.mem_cons_of_mem _ hp)) fun p hp => hn p (List.mem_cons_of_mem _ hp)
    simp only [takeParts, h1, h2]
    cases pl i with
    | none => exact ⟨none, by cases r0 <;> rfl, by cases r0 <;> rfl⟩
    | some on =>
      cases r0 with
      | none => exact ⟨none, rfl, rfl⟩
      | some v =>
        simp only [Option.map_some, h3, h4]
        cases partC v with
        | none => exact ⟨none, by cases r <;> rfl, by cases r <;> rfl⟩
        | some cs =>
          cases r with
          | none => exact ⟨none, rfl, rfl⟩
          | some r =>
            simp only [Option.map_some]
            by_cases hc : (cs.length == on.2 && Nat.ble (on.1 + on.2) total) = true
            · exact ⟨some ((on.1, cs) :: r), by simp [hc], by simp [hc]⟩
            · exact ⟨none, by simp [hc], by simp [hc]⟩

theorem gt_set_ne {s r : Nat} {x : SV} (h : r ≠ s) : gt (sl.set s x) r = gt sl r := by
  unfold gt
  rw [List.getD_eq_getElem?_getD, List.getD_eq_getElem?_getD, List.getElem?_set_ne (Ne.symm h)]
theorem map_kill_id {s : Nat} (h : ∀ y ∈ sl, s ∉ y.roots) : sl.map (killSV s) = sl :=
  (List.map_congr_left fun y hy => by unfold killSV; rw [if_neg (h y hy)]; rfl).trans (List.map_id _)
/-- What 'append' brings hangs on the two slots alone. -/
theorem app_loc {s u : Nat} {t : TypeId} {cs : List Prop} {v : SV} {sl1 : Sl} (h : appV tb sl t (.tmp s) (.tmp u) = some (cs, v, sl1)) (ho : ownForm (gt sl s) = true) (hu : (gt sl u).isOwn = false) (hus : u ≠ s)
    (hr : ∀ y ∈ sl, s ∉ y.roots) (hr2 : ∀ y ∈ sl2, s ∉ y.roots) (hs : gt sl2 s = gt sl s) (hok : OkOp sl sl2 (.tmp u)) : sl1 = sl.set s .dead ∧ v.roots = [] ∧ appV tb sl2 t (.tmp s) (.tmp u) = some (cs, v, sl2.set s .dead) := by
  obtain ⟨d, e⟩ : ∃ d, gt sl s = .one (.cell (.own d)) := by
    unfold ownForm at ho
    split at ho
    · rename_i d e; exact ⟨d, e⟩
    · cases ho
  have tk : ∀ z : Sl, gt z s = gt sl s → (∀ y ∈ z, s ∉ y.roots) → takeT z s = (.one (.cell (.own d)), z.set s .dead) := fun z hz hzr => by
    unfold takeT
    rw [hz, e]
    have k1 : killSV s (.one (.cell (.own d))) = .one (.cell (.own d)) := rfl
    have k2 : killSV s SV.dead = .dead := by unfold killSV; split <;> rfl
    simp only [SV.isOwn, RV.isOwn, CV.isOwn, if_true, k1, putT, map_kill_id hzr, k2]
  obtain ⟨o1, o2⟩ := hok u rfl
  have hsr : gt sl u ≠ .dead → ∀ r ∈ (gt sl u).roots, r ≠ s := fun hd r hm e' => by
    have hul : u < sl.length := by
      refine Nat.lt_of_not_le fun hle => hd ?_
      unfold gt
      rw [List.getD_eq_getElem?_getD, List.getElem?_eq_none hle]; rfl
    have hmem : gt sl u ∈ sl := by
      unfold gt
      rw [List.getD_eq_getElem?_getD, List.getElem?_eq_getElem hul]
      exact List.getElem_mem hul
    exact hr _ hmem (e' ▸ hm)
  have hsr' : ∀ r ∈ (gt sl u).roots, r ≠ s := fun r hm => hsr (fun hd => by rw [hd] at hm; cases hm) r hm
  have g1 : gt (sl.set s .dead) u = gt sl u := gt_set_ne hus
  have g2 : gt (sl2.set s .dead) u = gt sl u := (gt_set_ne hus).trans o1
  have v1 : view (sl.set s .dead) u = view sl u := view_loc ⟨g1, fun r hm => gt_set_ne (hsr' r hm)⟩
  have v2 : view (sl2.set s .dead) u = view sl u := view_loc ⟨g2, fun r hm => (gt_set_ne (hsr' r hm)).trans (o2 r hm)⟩
  unfold appV at h ⊢
  simp only [opTake, tk sl rfl hr, tk sl2 hs hr2] at h ⊢
  cases d with
  | val x =>
    split at h
    · rename_i hh; cases hh
    · cases h
  | sl sz es =>
    cases hk : (tb t).k with
    | slice el =>
      rw [hk] at h
      dsimp only at h ⊢
      rw [g1, v1] at h
      rw [g2, v2]
      split at h
      · rename_i sz2 es2 e2
        rw [e2] at hu
        cases hu
      · split at h
        · cases h; exact ⟨rfl, rfl, rfl⟩
        · cases h
    | _ => rw [hk] at h; cases h

theorem opV_loc {op : Op} {ty : TypeId} {c : List Prop} {v : SV} {sl' : Sl} (hs : still sl op = true) (h : opV tb sl ty op = some (c, v, sl')) (hok : ∀ x ∈ op.operands, OkOp sl sl2 x) :
    sl' = sl ∧ opV tb sl2 ty op = some (c, v, sl2) := by
  cases op with
  | move x =>
    have hx := hok x (by simp [Op.operands])
    cases x with
    | tmp t =>
      obtain ⟨h1, h2⟩ := hx t rfl
      have taken : (gt sl t).isOwn = false → some (([] : List Prop), takeT sl t) = some (c, v, sl') → sl' = sl ∧ some (([] : List Prop), takeT sl2 t) = some (c, v, sl2) := fun ho e => by
        simp only [takeT, ho, h1, Bool.false_eq_true, if_false] at e ⊢
        cases e; exact ⟨rfl, rfl⟩
      simp only [opV] at h ⊢
      rw [h1]
      simp only [still] at hs
      split at h
      · rename_i rs e
        rw [e] at hs
        exact taken (by rw [e]; simpa [SV.isOwn] using hs) h
      · rename_i cs e
        rw [e] at hs
        exact taken (by rw [e]; simpa [SV.isOwn, RV.isOwn] using hs) h
      · cases h; exact ⟨rfl, rfl⟩
      · cases h; exact ⟨rfl, rfl⟩
      · rw [view_loc ⟨h1, h2⟩]
        cases h; exact ⟨rfl, rfl⟩
    | const u =>
      simp only [opV] at h ⊢
      simp only [opView] at h ⊢
      cases hc : constSV tb ty u with
      | none => rw [hc] at h; cases h
      | some r => rw [hc] at h; cases h; exact ⟨rfl, rfl⟩
    | func f => cases h; exact ⟨rfl, rfl⟩
    | global g => cases h
  | assign x =>
    have hx := hok x (by simp [Op.operands])
    obtain ⟨r, h1, h2⟩ := take_loc (tb := tb) hx (fun t e => by subst e; simpa [still] using hs) ty
    simp only [opV, h1, h2] at h ⊢
    cases r with
    | none => cases h
    | some r => cases h; exact ⟨rfl, rfl⟩
  | alloc e =>
    simp only [opV] at h ⊢
    split at h
    · cases h
    · cases h; exact ⟨rfl, rfl⟩
  | box e x =>
    have hx := hok x (by simp [Op.operands])
    obtain ⟨r, h1, h2⟩ := take_loc (tb := tb) hx (fun t e => by subst e; simpa [still] using hs) ty
    simp only [opV, h1, h2] at h ⊢
    cases r with
    | none => cases h
    | some r =>
      simp only [Option.map_some] at h ⊢
      cases hb : boxOf r with
      | none => rw [hb] at h; cases h
      | some b => rw [hb] at h; cases h; exact ⟨rfl, rfl⟩
  | load t x =>
    have hx := hok x (by simp [Op.operands])
    simp only [opV, opView_loc hx] at h ⊢
    cases hp : opView tb ty sl x with
    | none => rw [hp] at h; cases h
    | some p =>
      rw [hp] at h
      simp only at h ⊢
      rw [load_loc hx hp]
      cases hl : loadV tb t sl p with
      | none => rw [hl] at h; cases h
      | some r => rw [hl] at h; cases h; exact ⟨rfl, rfl⟩
  | nilCheck x =>
    have hx := hok x (by simp [Op.operands])
    simp only [opV, opView_loc hx] at h ⊢
    split at h
    · cases h; exact ⟨rfl, rfl⟩
    · cases h; exact ⟨rfl, rfl⟩
    · cases h
  | binOp op xt x y yt =>
    have hx := hok x (by simp [Op.operands])
    have hy := hok y (by simp [Op.operands])
    simp only [opV, opView_loc hx, opView_loc hy] at h ⊢
    split at h
    · rename_i v' hn e1
      split at h
      · cases h; exact ⟨rfl, rfl⟩
      · cases h
    · cases h
    · rename_i hn
      split at h
      · rename_i u v' e1 e2
        cases hb : binV op (tb xt).k u v' with
        | none => rw [hb] at h; cases h
        | some r => rw [hb] at h; cases h; exact ⟨rfl, rfl⟩
      · rename_i cs' ds' e1 e2
        cases hb : eqA op ((tb xt).eq && cs'.length == (tb xt).size) cs' ds' with
        | none => rw [hb] at h; cases h
        | some r => rw [hb] at h; cases h; exact ⟨rfl, rfl⟩
      · cases h
  | unOp op xt x =>
    have hx := hok x (by simp [Op.operands])
    simp only [opV, opView_loc hx] at h ⊢
    split at h
    · rename_i u e1
      cases hb : unV op u with
      | none => rw [hb] at h; cases h
      | some r => rw [hb] at h; cases h; exact ⟨rfl, rfl⟩
    · cases h
  | convert src dst x =>
    have hx := hok x (by simp [Op.operands])
    simp only [opV, opView_loc hx] at h ⊢
    split at h
    · rename_i k u e1 e2
      cases hb : conV (tb dst).k u with
      | none => rw [hb] at h; cases h
      | some r => rw [hb] at h; cases h; exact ⟨rfl, rfl⟩
    · cases h
  | makeSlice t l d =>
    have hx := hok l (by simp [Op.operands])
    have hy := hok d (by simp [Op.operands])
    simp only [opV, opView_loc hx, opView_loc hy] at h ⊢
    split at h
    · cases h; exact ⟨rfl, rfl⟩
    · cases h
  | slice t x lo hi mx =>
    have hx := hok x (by simp [Op.operands])
    have hl : ∀ d, boundI tb ty sl2 lo d = boundI tb ty sl lo d := fun d => bound_loc (fun y hy => hok y (by simp [Op.operands, hy])) d
    have hh : ∀ d, boundI tb ty sl2 hi d = boundI tb ty sl hi d := fun d => bound_loc (fun y hy => hok y (by simp [Op.operands, hy])) d
    simp only [opV, opView_loc hx, hl, hh] at h ⊢
    split at h
    · rename_i u e2
      split at h
      · rename_i l' h' e3 e4
        cases hb : cutV tb t u l' h' with
        | none => rw [hb] at h; cases h
        | some r => rw [hb] at h; cases h; exact ⟨rfl, rfl⟩
      · cases h
    · cases h
  | fieldAddr t x f =>
    have hx := hok x (by simp [Op.operands])
    simp only [opV, opView_loc hx] at h ⊢
    split at h
    · split at h
      · rename_i hlt; rw [if_pos hlt]; cases h; exact ⟨rfl, rfl⟩
      · cases h
    · split at h
      · rename_i hlt; rw [if_pos hlt]; cases h; exact ⟨rfl, rfl⟩
      · cases h
    · cases h
  | indexAddr t x i =>
    have hx := hok x (by simp [Op.operands])
    have hy := hok i (by simp [Op.operands])
    simp only [opV, opView_loc hx, opView_loc hy] at h ⊢
    split at h
    · rename_i e u k n e1 e2 e3
      cases hb : idxV u n (tb e).size with
      | none => rw [hb] at h; cases h
      | some r => rw [hb] at h; cases h; exact ⟨rfl, rfl⟩
    · cases h
  | extract x i =>
    cases x with
    | tmp t =>
      obtain ⟨h1, -⟩ := hok (.tmp t) (by simp [Op.operands]) t rfl
      simp only [opV, h1] at h ⊢
      simp only [still] at hs
      split at h
      · rename_i rs e
        rw [e] at hs
        dsimp only at hs
        split at h
        · rename_i r hr
          rw [hr] at hs
          have : r.isOwn = false := by simpa using hs
          simp only [this, Bool.false_eq_true, if_false] at h ⊢
          cases h; exact ⟨rfl, rfl⟩
        · cases h
      · cases h
    | _ => cases h
  | pick c a b => cases h
  | call c => cases h
  | build t ps =>
    simp only [still, List.all_eq_true] at hs
    have own : ∀ p ∈ ps.toList, ∀ u, p.2 = .tmp u → (gt sl u).isOwn = false := fun p hp u e => by
      have := hs p hp
      rw [e] at this
      simpa using this
    have ok : ∀ p ∈ ps.toList, OkOp sl sl2 p.2 := fun p hp => hok p.2 (by simp only [Op.operands, List.mem_toArray, List.mem_map]; exact ⟨p, hp, rfl⟩)
    simp only [opV] at h ⊢
    split at h
    · rename_i offs hk
      obtain ⟨r, h1, h2⟩ := parts_loc (tb := tb) (pl := fun i => (offs.zip (tb t).szs)[i]?) (total := (tb t).zero.length) ps.toList ok own
      rw [h1] at h
      rw [h2]
      cases r with
      | none => cases h
      | some r => cases h; exact ⟨rfl, rfl⟩
    · rename_i n e hk
      obtain ⟨r, h1, h2⟩ := parts_loc (tb := tb) (pl := fun i => some (i * (tb e).size, (tb e).size)) (total := (tb t).zero.length) ps.toList ok own
      split at h
      · rename_i hb
        rw [if_pos hb]
        rw [h1] at h
        rw [h2]
        cases r with
        | none => cases h
        | some r => cases h; exact ⟨rfl, rfl⟩
      · cases h
    · cases h
  | buildSlice t len ps =>
    simp only [still, List.all_eq_true] at hs
    have own : ∀ p ∈ ps.toList, ∀ u, p.2 = .tmp u → (gt sl u).isOwn = false := fun p hp u e => by
      have := hs p hp
      rw [e] at this
      simpa using this
    have ok : ∀ p ∈ ps.toList, OkOp sl sl2 p.2 := fun p hp => hok p.2 (by simp only [Op.operands, List.mem_toArray, List.mem_map]; exact ⟨p, hp, rfl⟩)
    simp only [opV] at h ⊢
    split at h
    · rename_i e hk
      obtain ⟨r, h1, h2⟩ := parts_loc (tb := tb) (pl := fun i => some (i * (tb e).size, (tb e).size)) (total := len * (tb e).size) ps.toList ok own
      split at h
      · rename_i hb
        rw [if_pos hb]
        rw [h1] at h
        rw [h2]
        cases r with
        | none => cases h
        | some r =>
          simp only [Option.map_some] at h ⊢
          split at h
          · rename_i hf
            rw [if_pos hf]
            cases h; exact ⟨rfl, rfl⟩
          · cases h
      · cases h
    · cases h
  | _ => simp [still] at hs

variable {P : Program} {C : Cfg} {o : Oper}

theorem out_loc {v : SV} {sl' : Sl} (hs : (still sl o.op && !isX C o) = true) (h : OutR P C sl o v sl') (hok : ∀ x ∈ o.op.operands, OkOp sl sl2 x) : sl' = sl ∧ OutR P C sl2 o v sl2 := by
  simp only [Bool.and_eq_true, Bool.not_eq_true'] at hs
  obtain ⟨hs, hx⟩ := hs
  unfold OutR at h ⊢
  simp only [hx, Bool.false_eq_true, if_false] at h ⊢
  unfold OutR0 at h ⊢
  generalize ho : o.op = op at *
  have rest : (∃ cs, opV C.tb sl o.type op = some (cs, v, sl') ∧ ∀ p ∈ cs, p) → sl' = sl ∧ ∃ cs, opV C.tb sl2 o.type op = some (cs, v, sl2) ∧ ∀ p ∈ cs, p := fun ⟨cs, h1, h2⟩ => by
    obtain ⟨e1, e2⟩ := opV_loc hs h1 hok
    exact ⟨e1, cs, e2, h2⟩
  cases op with
  | pick c a b =>
    obtain ⟨t, u, h1, h2, h3, rfl⟩ := h
    refine ⟨rfl, t, u, ?_, ?_, h3, rfl⟩
    · rw [opView_loc (hok c (by simp [Op.operands]))]; exact h1
    · rw [opView_loc (hok _ ?_)]
      · exact h2
      · cases t <;> simp [Op.operands]
  | call c =>
    dsimp only at h ⊢
    have args : ∀ x ∈ c.args, OkOp sl sl2 x := fun x hx => hok x (by
      simp only [Op.operands, Call.operands]
      cases c.callee <;> simp [hx])
    cases hcal : c.callee with
    | value f =>
      rw [hcal] at h
      cases f with
      | func f =>
        obtain ⟨as, cs, h1, h2, h3, h4, h5, h6, rfl⟩ := h
        exact ⟨rfl, as, cs, by rw [argsV_loc _ _ fun x hx => args x (by simpa using hx)]; exact h1, h2, h3, h4, h5, h6, rfl⟩
      | _ => exact h.elim
    | invoke r m => rw [hcal] at h; exact h.elim
    | builtin b =>
      rw [hcal] at h
      cases b with
      | len =>
        obtain ⟨t, y, n, h1, h2, h3, h4, rfl⟩ := h
        refine ⟨rfl, t, y, n, h1, h2, ?_, h4, rfl⟩
        rw [opView_loc (args y (by rw [← Array.mem_toList_iff, h2]; simp))]
        exact h3
      | _ =>
        obtain ⟨mx, y, z, u, v, r, h0, h1, h2, h3, h4, h5, rfl⟩ := h
        exact ⟨rfl, mx, y, z, u, v, r, h0, h1, by rw [opView_loc (args y (by rw [← Array.mem_toList_iff, h1]; simp))]; exact h2, by rw [opView_loc (args z (by rw [← Array.mem_toList_iff, h1]; simp))]; exact h3, h4, h5, rfl⟩
  | _ => exact rest h

theorem step_loc {ops : List Oper} {v : SV} {sl' : Sl} (hs : (still sl o.op && !isX C o) = true) (h : StepR P C ops o sl v sl') (hf : ∀ t ∈ foot ops o sl, gt sl2 t = gt sl t) :
    sl' = sl ∧ StepR P C ops o sl2 v sl2 := by
  have hok : ∀ x ∈ o.op.operands, OkOp sl sl2 x := fun x hx t ht => by
    have ht' : t ∈ tmpsOf o := List.mem_filterMap.2 ⟨x, by simpa using hx, by rw [ht]⟩
    exact ⟨hf t (by simp [foot, ht']), fun r hr => hf r (List.mem_append_right _ (List.mem_append_right _ (List.mem_flatMap.2 ⟨t, ht', hr⟩)))⟩
  unfold StepR at h ⊢
  cases hg : o.guard with
  | none =>
    simp only [hg] at h ⊢
    exact out_loc hs h hok
  | some gw =>
    obtain ⟨g, want⟩ := gw
    simp only [hg] at h ⊢
    obtain ⟨t, ht, h⟩ := h
    have e : gt sl2 t = gt sl t := hf t (by simp [foot, guardSl, hg, ht])
    rcases h with ⟨h1, h2⟩ | ⟨h1, h2, h3⟩ | ⟨h1, h2, h3⟩
    · obtain ⟨e1, e2⟩ := out_loc hs h2 hok
      exact ⟨e1, t, ht, .inl ⟨e.trans h1, e2⟩⟩
    · exact ⟨h3, t, ht, .inr (.inl ⟨e.trans h1, h2, by trivial⟩)⟩
    · exact ⟨h3, t, ht, .inr (.inr ⟨e.trans h1, h2, by trivial⟩)⟩
end
end Go.Proofs.Ytckcehmggdnliaa.DL
