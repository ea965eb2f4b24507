/- The data level, part 14: stores, whole. -/
import Derived.Test.YtckcehmggdnliaaL13
namespace Go.Proofs.Ytckcehmggdnliaa.DL
open Go Go.RowKit

section
variable {P : Program} {tb : Tb} {φ : Option Nat → List Nat} {w0 w w' : World} {F0 : List Nat} {sl : Sl} {fx : SV} {ts : Array Value} {fv : Value} {ds : List Deferred}

theorem CVs.append {f : Nat → Value} {vs1 vs2 : List Value} {cs1 cs2 : List CV} {ψ1 ψ2 : List Nat} (h : CVs w φ f vs1 cs1 ψ1) (h' : CVs w φ f vs2 cs2 ψ2) : CVs w φ f (vs1 ++ vs2) (cs1 ++ cs2) (ψ1 ++ ψ2) := by
  induction h with
  | nil => exact h'
  | cons h _ ih => simpa [List.append_assoc] using CVs.cons h ih

theorem CVs.split {f : Nat → Value} {vs : List Value} {cs : List CV} {ψ : List Nat} (h : CVs w φ f vs cs ψ) : ∀ k, ∃ ψ1 ψ2, CVs w φ f (vs.take k) (cs.take k) ψ1 ∧ CVs w φ f (vs.drop k) (cs.drop k) ψ2 ∧ ψ = ψ1 ++ ψ2 := by
  induction h with
  | nil => intro k; exact ⟨[], [], by simpa using .nil, by simpa using .nil, rfl⟩
  | @cons v c ψ1 vs cs ψs h1 h2 ih =>
    intro k
    cases k with
    | zero => exact ⟨[], _, .nil, .cons h1 h2, rfl⟩
    | succ k =>
      obtain ⟨ψ2, ψ3, g1, g2, rfl⟩ := ih k
      exact ⟨ψ1 ++ ψ2, ψ3, by simpa using .cons h1 g1, by simpa using g2, by simp⟩

theorem CVs.setRange {f : Nat → Value} {vs us : List Value} {cs new : List CV} {ψ χ : List Nat} (h : CVs w φ f vs cs ψ) {j : Nat} (hj : j + new.length ≤ cs.length) (hn : CVs w φ f us new χ) :
    ∃ ψ', CVs w φ f (DL.setRange vs j us) (DL.setRange cs j new) ψ' ∧ ∃ dr, (ψ ++ χ).Perm (ψ' ++ dr) := by
  have hl : us.length = new.length := hn.len
  obtain ⟨b1, b2, h1, h2, rfl⟩ := h.split j
  obtain ⟨b3, b4, h3, h4, rfl⟩ := h2.split new.length
  refine ⟨b1 ++ χ ++ b4, ?_, b3, ?_⟩
  · rw [setRange_eq _ _ _ hj, setRange_eq us vs j (by rw [h.len, hl]; exact hj), hl]
    rw [List.drop_drop, List.drop_drop] at h4
    exact (h1.append hn).append h4
  · have : (b1 ++ (b3 ++ b4) ++ χ).Perm (b1 ++ (χ ++ (b4 ++ b3))) := by
      rw [List.append_assoc]
      refine List.Perm.append_left b1 ?_
      refine List.perm_append_comm.trans ?_
      exact List.Perm.append_left χ List.perm_append_comm
    simpa [List.append_assoc] using this

theorem one_cell {f : Nat → Value} {v : Value} {χ : List Nat} {c : CV} (h : CVRel w φ f v χ c) (hf : c.free = true) : v.oneCell' = true ∧ v.cells = #[v] := by
  have rd : ∀ (o : Bool) (d : DV) (bs : List Nat), Rd o w [v] [d] bs → v.oneCell' = true ∧ v.cells = #[v] := fun o d bs hr => by
    cases hr with
    | sc hs _ => cases v <;> simp_all [isSc, Value.cells, Value.oneCell']
    | e0 _ _ => exact ⟨rfl, rfl⟩
    | sl _ _ _ _ _ _ _ => exact ⟨rfl, rfl⟩
  cases c with
  | un => simp [CV.free] at hf
  | sc u =>
    obtain ⟨rfl, hs, _⟩ := h
    cases v <;> simp_all [isSc, Value.cells, Value.oneCell']
  | rd d => obtain ⟨_, bs, hr, _⟩ := h; exact rd _ _ _ hr
  | own d => exact rd _ _ _ h
  | ref s p d => simp [CV.free] at hf
  | sub s p lo d => simp [CV.free] at hf
  | nb es => simp [CV.free] at hf
  | hd s p => simp [CV.free] at hf

theorem all_one {f : Nat → Value} {vs : List Value} {χ : List Nat} {cs : List CV} (h : CVs w φ f vs cs χ) (hf : cs.all CV.free = true) : ∀ v ∈ vs, v.oneCell' = true := by
  induction h with
  | nil => intro v hv; cases hv
  | cons h1 _ ih =>
    simp only [List.all_cons, Bool.and_eq_true] at hf
    intro v hv
    rcases List.mem_cons.1 hv with rfl | hv
    · exact (one_cell h1 hf.1).1
    · exact ih hf.2 v hv

theorem cells_rel {f : Nat → Value} {v : Value} {χ : List Nat} {x : SV} {cs : List CV} (h : SlotRel w φ f v χ x) (hc : cellsOf x = some cs) (hf : cs.all CV.free = true) : CVs w φ f v.cells.toList cs χ := by
  cases x with
  | one r =>
    cases r with
    | agg cs' =>
      cases hc
      obtain ⟨vs, rfl, h3⟩ := h
      exact h3
    | cell c =>
      cases hc
      rw [(one_cell h (by simpa using hf)).2]
      have := CVs.cons (w := w) (φ := φ) (f := f) (show CVRel w φ f v χ c from h) .nil
      simpa using this
  | _ => cases hc

theorem CVs.fit {f : Nat → Value} {vs : List Value} {χ : List Nat} {cs : List CV} (h : CVs w φ f vs cs χ) (hf : cs.all CV.fit = true) : Rd true w vs (cs.map CV.toDV) χ := by
  induction h with
  | nil => exact .nil
  | @cons v c ψ vs cs ψs h1 _ ih =>
    simp only [List.all_cons, Bool.and_eq_true] at hf
    have h2 : Rd true w [v] [c.toDV] ψ := by
      cases c with
      | sc u => obtain ⟨rfl, hs, rfl⟩ := h1; exact .sc hs .nil
      | own d => exact h1
      | _ => simp [CV.fit] at hf
    simpa using h2.append (ih hf.2)

theorem free_of_fit {cs : List CV} (h : cs.all CV.fit = true) : cs.all CV.free = true := by
  refine List.all_eq_true.2 fun c hc => ?_
  have := List.all_eq_true.1 h c hc
  cases c <;> simp_all [CV.fit, CV.free]

theorem store_run (hT : TbOk P tb) {t : TypeId} {v : Value} {b o : Nat} (hsz : v.cells.size = (tb t).size) (hpos : 0 < (tb t).size) (ht : w.there b o v.cells.size) (h1 : ∀ u ∈ v.cells.toList, u.oneCell' = true) :
    (Instr.storeAt t (.pointer (some ⟨b, o, none⟩)) v).run P w = .ok () (w.setCells b o v.cells.toList) := by
  have hs := (size_of (w := w) hT (not_other hT hpos)).1
  have := run_storeCells_cells (P := P) b o v.cells.toList 0 w (fun j hj => by simpa using (ht j (by simpa using hj)).1) (fun j hj => by simpa using (ht j (by simpa using hj)).2) h1
  simp only [Nat.add_zero] at this
  simp only [Instr.storeAt, Instr.sureAddr, Sem.run_bind, Sem.run_pure, Result.andThen_ok, storeVar, hs, hsz, ne_eq, not_true_eq_false, if_false, this]

theorem nodup_part {a b c d : List Nat} (hp : (a ++ b).Perm (c ++ d)) (ha : a.Nodup) (hb : b.Nodup) (hd : ∀ x ∈ b, x ∉ a) : c.Nodup :=
  (List.nodup_append.1 ((hp.nodup_iff).1 (List.nodup_append.2 ⟨ha, hb, fun _ hx y hy e => hd y hy (e ▸ hx)⟩))).1

/-- The heart of a store. -/
theorem store_core (h : RelW φ w0 F0 sl fx ts fv w) {s : Nat} {q : List Nat} {j b o : Nat} {hv : Value} {us : List Value} {new : List CV} {cs : List Prop}
    (hh : hdr w (φ (some s)) (valAt ts s) q = some hv) (hl : locOf hv = some (b, o)) (hn : CVs w φ (valAt ts) us new (φ none)) (hpos : 0 < new.length)
    (hok : setOk (gt sl s) q j new.length new = some cs) (hc : ∀ p ∈ cs, p) :
    w.there b (o + j) us.length ∧ new.all CV.free = true ∧ s < sl.length ∧ b ∈ φ (some s) ∧ ∃ ψ', ψ'.Nodup ∧ (∀ x ∈ ψ', x ∈ φ (some s) ∨ x ∈ φ none) ∧
      SlotRel (w.setCells b (o + j) us) (landed φ s ψ') (valAt ts) (valAt ts s) ψ' (setCs (gt sl s) q j new) ∧
      (isBox (setCs (gt sl s) q j new) = true → ∀ i k, (q = [] → i < j ∨ j + new.length ≤ i) → hdr w (φ (some s)) (valAt ts s) [i] = some k → hdr (w.setCells b (o + j) us) ψ' (valAt ts s) [i] = some k) := by
  have hr := gt_rel h s
  have hul : us.length = new.length := hn.len
  have hlt : s < sl.length := by
    refine Nat.lt_of_not_le fun hle => ?_
    have : gt sl s = .dead := by simp [gt, List.getD, List.getElem?_eq_none hle]
    rw [this] at hok
    simp [setOk] at hok
  have hdis : ∀ x ∈ φ none, x ∉ φ (some s) := fun x hx hx' => h.dj none (some s) (by simp) x hx hx'
  generalize gt sl s = x at *
  cases x with
  | one r =>
    cases r with
    | agg _ => simp [setOk] at hok
    | cell c =>
      cases c with
      | own d =>
        simp only [setOk] at hok
        split at hok
        · rename_i hfit
          cases hok
          have hp : d.InP q := hc _ (by simp)
          have hle : j + new.length ≤ (d.getP q).es.length := hc _ (by simp)
          obtain ⟨there, hb, ψ', k1, k2, k3⟩ := Rd.store (F := φ (some s)) (hn.fit hfit) (by simpa using hpos) (h.nd none) q hr (h.nd (some s)) hdis hh hl hp (by simpa using hle)
          refine ⟨there, free_of_fit hfit, hlt, hb, ψ', k2, k3, k1, fun hbx => by simp [setCs, isBox] at hbx⟩
        · cases hok
      | _ => simp [setOk] at hok
  | box cs0 =>
    obtain ⟨hroots, b0, c, el, ψs, h1, h2, h3, h4⟩ := hr
    have hnd := h.nd (some s)
    rw [h4] at hnd hdis
    obtain ⟨hb0, hnds⟩ := List.nodup_cons.1 hnd
    have hlen : c.size = cs0.length := by simpa using h3.len
    cases q with
    | nil =>
      simp only [hdr, Option.some.injEq] at hh
      subst hh
      rw [h1] at hl
      simp only [locOf, Option.some.injEq, Prod.mk.injEq] at hl
      obtain ⟨rfl, rfl⟩ := hl
      simp only [setOk] at hok
      split at hok
      · rename_i hcond
        simp only [Bool.and_eq_true, decide_eq_true_eq] at hcond
        obtain ⟨hj, hfree⟩ := hcond
        obtain ⟨ψ1, k1, dr, k2⟩ := h3.setRange hj hn
        have hin : ∀ x ∈ ψ1, x ∈ ψs ∨ x ∈ φ none := fun x hx => by
          have := (k2.mem_iff (a := x)).2 (List.mem_append_left _ hx)
          simpa using this
        have hne : ∀ x ∈ ψ1, x ≠ b0 := fun x hx e => by
          rcases hin x hx with h' | h'
          · exact hb0 (e ▸ h')
          · exact hdis x h' (by rw [e]; exact List.mem_cons_self ..)
        have hnd1 : ψ1.Nodup := nodup_part k2 hnds (h.nd none) fun x hx hx' => hdis x hx (List.mem_cons_of_mem _ hx')
        have there : w.there b0 (0 + j) us.length := fun k hk => by
          have : j + k < c.size := by omega
          simp only [World.cell?, World.frozen?, h2]
          refine ⟨?_, by simp⟩
          simp
          omega
        refine ⟨there, hfree, hlt, by rw [h4]; exact List.mem_cons_self .., b0 :: ψ1, List.nodup_cons.2 ⟨fun hx => hne b0 hx rfl, hnd1⟩, fun x hx => ?_, ?_, fun _ i k hi hk => ?_⟩
        · rw [h4]
          rcases List.mem_cons.1 hx with rfl | hx
          · exact .inl (List.mem_cons_self ..)
          · exact (hin x hx).imp (List.mem_cons_of_mem _) id
        · have hx := setCells_ext w b0 (0 + j) us
          have hs := setCells_block (b := b0) us (0 + j) h2
          refine ⟨?_, b0, _, el, ψ1, h1, hs, ?_, rfl⟩
          · intro c' hc'
            rw [setRange_eq _ _ _ hj] at hc'
            simp only [List.append_assoc, List.mem_append] at hc'
            rcases hc' with h' | h' | h'
            · exact hroots c' (List.mem_of_mem_take h')
            · have := List.all_eq_true.1 hfree c' h'
              cases c' <;> simp_all [CV.free, CV.roots]
            · exact hroots c' (List.mem_of_mem_drop h')
          · rw [Nat.zero_add]
            rw [Nat.zero_add] at hx
            refine k1.kept ⟨hx.size, fun x hx' => hx.block x ?_ (by simpa using hne x hx'), fun r hr => ?_, fun x hx' hf => ⟨hx.block x hx' (by simp; intro e; exact hf (some s) (by rw [h4, e]; exact List.mem_cons_self ..)), fun t ht => ?_⟩⟩
            · rcases hin x hx' with h' | h'
              · exact (h.lt (some s) x (by rw [h4]; exact List.mem_cons_of_mem _ h')).1
              · exact (h.lt none x h').1
            · exfalso
              obtain ⟨c', hc', hr'⟩ := List.mem_flatMap.1 hr
              rw [setRange_eq _ _ _ hj] at hc'
              simp only [List.append_assoc, List.mem_append] at hc'
              rcases hc' with h' | h' | h'
              · rw [hroots c' (List.mem_of_mem_take h')] at hr'; cases hr'
              · have := List.all_eq_true.1 hfree c' h'
                cases c' <;> simp_all [CV.free, CV.roots]
              · rw [hroots c' (List.mem_of_mem_drop h')] at hr'; cases hr'
            · unfold landed at ht
              split at ht
              · rcases List.mem_cons.1 ht with rfl | ht
                · exact hf (some s) (by rw [h4]; exact List.mem_cons_self ..)
                · rcases hin x ht with h' | h'
                  · exact hf (some s) (by rw [h4]; exact List.mem_cons_of_mem _ h')
                  · exact hf none h'
              · split at ht
                · cases ht
                · exact hf _ ht
        · rw [h1] at hk ⊢
          simp only [hdr, locOf] at hk ⊢
          rw [if_pos (by rw [h4]; exact List.mem_cons_self ..)] at hk
          rw [if_pos (List.mem_cons_self ..), World.cell?_setCells_out _ _ _ _ _ (fun _ _ => by
            rcases hi rfl with h' | h'
            · left; show 0 + i < 0 + j; omega
            · right; show 0 + j + us.length ≤ 0 + i; omega)]
          exact hk
      · cases hok
    | cons i q =>
      simp only [setOk] at hok
      cases hi : cs0[i]? with
      | none => simp [List.getD, hi] at hok
      | some c0 =>
        simp only [List.getD, hi, Option.getD_some] at hok
        cases c0 with
        | own d =>
          simp only at hok
          split at hok
          · rename_i hfit
            cases hok
            have hp : d.InP q := hc _ (by simp)
            have hle : j + new.length ≤ (d.getP q).es.length := hc _ (by simp)
            have hil := (List.getElem?_eq_some_iff.1 hi).1
            obtain ⟨ψ1, ψ2, g1, g2, rfl⟩ := h3.split i
            obtain ⟨ψ3, ψ4, g3, g4, rfl⟩ := g2.split 1
            have hiv : i < c.toList.length := by rw [h3.len]; exact hil
            have e1 : (c.toList.drop i).take 1 = [c.toList[i]] := by rw [List.drop_eq_getElem_cons hiv]; rfl
            have e2 : (cs0.drop i).take 1 = [.own d] := by
              rw [List.drop_eq_getElem_cons hil, (List.getElem?_eq_some_iff.1 hi).2]; rfl
            rw [e1, e2] at g3
            obtain ⟨u, hu, g5⟩ := g3.single
            cases hu
            have hcell : w.cell? ⟨b0, 0 + i, none⟩ = some c.toList[i] := by
              simp only [World.cell?, h2, Nat.zero_add]
              simp at hiv
              simp [hiv]
            rw [h1] at hh
            simp only [hdr, locOf] at hh
            rw [if_pos (by rw [h4]; exact List.mem_cons_self ..), hcell] at hh
            simp only [Option.bind_some] at hh
            have ndA := List.nodup_append.1 hnds
            have ndB := List.nodup_append.1 ndA.2.1
            obtain ⟨there, hb, ψ', k1, k2, k3⟩ := Rd.store (F := φ (some s)) (hn.fit hfit) (by simpa using hpos) (h.nd none) q g5 ndB.1 (fun x hx hx' => hdis x hx (by simp [hx'])) hh hl hp (by simpa using hle)
            have hbne : b ≠ b0 := fun e => hb0 (by rw [← e]; simp [hb])
            have hx := setCells_ext w b (o + j) us
            have hin : ∀ x ∈ b0 :: (ψ1 ++ (ψ' ++ ψ4)), x ∈ φ (some s) ∨ x ∈ φ none := fun x hx => by
              rw [h4]
              simp only [List.mem_cons, List.mem_append] at hx
              rcases hx with rfl | hx | hx | hx
              · exact .inl (List.mem_cons_self ..)
              · exact .inl (by simp [hx])
              · rcases k3 x hx with h' | h'
                · exact .inl (by simp [h'])
                · exact .inr h'
              · exact .inl (by simp [hx])
            have hkept : ∀ (ψk : List Nat) (R : List Nat), (∀ x ∈ ψk, x ≠ b ∧ x < w.heap.size) → R = [] → Kept w φ (valAt ts) (w.setCells b (o + j) us) (landed φ s (b0 :: (ψ1 ++ (ψ' ++ ψ4)))) (valAt ts) ψk R := fun ψk R hk hR => by
              subst hR
              refine ⟨hx.size, fun x hx' => hx.block x (hk x hx').2 (by simpa using (hk x hx').1), fun r hr => (by cases hr), fun x hx' hf => ⟨hx.block x hx' (by simp; intro e; exact hf (some s) (by rw [h4, e]; simp [hb])), fun t ht => ?_⟩⟩
              unfold landed at ht
              split at ht
              · rcases hin x ht with h' | h'
                · exact hf _ h'
                · exact hf _ h'
              · split at ht
                · cases ht
                · exact hf _ ht
            have hlt' : ∀ x, x ∈ φ (some s) → x < w.heap.size := fun x hx => (h.lt _ x hx).1
            refine ⟨there, free_of_fit hfit, hlt, by rw [h4]; simp [hb], b0 :: (ψ1 ++ (ψ' ++ ψ4)), ?_, hin, ?_, fun _ i' k _ hk => ?_⟩
            · refine List.nodup_cons.2 ⟨fun hx => ?_, List.nodup_append.2 ⟨ndA.1, List.nodup_append.2 ⟨k2, ndB.2.1, fun x hx y hy e => ?_⟩, fun x hx y hy e => ?_⟩⟩
              · simp only [List.mem_append] at hx
                rcases hx with hx | hx | hx
                · exact hb0 (by simp [hx])
                · rcases k3 _ hx with h' | h'
                  · exact hb0 (by simp [h'])
                  · exact hdis _ h' (List.mem_cons_self ..)
                · exact hb0 (by simp [hx])
              · rcases k3 x hx with h' | h'
                · exact ndB.2.2 x h' y hy e
                · exact hdis x h' (by rw [e]; simp [hy])
              · rcases List.mem_append.1 hy with hy | hy
                · rcases k3 y hy with h' | h'
                  · exact ndA.2.2 x hx y (by simp [h']) e
                  · exact hdis y h' (by rw [← e]; simp [hx])
                · exact ndA.2.2 x hx y (by simp [hy]) e
            · have hset : setCs (.box cs0) (i :: q) j new = .box (cs0.set i (.own (d.modP (fun es => DL.setRange es j (new.map CV.toDV)) q))) := by
                simp only [setCs, List.getD, hi, Option.getD_some]
              rw [hset]
              have r1 : (cs0.take i).flatMap CV.roots = [] := by
                rw [List.flatMap_eq_nil_iff]; exact fun c hc => hroots c (List.mem_of_mem_take hc)
              have r2 : (cs0.drop (i + 1)).flatMap CV.roots = [] := by
                rw [List.flatMap_eq_nil_iff]; exact fun c hc => hroots c (List.mem_of_mem_drop hc)
              have m1 := g1.kept (hkept ψ1 _ (fun x hx => ⟨fun e => ndA.2.2 x hx b (by simp [hb]) e, hlt' x (by rw [h4]; simp [hx])⟩) r1)
              rw [List.drop_drop, List.drop_drop] at g4
              have m2 := g4.kept (hkept ψ4 _ (fun x hx => ⟨fun e => ndB.2.2 b hb x hx e.symm, hlt' x (by rw [h4]; simp [hx])⟩) r2)
              have mm := m1.append (CVs.cons (w := w.setCells b (o + j) us) (φ := landed φ s (b0 :: (ψ1 ++ (ψ' ++ ψ4)))) (f := valAt ts) (v := c.toList[i]) (c := .own (d.modP (fun es => DL.setRange es j (new.map CV.toDV)) q)) (ψ := ψ') k1 m2)
              refine ⟨fun c' hc' => ?_, b0, c, el, _, h1, (heap_setCells b us _ w b0 (Ne.symm hbne)).trans h2, ?_, rfl⟩
              · rcases List.mem_or_eq_of_mem_set hc' with h' | h'
                · exact hroots c' h'
                · rw [h']; rfl
              · have e3 : c.toList.take i ++ c.toList[i] :: c.toList.drop (i + 1) = c.toList := by
                  rw [← List.drop_eq_getElem_cons hiv, List.take_append_drop]
                have e4 : cs0.take i ++ CV.own (d.modP (fun es => DL.setRange es j (new.map CV.toDV)) q) :: cs0.drop (i + 1) = cs0.set i (.own (d.modP (fun es => DL.setRange es j (new.map CV.toDV)) q)) := by
                  rw [List.set_eq_take_append_cons_drop, if_pos hil]
                rw [e3, e4] at mm
                exact mm
            · rw [h1] at hk ⊢
              simp only [hdr, locOf] at hk ⊢
              rw [if_pos (by rw [h4]; exact List.mem_cons_self ..)] at hk
              rw [if_pos (List.mem_cons_self ..), World.cell?_setCells_out _ _ _ _ _ (fun e _ => absurd e.symm hbne)]
              exact hk
          · cases hok
        | _ => simp at hok
  | _ => simp [setOk] at hok

/-- A store into slot s, what it leaves. -/
theorem store_rel {φ1 : Option Nat → List Nat} {sl1 : Sl} {fx1 : SV} {fv1 : Value} (h1 : RelW φ1 w0 F0 sl1 fx1 ts fv1 w) {s : Nat} {q : List Nat} {j b o : Nat} {hv : Value} {us : List Value} {new : List CV} {cs : List Prop}
    (g2 : hdr w (φ1 (some s)) (valAt ts s) q = some hv) (g3 : locOf hv = some (b, o)) (hcells : CVs w φ1 (valAt ts) us new (φ1 none)) (hpos : 0 < new.length)
    (hok : setOk (gt sl1 s) q j new.length new = some cs) (hc : ∀ p ∈ cs, p) :
    w.there b (o + j) us.length ∧ new.all CV.free = true ∧ ∃ φ', RelW φ' w0 F0 (putW sl1 s q j new.length (setCs (gt sl1 s) q j new)) .und ts undef (w.setCells b (o + j) us) := by
  obtain ⟨there, hfr, hlt, hb, ψ', k1, k2, k3, k4⟩ := store_core h1 g2 g3 hcells hpos hok hc
  have hext : Ext (φ1 (some s)) w (w.setCells b (o + j) us) := (setCells_ext w b (o + j) _).mono fun y hy _ => by
    have : y = b := by simpa using hy
    rw [this]; exact hb
  have root1 : landed φ1 s ψ' (some s) = ψ' := by simp [landed]
  have old : ∀ y, s ∉ y.roots → keepX (setCs (gt sl1 s) q j new) s q j new.length y = y := fun y hy => by
    have oldC : ∀ c : CV, s ∉ c.roots → keepC (isBox (setCs (gt sl1 s) q j new)) s q j new.length c = c := fun c hc => by simp [keepC, hc]
    unfold keepX
    split
    · rename_i c
      rw [oldC c (by simpa [SV.roots, RV.roots] using hy)]
    · rename_i cs
      congr 2
      refine (List.map_congr_left fun c hc => oldC c fun hr => hy ?_).trans (List.map_id _)
      simp only [SV.roots, RV.roots, List.mem_flatMap]
      exact ⟨c, hc, hr⟩
    · simp [keepW, hy]
  have oneC : ∀ (v : Value) (ψ : List Nat) (c : CV), (∀ b ∈ ψ, b ∉ φ1 (some s) ∧ b < w.heap.size) → CVRel w φ1 (valAt ts) v ψ c →
      CVRel (w.setCells b (o + j) us) (landed φ1 s ψ') (valAt ts) v ψ (keepC (isBox (setCs (gt sl1 s) q j new)) s q j new.length c) := by
    intro v ψ c hψ hc
    by_cases hs : s ∈ c.roots
    · have hroot : c.roots = [s] := root_of hs
      unfold keepC
      rw [if_pos hs]
      split
      · rename_i s'
        have : s' = s := by simpa [CV.roots] using hroot
        subst this
        exact ⟨hc.1, hc.2⟩
      · rename_i s' i
        have : s' = s := by simpa [CV.roots] using hroot
        subst this
        split
        · rename_i hbx
          split
          · rename_i hcond
            exact ⟨hc.1, by rw [root1]; exact k4 hbx i _ (fun _ => hcond) hc.2⟩
          · exact trivial
        · rename_i hq hbx
          exact ⟨hc.1, by rw [root1]; exact k4 hbx i _ (fun e => absurd e hq) hc.2⟩
        · exact trivial
      · exact trivial
    · have : keepC (isBox (setCs (gt sl1 s) q j new)) s q j new.length c = c := by simp [keepC, hs]
      rw [this]
      refine hc.kept ⟨hext.size, fun b' hb' => hext.block b' (hψ b' hb').2 (hψ b' hb').1, fun r hr => ?_, fun b' hb' hf => ⟨hext.block b' hb' (hf (some s)), fun t ht => ?_⟩⟩
      · have hne : r ≠ s := fun e => hs (e ▸ hr)
        exact ⟨rfl, by simp [landed, hne], fun b' hb' => hext.block b' (h1.lt _ b' hb').1 (h1.dj (some r) (some s) (by simpa using hne) b' hb')⟩
      · unfold landed at ht
        split at ht
        · rcases k2 b' ht with g | g
          · exact hf _ g
          · exact hf _ g
        · split at ht
          · cases ht
          · exact hf t ht
  refine ⟨there, hfr, _, h1.write s hlt (keep := keepX (setCs (gt sl1 s) q j new) s q j new.length) hext k1 k2 k3 old fun t y hts hy hr => ?_⟩
  have hrel := h1.slot (some t) y hy
  simp only [vget] at hrel
  have hφt : ∀ b ∈ φ1 (some t), b ∉ φ1 (some s) ∧ b < w.heap.size := fun b' hb' => ⟨h1.dj (some t) (some s) (by simpa using hts) b' hb', (h1.lt _ b' hb').1⟩
  unfold keepX
  split
  · rename_i c
    exact oneC _ _ c hφt hrel
  · rename_i cs
    obtain ⟨vs, g1, g2⟩ := hrel
    refine ⟨vs, g1, ?_⟩
    have go : ∀ (vs : List Value) (cs : List CV) (ψ : List Nat), CVs w φ1 (valAt ts) vs cs ψ → (∀ b ∈ ψ, b ∉ φ1 (some s) ∧ b < w.heap.size) →
        CVs (w.setCells b (o + j) us) (landed φ1 s ψ') (valAt ts) vs (cs.map (keepC (isBox (setCs (gt sl1 s) q j new)) s q j new.length)) ψ := by
      intro vs cs ψ hcv
      induction hcv with
      | nil => intro _; exact .nil
      | cons g1 _ ih =>
        intro hψ
        exact .cons (oneC _ _ _ (fun b' hb' => hψ b' (by simp [hb'])) g1) (ih fun b' hb' => hψ b' (by simp [hb']))
    exact go _ _ _ g2 hφt
  · rename_i n1 n2
    clear n1 n2
    unfold keepW
    rw [if_pos hr]
    split
    · rename_i s' j'
      have hs' : s = s' := by simpa [SV.roots] using hr
      subst hs'
      obtain ⟨e1, hh, b', o', e2, e3, e4⟩ := hrel
      exact ⟨e1, hh, b', o', by simpa [hdr] using e2, e3, e4⟩
    · rename_i s' i j'
      have hs' : s = s' := by simpa [SV.roots] using hr
      subst hs'
      obtain ⟨e1, hh, b', o', e2, e3, e4⟩ := hrel
      split
      · rename_i _ hbx
        split
        · rename_i hi
          exact ⟨e1, hh, b', o', by rw [root1]; exact k4 hbx i hh (fun _ => hi) e2, e3, e4⟩
        · exact trivial
      · rename_i hq hbx
        exact ⟨e1, hh, b', o', by rw [root1]; exact k4 hbx i hh (fun e => absurd e hq) e2, e3, e4⟩
      · exact trivial
    · exact trivial

theorem store_sound (hT : TbOk P tb) (h : RelW φ w0 F0 sl fx ts fv w) {t ty : TypeId} {a x : Operand} {cs : List Prop} {r : SV} {sl' : Sl}
    (hx : opV tb sl ty (.store t a x) = some (cs, r, sl')) (hc : ∀ p ∈ cs, p) : Sound P w0 F0 ts ds w (.store t a x) ty r sl' := by
  simp only [opV] at hx
  split at hx
  · rename_i v sl1 hv
    split at hx
    · rename_i s q j new ha hcs
      split at hx
      · cases hx
      · rename_i hsz
        simp only [Option.map_eq_some_iff, Prod.mk.injEq] at hx
        obtain ⟨cs', hok, rfl, rfl, rfl⟩ := hx
        simp only [Bool.or_eq_true, bne_iff_ne, ne_eq, beq_iff_eq, not_or, Decidable.not_not] at hsz
        obtain ⟨φ1, h1⟩ := opTake_rel (ds := ds) h hv
        obtain ⟨-, hv', b, o, g2, g3, g5⟩ := opView_rel (ds := ds) h1 ha rfl
        have hfl := h1.slot none v rfl
        simp only [vget] at hfl
        have hfree : new.all CV.free = true := by
          unfold setOk at hok
          split at hok
          · split at hok
            · rename_i hh; simp only [Bool.and_eq_true] at hh; exact hh.2
            · cases hok
          · split at hok
            · split at hok
              · rename_i hh; exact free_of_fit hh
              · cases hok
            · cases hok
          · split at hok
            · rename_i hh; exact free_of_fit hh
            · cases hok
          · cases hok
        have hcells := cells_rel hfl hcs hfree
        have hpos : 0 < new.length := Nat.pos_of_ne_zero hsz.2
        obtain ⟨there, -, φ2, hrel⟩ := store_rel h1 g2 g3 hcells hpos hok hc
        have hlen : (Act.eval ⟨ts, ds⟩ x).cells.size = new.length := by simpa using hcells.len
        have hrun := store_run (w := w) hT (t := t) (v := Act.eval ⟨ts, ds⟩ x) (b := b) (o := o + j) (by rw [hlen]; exact hsz.1) (by rw [← hsz.1]; exact hpos) (by simpa using there) (all_one hcells hfree)
        exact ⟨undef, _, _, yields_unit (s := Instr.storeAt t (Act.eval ⟨ts, ds⟩ a) (Act.eval ⟨ts, ds⟩ x)) (fun _ _ _ _ => rfl) (by rw [g5]; exact hrun), hrel⟩
    · cases hx
  · cases hx

end

end Go.Proofs.Ytckcehmggdnliaa.DL
