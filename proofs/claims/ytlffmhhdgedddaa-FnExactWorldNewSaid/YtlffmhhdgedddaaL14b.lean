/- The library: parts L14 to L14b. -/
import Derived.Test.YtlffmhhdgedddaaL13
import Derived.Laws.Tables
import Derived.Great.BuildSlice
import Derived.Laws.Cover3
import Derived.Laws.BytesString
import Derived.Laws.AppendOwn
/- The data level, part 14: stores, whole. -/
namespace Go.Proofs.Ytlffmhhdgedddaa.DL
open Go Go.RowKit

section
variable {P : Program} {tb : Tb} {φ : Option Nat → List Nat} {w0 w w' : World} {F0 : List Nat} {sl : Sl} {fx : SV} {ts : Array Value} {fv : Value} {ds : List Deferred}

theorem CVs.append {f : Nat → Value} {vs1 vs2 : List Value} {cs1 cs2 : List CV} {ψ1 ψ2 : List Nat} (h : CVs w φ f vs1 cs1 ψ1) (h' : CVs w φ f vs2 cs2 ψ2) : CVs w φ f (vs1 ++ vs2) (cs1 ++ cs2) (ψ1 ++ ψ2) := by
  induction h with
  | nil => exact h'
  | cons h _ ih => simpa [List.append_assoc] using CVs.cons h ih

theorem CVs.split {f : Nat → Value} {vs : List Value} {cs : List CV} {ψ : List Nat} (h : CVs w φ f vs cs ψ) : ∀ k, ∃ ψ1 ψ2, CVs w φ f (vs.take k) (cs.take k) ψ1 ∧ CVs w φ f (vs.drop k) (cs.drop k) ψ2 ∧ ψ = ψ1 ++ ψ2 := by
  induction h with
  | nil => intro k; exact ⟨[], [], by simpa using .nil, by simpa using .nil, rfl⟩
  | @cons v c ψ1 vs cs ψs h1 h2 ih =>
    intro k
    cases k with
    | zero => exact ⟨[], _, .nil, .cons h1 h2, rfl⟩
    | succ k =>
      obtain ⟨ψ2, ψ3, g1, g2, rfl⟩ := ih k
      exact ⟨ψ1 ++ ψ2, ψ3, by simpa using .cons h1 g1, by simpa using g2, by simp⟩

theorem CVs.setRange {f : Nat → Value} {vs us : List Value} {cs new : List CV} {ψ χ : List Nat} (h : CVs w φ f vs cs ψ) {j : Nat} (hj : j + new.length ≤ cs.length) (hn : CVs w φ f us new χ) :
    ∃ ψ', CVs w φ f (DL.setRange vs j us) (DL.setRange cs j new) ψ' ∧ ∃ dr, (ψ ++ χ).Perm (ψ' ++ dr) := by
  have hl : us.length = new.length := hn.len
  obtain ⟨b1, b2, h1, h2, rfl⟩ := h.split j
  obtain ⟨b3, b4, h3, h4, rfl⟩ := h2.split new.length
  refine ⟨b1 ++ χ ++ b4, ?_, b3, ?_⟩
  · rw [setRange_eq _ _ _ hj, setRange_eq us vs j (by rw [h.len, hl]; exact hj), hl]
    rw [List.drop_drop, List.drop_drop] at h4
    exact (h1.append hn).append h4
  · have : (b1 ++ (b3 ++ b4) ++ χ).Perm (b1 ++ (χ ++ (b4 ++ b3))) := by
      rw [List.append_assoc]
      refine List.Perm.append_left b1 ?_
      refine List.perm_append_comm.trans ?_
      exact List.Perm.append_left χ List.perm_append_comm
    simpa [List.append_assoc] using this

theorem free_roots {c : CV} (h : c.free = true) : c.roots = [] := by
  cases c <;> first | rfl | cases h
theorem one_cell {f : Nat → Value} {v : Value} {χ : List Nat} {c : CV} (h : CVRel w φ f v χ c) (hf : c.free = true) : v.oneCell' = true ∧ v.cells = #[v] := by
  have rd : ∀ (o : Bool) (d : DV) (bs : List Nat), Rd o w [v] [d] bs → v.oneCell' = true ∧ v.cells = #[v] := fun o d bs hr => by
    cases hr with
    | sc hs _ => cases v <;> simp_all [isSc, Value.cells, Value.oneCell']
    | e0 _ _ => exact ⟨rfl, rfl⟩
    | sl _ _ _ _ _ _ _ => exact ⟨rfl, rfl⟩
  cases c with
  | un => simp [CV.free] at hf
  | sc u =>
    obtain ⟨rfl, hs, _⟩ := h
    cases v <;> simp_all [isSc, Value.cells, Value.oneCell']
  | rd d => obtain ⟨_, bs, hr, _⟩ := h; exact rd _ _ _ hr
  | own d => exact rd _ _ _ h
  | ref s p d => simp [CV.free] at hf
  | sub s p lo d => simp [CV.free] at hf
  | nb es => simp [CV.free] at hf
  | hd s p => simp [CV.free] at hf
  | vl u d => obtain ⟨_, _, bs, hr, _⟩ := h; exact rd _ _ _ hr

theorem all_one {f : Nat → Value} {vs : List Value} {χ : List Nat} {cs : List CV} (h : CVs w φ f vs cs χ) (hf : cs.all CV.free = true) : ∀ v ∈ vs, v.oneCell' = true := by
  induction h with
  | nil => intro v hv; cases hv
  | cons h1 _ ih =>
    simp only [List.all_cons, Bool.and_eq_true] at hf
    intro v hv
    rcases List.mem_cons.1 hv with rfl | hv
    · exact (one_cell h1 hf.1).1
    · exact ih hf.2 v hv

theorem cells_rel {f : Nat → Value} {v : Value} {χ : List Nat} {x : SV} {cs : List CV} (h : SlotRel w φ f v χ x) (hc : cellsOf x = some cs) (hf : cs.all CV.free = true) : CVs w φ f v.cells.toList cs χ := by
  cases x with
  | one r =>
    cases r with
    | agg cs' =>
      cases hc
      obtain ⟨vs, rfl, h3⟩ := h
      exact h3
    | cell c =>
      cases hc
      rw [(one_cell h (by simpa using hf)).2]
      have := CVs.cons (w := w) (φ := φ) (f := f) (show CVRel w φ f v χ c from h) .nil
      simpa using this
  | _ => cases hc

theorem CVs.fit {f : Nat → Value} {vs : List Value} {χ : List Nat} {cs : List CV} (h : CVs w φ f vs cs χ) (hf : cs.all CV.fit = true) : Rd true w vs (cs.map CV.toDV) χ := by
  induction h with
  | nil => exact .nil
  | @cons v c ψ vs cs ψs h1 _ ih =>
    simp only [List.all_cons, Bool.and_eq_true] at hf
    have h2 : Rd true w [v] [c.toDV] ψ := by
      cases c with
      | sc u => obtain ⟨rfl, hs, rfl⟩ := h1; exact .sc hs .nil
      | own d => exact h1
      | _ => simp [CV.fit] at hf
    simpa using h2.append (ih hf.2)

theorem free_of_fit {cs : List CV} (h : cs.all CV.fit = true) : cs.all CV.free = true := by
  refine List.all_eq_true.2 fun c hc => ?_
  have := List.all_eq_true.1 h c hc
  cases c <;> simp_all [CV.fit, CV.free]

theorem store_run (hT : TbOk P tb) {t : TypeId} {v : Value} {b o : Nat} (hsz : v.cells.size = (tb t).size) (hpos : 0 < (tb t).size) (ht : w.there b o v.cells.size) (h1 : ∀ u ∈ v.cells.toList, u.oneCell' = true) :
    (Instr.storeAt t (.pointer (some ⟨b, o, none⟩)) v).run P w = .ok () (w.setCells b o v.cells.toList) := by
  have hs := (size_of (w := w) hT (not_other hT hpos)).1
  have := run_storeCells_cells (P := P) b o v.cells.toList 0 w (fun j hj => by simpa using (ht j (by simpa using hj)).1) (fun j hj => by simpa using (ht j (by simpa using hj)).2) h1
  simp only [Nat.add_zero] at this
  simp only [Instr.storeAt, Instr.sureAddr, Sem.run_bind, Sem.run_pure, Result.andThen_ok, storeVar, hs, hsz, ne_eq, not_true_eq_false, if_false, this]

theorem nodup_part {a b c d : List Nat} (hp : (a ++ b).Perm (c ++ d)) (ha : a.Nodup) (hb : b.Nodup) (hd : ∀ x ∈ b, x ∉ a) : c.Nodup :=
  (List.nodup_append.1 ((hp.nodup_iff).1 (List.nodup_append.2 ⟨ha, hb, fun _ hx y hy e => hd y hy (e ▸ hx)⟩))).1

/-- The heart of a store. -/
theorem store_core (h : RelW φ w0 F0 sl fx ts fv w) {s : Nat} {q : List Nat} {j b o : Nat} {hv : Value} {us : List Value} {new : List CV} {cs : List Prop}
    (hh : hdr w (φ (some s)) (valAt ts s) q = some hv) (hl : locOf hv = some (b, o)) (hn : CVs w φ (valAt ts) us new (φ none)) (hpos : 0 < new.length)
    (hok : setOk (gt sl s) q j new.length new = some cs) (hc : ∀ p ∈ cs, p) :
    w.there b (o + j) us.length ∧ new.all CV.free = true ∧ s < sl.length ∧ b ∈ φ (some s) ∧ ∃ ψ', ψ'.Nodup ∧ (∀ x ∈ ψ', x ∈ φ (some s) ∨ x ∈ φ none) ∧
      SlotRel (w.setCells b (o + j) us) (landed φ s ψ') (valAt ts) (valAt ts s) ψ' (setCs (gt sl s) q j new) ∧
      (isBox (setCs (gt sl s) q j new) = true → ∀ i k, (q = [] → i < j ∨ j + new.length ≤ i) → hdr w (φ (some s)) (valAt ts s) [i] = some k → hdr (w.setCells b (o + j) us) ψ' (valAt ts s) [i] = some k) := by
  have hr := gt_rel h s
  have hul : us.length = new.length := hn.len
  have hlt : s < sl.length := by
    refine Nat.lt_of_not_le fun hle => ?_
    have : gt sl s = .dead := by simp [gt, List.getD, List.getElem?_eq_none hle]
    rw [this] at hok
    simp [setOk] at hok
  have hdis : ∀ x ∈ φ none, x ∉ φ (some s) := fun x hx hx' => h.dj none (some s) (by simp) x hx hx'
  generalize gt sl s = x at *
  cases x with
  | one r =>
    cases r with
    | agg _ => simp [setOk] at hok
    | cell c =>
      cases c with
      | own d =>
        simp only [setOk] at hok
        split at hok
        · rename_i hfit
          cases hok
          have hp : d.InP q := hc _ (by simp)
          have hle : j + new.length ≤ (d.getP q).es.length := hc _ (by simp)
          obtain ⟨there, hb, ψ', k1, k2, k3⟩ := Rd.store (F := φ (some s)) (hn.fit hfit) (by simpa using hpos) (h.nd none) q hr (h.nd (some s)) hdis hh hl hp (by simpa using hle)
          refine ⟨there, free_of_fit hfit, hlt, hb, ψ', k2, k3, k1, fun hbx => by simp [setCs, isBox] at hbx⟩
        · cases hok
      | _ => simp [setOk] at hok
  | box cs0 =>
    obtain ⟨hroots, b0, c, el, ψs, h1, h2, h3, h4⟩ := hr
    have hnd := h.nd (some s)
    rw [h4] at hnd hdis
    obtain ⟨hb0, hnds⟩ := List.nodup_cons.1 hnd
    have hlen : c.size = cs0.length := by simpa using h3.len
    cases q with
    | nil =>
      simp only [hdr, Option.some.injEq] at hh
      subst hh
      rw [h1] at hl
      simp only [locOf, Option.some.injEq, Prod.mk.injEq] at hl
      obtain ⟨rfl, rfl⟩ := hl
      simp only [setOk] at hok
      split at hok
      · rename_i hcond
        simp only [Bool.and_eq_true, decide_eq_true_eq] at hcond
        obtain ⟨hj, hfree⟩ := hcond
        obtain ⟨ψ1, k1, dr, k2⟩ := h3.setRange hj hn
        have hin : ∀ x ∈ ψ1, x ∈ ψs ∨ x ∈ φ none := fun x hx => by
          have := (k2.mem_iff (a := x)).2 (List.mem_append_left _ hx)
          simpa using this
        have hne : ∀ x ∈ ψ1, x ≠ b0 := fun x hx e => by
          rcases hin x hx with h' | h'
          · exact hb0 (e ▸ h')
          · exact hdis x h' (by rw [e]; exact List.mem_cons_self ..)
        have hnd1 : ψ1.Nodup := nodup_part k2 hnds (h.nd none) fun x hx hx' => hdis x hx (List.mem_cons_of_mem _ hx')
        have there : w.there b0 (0 + j) us.length := fun k hk => by
          have : j + k < c.size := by omega
          simp only [World.cell?, World.frozen?, h2]
          refine ⟨?_, by simp⟩
          simp
          omega
        refine ⟨there, hfree, hlt, by rw [h4]; exact List.mem_cons_self .., b0 :: ψ1, List.nodup_cons.2 ⟨fun hx => hne b0 hx rfl, hnd1⟩, fun x hx => ?_, ?_, fun _ i k hi hk => ?_⟩
        · rw [h4]
          rcases List.mem_cons.1 hx with rfl | hx
          · exact .inl (List.mem_cons_self ..)
          · exact (hin x hx).imp (List.mem_cons_of_mem _) id
        · have hx := setCells_ext w b0 (0 + j) us
          have hs := setCells_block (b := b0) us (0 + j) h2
          refine ⟨?_, b0, _, el, ψ1, h1, hs, ?_, rfl⟩
          · intro c' hc'
            rw [setRange_eq _ _ _ hj] at hc'
            simp only [List.append_assoc, List.mem_append] at hc'
            rcases hc' with h' | h' | h'
            · exact hroots c' (List.mem_of_mem_take h')
            · have := List.all_eq_true.1 hfree c' h'
              exact free_roots this
            · exact hroots c' (List.mem_of_mem_drop h')
          · rw [Nat.zero_add]
            rw [Nat.zero_add] at hx
            refine k1.kept ⟨hx.size, fun x hx' => hx.block x ?_ (by simpa using hne x hx'), fun r hr => ?_, fun x hx' hf => ⟨hx.block x hx' (by simp; intro e; exact hf (some s) (by rw [h4, e]; exact List.mem_cons_self ..)), fun t ht => ?_⟩⟩
            · rcases hin x hx' with h' | h'
              · exact (h.lt (some s) x (by rw [h4]; exact List.mem_cons_of_mem _ h')).1
              · exact (h.lt none x h').1
            · exfalso
              obtain ⟨c', hc', hr'⟩ := List.mem_flatMap.1 hr
              rw [setRange_eq _ _ _ hj] at hc'
              simp only [List.append_assoc, List.mem_append] at hc'
              rcases hc' with h' | h' | h'
              · rw [hroots c' (List.mem_of_mem_take h')] at hr'; cases hr'
              · have := List.all_eq_true.1 hfree c' h'
                rw [free_roots this] at hr'; cases hr'
              · rw [hroots c' (List.mem_of_mem_drop h')] at hr'; cases hr'
            · unfold landed at ht
              split at ht
              · rcases List.mem_cons.1 ht with rfl | ht
                · exact hf (some s) (by rw [h4]; exact List.mem_cons_self ..)
                · rcases hin x ht with h' | h'
                  · exact hf (some s) (by rw [h4]; exact List.mem_cons_of_mem _ h')
                  · exact hf none h'
              · split at ht
                · cases ht
                · exact hf _ ht
        · rw [h1] at hk ⊢
          simp only [hdr, locOf] at hk ⊢
          rw [if_pos (by rw [h4]; exact List.mem_cons_self ..)] at hk
          rw [if_pos (List.mem_cons_self ..), World.cell?_setCells_out _ _ _ _ _ (fun _ _ => by
            rcases hi rfl with h' | h'
            · left; show 0 + i < 0 + j; omega
            · right; show 0 + j + us.length ≤ 0 + i; omega)]
          exact hk
      · cases hok
    | cons i q =>
      simp only [setOk] at hok
      cases hi : cs0[i]? with
      | none => simp [List.getD, hi] at hok
      | some c0 =>
        simp only [List.getD, hi, Option.getD_some] at hok
        cases c0 with
        | own d =>
          simp only at hok
          split at hok
          · rename_i hfit
            cases hok
            have hp : d.InP q := hc _ (by simp)
            have hle : j + new.length ≤ (d.getP q).es.length := hc _ (by simp)
            have hil := (List.getElem?_eq_some_iff.1 hi).1
            obtain ⟨ψ1, ψ2, g1, g2, rfl⟩ := h3.split i
            obtain ⟨ψ3, ψ4, g3, g4, rfl⟩ := g2.split 1
            have hiv : i < c.toList.length := by rw [h3.len]; exact hil
            have e1 : (c.toList.drop i).take 1 = [c.toList[i]] := by rw [List.drop_eq_getElem_cons hiv]; rfl
            have e2 : (cs0.drop i).take 1 = [.own d] := by
              rw [List.drop_eq_getElem_cons hil, (List.getElem?_eq_some_iff.1 hi).2]; rfl
            rw [e1, e2] at g3
            obtain ⟨u, hu, g5⟩ := g3.single
            cases hu
            have hcell : w.cell? ⟨b0, 0 + i, none⟩ = some c.toList[i] := by
              simp only [World.cell?, h2, Nat.zero_add]
              simp at hiv
              simp [hiv]
            rw [h1] at hh
            simp only [hdr, locOf] at hh
            rw [if_pos (by rw [h4]; exact List.mem_cons_self ..), hcell] at hh
            simp only [Option.bind_some] at hh
            have ndA := List.nodup_append.1 hnds
            have ndB := List.nodup_append.1 ndA.2.1
            obtain ⟨there, hb, ψ', k1, k2, k3⟩ := Rd.store (F := φ (some s)) (hn.fit hfit) (by simpa using hpos) (h.nd none) q g5 ndB.1 (fun x hx hx' => hdis x hx (by simp [hx'])) hh hl hp (by simpa using hle)
            have hbne : b ≠ b0 := fun e => hb0 (by rw [← e]; simp [hb])
            have hx := setCells_ext w b (o + j) us
            have hin : ∀ x ∈ b0 :: (ψ1 ++ (ψ' ++ ψ4)), x ∈ φ (some s) ∨ x ∈ φ none := fun x hx => by
              rw [h4]
              simp only [List.mem_cons, List.mem_append] at hx
              rcases hx with rfl | hx | hx | hx
              · exact .inl (List.mem_cons_self ..)
              · exact .inl (by simp [hx])
              · rcases k3 x hx with h' | h'
                · exact .inl (by simp [h'])
                · exact .inr h'
              · exact .inl (by simp [hx])
            have hkept : ∀ (ψk : List Nat) (R : List Nat), (∀ x ∈ ψk, x ≠ b ∧ x < w.heap.size) → R = [] → Kept w φ (valAt ts) (w.setCells b (o + j) us) (landed φ s (b0 :: (ψ1 ++ (ψ' ++ ψ4)))) (valAt ts) ψk R := fun ψk R hk hR => by
              subst hR
              refine ⟨hx.size, fun x hx' => hx.block x (hk x hx').2 (by simpa using (hk x hx').1), fun r hr => (by cases hr), fun x hx' hf => ⟨hx.block x hx' (by simp; intro e; exact hf (some s) (by rw [h4, e]; simp [hb])), fun t ht => ?_⟩⟩
              unfold landed at ht
              split at ht
              · rcases hin x ht with h' | h'
                · exact hf _ h'
                · exact hf _ h'
              · split at ht
                · cases ht
                · exact hf _ ht
            have hlt' : ∀ x, x ∈ φ (some s) → x < w.heap.size := fun x hx => (h.lt _ x hx).1
            refine ⟨there, free_of_fit hfit, hlt, by rw [h4]; simp [hb], b0 :: (ψ1 ++ (ψ' ++ ψ4)), ?_, hin, ?_, fun _ i' k _ hk => ?_⟩
            · refine List.nodup_cons.2 ⟨fun hx => ?_, List.nodup_append.2 ⟨ndA.1, List.nodup_append.2 ⟨k2, ndB.2.1, fun x hx y hy e => ?_⟩, fun x hx y hy e => ?_⟩⟩
              · simp only [List.mem_append] at hx
                rcases hx with hx | hx | hx
                · exact hb0 (by simp [hx])
                · rcases k3 _ hx with h' | h'
                  · exact hb0 (by simp [h'])
                  · exact hdis _ h' (List.mem_cons_self ..)
                · exact hb0 (by simp [hx])
              · rcases k3 x hx with h' | h'
                · exact ndB.2.2 x h' y hy e
                · exact hdis x h' (by rw [e]; simp [hy])
              · rcases List.mem_append.1 hy with hy | hy
                · rcases k3 y hy with h' | h'
                  · exact ndA.2.2 x hx y (by simp [h']) e
                  · exact hdis y h' (by rw [← e]; simp [hx])
                · exact ndA.2.2 x hx y (by simp [hy]) e
            · have hset : setCs (.box cs0) (i :: q) j new = .box (cs0.set i (.own (d.modP (fun es => DL.setRange es j (new.map CV.toDV)) q))) := by
                simp only [setCs, List.getD, hi, Option.getD_some]
              rw [hset]
              have r1 : (cs0.take i).flatMap CV.roots = [] := by
                rw [List.flatMap_eq_nil_iff]; exact fun c hc => hroots c (List.mem_of_mem_take hc)
              have r2 : (cs0.drop (i + 1)).flatMap CV.roots = [] := by
                rw [List.flatMap_eq_nil_iff]; exact fun c hc => hroots c (List.mem_of_mem_drop hc)
              have m1 := g1.kept (hkept ψ1 _ (fun x hx => ⟨fun e => ndA.2.2 x hx b (by simp [hb]) e, hlt' x (by rw [h4]; simp [hx])⟩) r1)
              rw [List.drop_drop, List.drop_drop] at g4
              have m2 := g4.kept (hkept ψ4 _ (fun x hx => ⟨fun e => ndB.2.2 b hb x hx e.symm, hlt' x (by rw [h4]; simp [hx])⟩) r2)
              have mm := m1.append (CVs.cons (w := w.setCells b (o + j) us) (φ := landed φ s (b0 :: (ψ1 ++ (ψ' ++ ψ4)))) (f := valAt ts) (v := c.toList[i]) (c := .own (d.modP (fun es => DL.setRange es j (new.map CV.toDV)) q)) (ψ := ψ') k1 m2)
              refine ⟨fun c' hc' => ?_, b0, c, el, _, h1, (heap_setCells b us _ w b0 (Ne.symm hbne)).trans h2, ?_, rfl⟩
              · rcases List.mem_or_eq_of_mem_set hc' with h' | h'
                · exact hroots c' h'
                · rw [h']; rfl
              · have e3 : c.toList.take i ++ c.toList[i] :: c.toList.drop (i + 1) = c.toList := by
                  rw [← List.drop_eq_getElem_cons hiv, List.take_append_drop]
                have e4 : cs0.take i ++ CV.own (d.modP (fun es => DL.setRange es j (new.map CV.toDV)) q) :: cs0.drop (i + 1) = cs0.set i (.own (d.modP (fun es => DL.setRange es j (new.map CV.toDV)) q)) := by
                  rw [List.set_eq_take_append_cons_drop, if_pos hil]
                rw [e3, e4] at mm
                exact mm
            · rw [h1] at hk ⊢
              simp only [hdr, locOf] at hk ⊢
              rw [if_pos (by rw [h4]; exact List.mem_cons_self ..)] at hk
              rw [if_pos (List.mem_cons_self ..), World.cell?_setCells_out _ _ _ _ _ (fun e _ => absurd e.symm hbne)]
              exact hk
          · cases hok
        | _ => simp at hok
  | _ => simp [setOk] at hok

theorem hdOf_roots (c : CV) : (hdOf c).roots = c.roots := by cases c <;> rfl
theorem hdOf_rel {w : World} {φ : Option Nat → List Nat} {f : Nat → Value} {v : Value} {ψ : List Nat} {c : CV} (h : CVRel w φ f v ψ c) : CVRel w φ f v ψ (hdOf c) := by
  cases c with
  | ref s p d => exact ⟨h.1, h.2.1⟩
  | _ => exact h
theorem hdr_det {w : World} {F G : List Nat} : ∀ (p : List Nat) (v a b : Value), hdr w F v p = some a → hdr w G v p = some b → a = b
  | [], v, a, b, h1, h2 => by
    simp only [hdr, Option.some.injEq] at h1 h2
    exact h1.symm.trans h2
  | j :: p, v, a, b, h1, h2 => by
    simp only [hdr] at h1 h2
    cases hl : locOf v with
    | none => rw [hl] at h1; cases h1
    | some bo =>
      obtain ⟨b0, o⟩ := bo
      rw [hl] at h1 h2
      dsimp only at h1 h2
      split at h1
      · split at h2
        · simp only [Option.bind_eq_some_iff] at h1 h2
          obtain ⟨u, g1, g2⟩ := h1
          obtain ⟨u', g3, g4⟩ := h2
          rw [g1] at g3
          cases g3
          exact hdr_det p u a b g2 g4
        · cases h2
      · cases h1
/-- A way down from a box, through a cell that is owned. -/
theorem box_path {w : World} {φ : Option Nat → List Nat} {f : Nat → Value} {v : Value} {ψ : List Nat} {bs : List CV} (h : SlotRel w φ f v ψ (.box bs)) {i : Nat} {d0 : DV} (hi : bs.getD i .un = .own d0) {p : List Nat} (hp : d0.InP p) :
    ∃ b0 vi χ u χp, v = .pointer (some ⟨b0, 0, none⟩) ∧ b0 ∈ ψ ∧ w.cell? ⟨b0, 0 + i, none⟩ = some vi ∧ Rd true w [vi] [d0] χ ∧ (∀ b ∈ χ, b ∈ ψ) ∧ (ψ.Nodup → b0 ∉ χ) ∧ hdr w χ vi p = some u ∧ hdr w ψ v (i :: p) = some u ∧ Rd true w [u] [d0.getP p] χp ∧ ∀ b ∈ χp, b ∈ χ := by
  obtain ⟨-, b0, c, el, ψs, h1, h2, h3, h4⟩ := h
  have hil : i < bs.length := by
    refine Nat.lt_of_not_le fun hle => ?_
    simp [List.getD, List.getElem?_eq_none hle] at hi
  have hic : bs[i]? = some (.own d0) := by
    simp only [List.getD, List.getElem?_eq_getElem hil, Option.getD_some] at hi
    rw [List.getElem?_eq_getElem hil, hi]
  obtain ⟨vi, χ, g1, g2, g3⟩ := h3.get hic
  obtain ⟨u, χp, k1, k2, k3⟩ := Rd.path (F := χ) p g2 (fun _ hb => hb) hp
  obtain ⟨u', χp', m1, m2, m3⟩ := Rd.path (F := ψ) p g2 (fun b hb => by rw [h4]; exact List.mem_cons_of_mem _ (g3 b hb)) hp
  have hcell : w.cell? ⟨b0, 0 + i, none⟩ = some vi := by
    have : c.size > i := by
      have := h3.len
      simp at this
      omega
    simp only [World.cell?, h2, Nat.zero_add]
    simpa [this] using g1
  have : u' = u := hdr_det p vi u' u m1 k1
  subst this
  refine ⟨b0, vi, χ, u', χp, h1, by rw [h4]; exact List.mem_cons_self .., hcell, g2, fun b hb => by rw [h4]; exact List.mem_cons_of_mem _ (g3 b hb), fun hn hb => ?_, k1, ?_, k2, k3⟩
  · rw [h4] at hn
    exact (List.nodup_cons.1 hn).1 (g3 b0 hb)
  · rw [h1]
    simp only [hdr, locOf]
    rw [if_pos (by rw [h4]; exact List.mem_cons_self ..), hcell]
    exact m1
theorem setRange_out {cs new : List CV} {i j : Nat} (hj : j + new.length ≤ cs.length) (h : i < j ∨ j + new.length ≤ i) : (setRange cs j new).getD i .un = cs.getD i .un := by
  rw [setRange_eq _ _ _ hj]
  simp only [List.getD_eq_getElem?_getD]
  congr 1
  rcases h with h | h
  · rw [List.append_assoc, List.getElem?_append_left (by rw [List.length_take]; omega), List.getElem?_take, if_pos h]
  · rw [List.getElem?_append_right (by simp; omega), List.getElem?_drop]
    congr 1
    simp
    omega
theorem setCs_box {x : SV} {q : List Nat} {j : Nat} {new : List CV} (h : isBox (setCs x q j new) = true) : ∃ bs, x = .box bs := by
  cases x with
  | box bs => exact ⟨bs, rfl⟩
  | one r =>
    cases r with
    | cell c => cases c <;> simp [setCs, isBox] at h
    | agg _ => simp [setCs, isBox] at h
  | _ => simp [setCs, isBox] at h
theorem refsX_mem {bs : List CV} {s j n : Nat} {c : CV} {p : Prop} : ∀ {sl : Sl} {t : Nat}, sl[t]? = some (.one (.cell c)) → p ∈ refsC bs s j n c → p ∈ refsX (.box bs) s [] j n sl
  | [], t, h, _ => by simp at h
  | y :: ys, 0, h, hp => by
    simp only [List.getElem?_cons_zero, Option.some.injEq] at h
    subst h
    exact List.mem_append_left _ hp
  | y :: ys, t + 1, h, hp => List.mem_append_right _ (refsX_mem (by simpa using h) hp)
theorem refsX_q {x : SV} {s j n : Nat} {q : List Nat} (h : q ≠ [] ∨ isBox x = false) : ∀ sl : Sl, refsX x s q j n sl = []
  | [] => rfl
  | y :: ys => by
    unfold refsX
    rw [refsX_q h ys, List.append_nil]
    split
    · rcases h with h | h
      · exact absurd rfl h
      · cases h
    · rfl
theorem refsX_kB {x : SV} {s j n : Nat} {q : List Nat} : ∀ sl : Sl, (∀ y ∈ sl, kB s y = true) → refsX x s q j n sl = []
  | [], _ => rfl
  | y :: ys, h => by
    unfold refsX
    rw [refsX_kB ys fun z hz => h z (List.mem_cons_of_mem _ hz), List.append_nil]
    split
    · rename_i bs c
      have hy := h _ (List.mem_cons_self ..)
      unfold refsC
      split
      · rename_i s' i i2 p d
        split
        · rename_i e
          exfalso
          have e := e.1
          subst e
          simp [kB, SV.roots, RV.roots, CV.roots] at hy
        · rfl
      · rfl
    · rfl
theorem keepD_not {bx : Bool} {s : Nat} {q : List Nat} {j n : Nat} {c : CV} (h : s ∉ c.roots) : keepD bx s q j n c = c := by
  unfold keepD
  split
  · rename_i s' i i2 p d
    rw [if_neg fun e => h (by simp [CV.roots, e])]
  · simp [keepC, h]
/-- A store into slot s, what it leaves. -/
theorem store_rel {φ1 : Option Nat → List Nat} {sl1 : Sl} {fx1 : SV} {fv1 : Value} (h1 : RelW φ1 w0 F0 sl1 fx1 ts fv1 w) {s : Nat} {q : List Nat} {j b o : Nat} {hv : Value} {us : List Value} {new : List CV} {cs : List Prop}
    (g2 : hdr w (φ1 (some s)) (valAt ts s) q = some hv) (g3 : locOf hv = some (b, o)) (hcells : CVs w φ1 (valAt ts) us new (φ1 none)) (hpos : 0 < new.length)
    (hok : setOk (gt sl1 s) q j new.length new = some cs) (hc : ∀ p ∈ cs, p) (hcx : ∀ p ∈ refsX (gt sl1 s) s q j new.length sl1, p) :
    w.there b (o + j) us.length ∧ new.all CV.free = true ∧ ∃ φ', RelW φ' w0 F0 (putW sl1 s q j new.length (setCs (gt sl1 s) q j new)) .und ts undef (w.setCells b (o + j) us) := by
  obtain ⟨there, hfr, hlt, hb, ψ', k1, k2, k3, k4⟩ := store_core h1 g2 g3 hcells hpos hok hc
  have hext : Ext (φ1 (some s)) w (w.setCells b (o + j) us) := (setCells_ext w b (o + j) _).mono fun y hy _ => by
    have : y = b := by simpa using hy
    rw [this]; exact hb
  have root1 : landed φ1 s ψ' (some s) = ψ' := by simp [landed]
  have old : ∀ y, s ∉ y.roots → keepX (setCs (gt sl1 s) q j new) s q j new.length y = y := fun y hy => by
    have oldC : ∀ c : CV, s ∉ c.roots → keepC (isBox (setCs (gt sl1 s) q j new)) s q j new.length c = c := fun c hc => by simp [keepC, hc]
    unfold keepX
    split
    · rename_i c
      rw [keepD_not (by simpa [SV.roots, RV.roots] using hy)]
    · rename_i cs
      congr 2
      refine (List.map_congr_left fun c hc => oldC c fun hr => hy ?_).trans (List.map_id _)
      simp only [SV.roots, RV.roots, List.mem_flatMap]
      exact ⟨c, hc, hr⟩
    · simp [keepW, hy]
  have oneC : ∀ (v : Value) (ψ : List Nat) (c : CV), (∀ b ∈ ψ, b ∉ φ1 (some s) ∧ b < w.heap.size) → CVRel w φ1 (valAt ts) v ψ c →
      CVRel (w.setCells b (o + j) us) (landed φ1 s ψ') (valAt ts) v ψ (keepC (isBox (setCs (gt sl1 s) q j new)) s q j new.length c) := by
    intro v ψ c hψ hc
    by_cases hs : s ∈ c.roots
    · have hroot : (hdOf c).roots = [s] := (hdOf_roots c).trans (root_of hs)
      unfold keepC
      rw [if_pos hs]
      replace hc := hdOf_rel hc
      generalize hdOf c = c at hc hroot ⊢
      split
      · rename_i s'
        have : s' = s := by simpa [CV.roots] using hroot
        subst this
        exact ⟨hc.1, hc.2⟩
      · rename_i s' i
        have : s' = s := by simpa [CV.roots] using hroot
        subst this
        split
        · rename_i hbx
          split
          · rename_i hcond
            exact ⟨hc.1, by rw [root1]; exact k4 hbx i _ (fun _ => hcond) hc.2⟩
          · exact trivial
        · rename_i hq hbx
          exact ⟨hc.1, by rw [root1]; exact k4 hbx i _ (fun e => absurd e hq) hc.2⟩
        · exact trivial
      · exact trivial
    · have : keepC (isBox (setCs (gt sl1 s) q j new)) s q j new.length c = c := by simp [keepC, hs]
      rw [this]
      refine hc.kept ⟨hext.size, fun b' hb' => hext.block b' (hψ b' hb').2 (hψ b' hb').1, fun r hr => ?_, fun b' hb' hf => ⟨hext.block b' hb' (hf (some s)), fun t ht => ?_⟩⟩
      · have hne : r ≠ s := fun e => hs (e ▸ hr)
        exact ⟨rfl, by simp [landed, hne], fun b' hb' => hext.block b' (h1.lt _ b' hb').1 (h1.dj (some r) (some s) (by simpa using hne) b' hb')⟩
      · unfold landed at ht
        split at ht
        · rcases k2 b' ht with g | g
          · exact hf _ g
          · exact hf _ g
        · split at ht
          · cases ht
          · exact hf t ht
  refine ⟨there, hfr, _, h1.write s hlt (keep := keepX (setCs (gt sl1 s) q j new) s q j new.length) hext k1 k2 k3 old fun t y hts hy hr => ?_⟩
  have hrel := h1.slot (some t) y hy
  simp only [vget] at hrel
  have hφt : ∀ b ∈ φ1 (some t), b ∉ φ1 (some s) ∧ b < w.heap.size := fun b' hb' => ⟨h1.dj (some t) (some s) (by simpa using hts) b' hb', (h1.lt _ b' hb').1⟩
  unfold keepX
  split
  · rename_i c
    show CVRel _ _ _ _ _ (keepD _ _ _ _ _ c)
    unfold keepD
    split
    · rename_i s' i i2 p d
      have hs' : s' = s := by simpa [SV.roots, RV.roots, CV.roots, eq_comm] using hr
      subst hs'
      rw [if_pos rfl]
      split
      · rename_i hbx
        split
        · rename_i hout
          have hcs : ∃ bs d0, gt sl1 s' = .box bs ∧ bs.getD i .un = .own d0 ∧ d0.InP (i2 :: p) ∧ d0.getP (i2 :: p) = d := by
            obtain ⟨bs, hx⟩ := setCs_box hbx
            rw [hx] at hcx
            have hm : ∀ q0 ∈ refsC bs s' j new.length (.ref s' (i :: i2 :: p) d), q0 := fun q0 hq0 => hcx q0 (refsX_mem hy hq0)
            simp only [refsC, hout, and_self, if_true] at hm
            split at hm
            · rename_i d0 hd0
              exact ⟨bs, d0, hx, hd0, hm _ (by simp), hm _ (by simp)⟩
            · exact (hm False (by simp)).elim
          obtain ⟨bs, d0, e1, e2, e3, e4⟩ := hcs
          rw [e1] at hok k3
          simp only [setOk] at hok
          split at hok
          · rename_i hcond
            simp only [Bool.and_eq_true, decide_eq_true_eq] at hcond
            have hg := gt_rel h1 s'
            rw [e1] at hg
            obtain ⟨b0, vi, χ, u, χp, m1, m2, m3, m4, m5, m6, m7, m8, -, -⟩ := box_path hg e2 e3
            simp only [setCs] at k3
            obtain ⟨b0', vi', χ', u', χp', n1, n2, n3, n4, n5, n6, n7, n8, n9, n10⟩ := box_path k3 ((setRange_out hcond.1 hout).trans e2) e3
            have eb : b0' = b0 := by rw [m1] at n1; cases n1; rfl
            subst eb
            obtain ⟨r0, r1, -⟩ := hrel
            have ev : vi' = vi := by
              have p1 : hdr w (φ1 (some s')) (valAt ts s') [i] = some vi := by
                rw [m1]; simp only [hdr, locOf]; rw [if_pos m2, m3]; rfl
              have p2 := k4 hbx i vi (fun _ => hout) p1
              have p3 : hdr (w.setCells b (o + j) us) ψ' (valAt ts s') [i] = some vi' := by
                rw [n1]; simp only [hdr, locOf]; rw [if_pos n2, n3]; rfl
              rw [p3] at p2
              exact Option.some.inj p2
            subst ev
            have hbb : b = b0' := by
              simp only [hdr, Option.some.injEq] at g2
              subst g2
              rw [m1] at g3
              simp only [locOf, Option.some.injEq, Prod.mk.injEq] at g3
              exact g3.1.symm
            have m7' : hdr (w.setCells b (o + j) us) χ vi' (i2 :: p) = some u := by
              rw [hdr_kept fun x hx => heap_setCells b us (o + j) w x fun e => m6 (h1.nd _) (by rw [← hbb, ← e]; exact hx)]
              exact m7
            have eu : u' = u := hdr_det _ _ _ _ n7 m7'
            have euv : valAt ts t = u := by rw [m8] at r1; exact (Option.some.inj r1).symm
            refine ⟨r0, ?_, χp', ?_, fun b' hb' => by rw [root1]; exact n5 _ (n10 b' hb')⟩
            · rw [root1, n8, eu, euv]
            · rw [← e4, euv, ← eu]; exact n9.weaken
          · cases hok
        · exact trivial
      · exact trivial
    · exact oneC _ _ c hφt hrel
  · rename_i cs
    obtain ⟨vs, g1, g2⟩ := hrel
    refine ⟨vs, g1, ?_⟩
    have go : ∀ (vs : List Value) (cs : List CV) (ψ : List Nat), CVs w φ1 (valAt ts) vs cs ψ → (∀ b ∈ ψ, b ∉ φ1 (some s) ∧ b < w.heap.size) →
        CVs (w.setCells b (o + j) us) (landed φ1 s ψ') (valAt ts) vs (cs.map (keepC (isBox (setCs (gt sl1 s) q j new)) s q j new.length)) ψ := by
      intro vs cs ψ hcv
      induction hcv with
      | nil => intro _; exact .nil
      | cons g1 _ ih =>
        intro hψ
        exact .cons (oneC _ _ _ (fun b' hb' => hψ b' (by simp [hb'])) g1) (ih fun b' hb' => hψ b' (by simp [hb']))
    exact go _ _ _ g2 hφt
  · rename_i n1 n2
    clear n1 n2
    unfold keepW
    rw [if_pos hr]
    split
    · rename_i s' j'
      have hs' : s = s' := by simpa [SV.roots] using hr
      subst hs'
      obtain ⟨e1, hh, b', o', e2, e3, e4⟩ := hrel
      exact ⟨e1, hh, b', o', by simpa [hdr] using e2, e3, e4⟩
    · rename_i s' i j'
      have hs' : s = s' := by simpa [SV.roots] using hr
      subst hs'
      obtain ⟨e1, hh, b', o', e2, e3, e4⟩ := hrel
      split
      · rename_i _ hbx
        split
        · rename_i hi
          exact ⟨e1, hh, b', o', by rw [root1]; exact k4 hbx i hh (fun _ => hi) e2, e3, e4⟩
        · exact trivial
      · rename_i hq hbx
        exact ⟨e1, hh, b', o', by rw [root1]; exact k4 hbx i hh (fun e => absurd e hq) e2, e3, e4⟩
      · exact trivial
    · exact trivial

theorem store_sound (hT : TbOk P tb) (h : RelW φ w0 F0 sl fx ts fv w) {t ty : TypeId} {a x : Operand} {cs : List Prop} {r : SV} {sl' : Sl}
    (hx : opV tb sl ty (.store t a x) = some (cs, r, sl')) (hc : ∀ p ∈ cs, p) : Sound P w0 F0 ts ds w (.store t a x) ty r sl' := by
  simp only [opV] at hx
  split at hx
  · rename_i v sl1 hv
    split at hx
    · rename_i s q j new ha hcs
      split at hx
      · cases hx
      · rename_i hsz
        simp only [Option.map_eq_some_iff, Prod.mk.injEq] at hx
        obtain ⟨cs', hok, rfl, rfl, rfl⟩ := hx
        have hcx := fun q0 (hq : q0 ∈ refsX (gt sl1 s) s q j new.length sl1) => hc q0 (List.mem_append_right _ hq)
        replace hc := fun q0 (hq : q0 ∈ cs') => hc q0 (List.mem_append_left _ hq)
        simp only [Bool.or_eq_true, bne_iff_ne, ne_eq, beq_iff_eq, not_or, Decidable.not_not] at hsz
        obtain ⟨φ1, h1⟩ := opTake_rel (ds := ds) h hv
        obtain ⟨-, hv', b, o, g2, g3, g5⟩ := opView_rel (ds := ds) h1 ha rfl
        have hfl := h1.slot none v rfl
        simp only [vget] at hfl
        have hfree : new.all CV.free = true := by
          unfold setOk at hok
          split at hok
          · split at hok
            · rename_i hh; simp only [Bool.and_eq_true] at hh; exact hh.2
            · cases hok
          · split at hok
            · split at hok
              · rename_i hh; exact free_of_fit hh
              · cases hok
            · cases hok
          · split at hok
            · rename_i hh; exact free_of_fit hh
            · cases hok
          · cases hok
        have hcells := cells_rel hfl hcs hfree
        have hpos : 0 < new.length := Nat.pos_of_ne_zero hsz.2
        obtain ⟨there, -, φ2, hrel⟩ := store_rel h1 g2 g3 hcells hpos hok hc hcx
        have hlen : (Act.eval ⟨ts, ds⟩ x).cells.size = new.length := by simpa using hcells.len
        have hrun := store_run (w := w) hT (t := t) (v := Act.eval ⟨ts, ds⟩ x) (b := b) (o := o + j) (by rw [hlen]; exact hsz.1) (by rw [← hsz.1]; exact hpos) (by simpa using there) (all_one hcells hfree)
        exact ⟨undef, _, _, yields_unit (s := Instr.storeAt t (Act.eval ⟨ts, ds⟩ a) (Act.eval ⟨ts, ds⟩ x)) (fun _ _ _ _ => rfl) (by rw [g5]; exact hrun), hrel⟩
    · cases hx
  · cases hx

end

end Go.Proofs.Ytlffmhhdgedddaa.DL

/- The data level, part 14a: parts put together: structs, rows; function values; slices held against nil. -/
namespace Go.Proofs.Ytlffmhhdgedddaa.DL
open Go Go.RowKit

section
variable {P : Program} {C : Cfg} {tb : Tb} {φ : Option Nat → List Nat} {w0 w w' : World} {F0 : List Nat} {sl : Sl} {fx : SV} {ts : Array Value} {fv : Value} {ds : List Deferred}

theorem putT_len {sl : Sl} {d : Nat} {x : SV} : (putT sl d x).length = sl.length := by simp [putT]
theorem gt_putT {sl : Sl} {d : Nat} {x : SV} (h : d < sl.length) : gt (putT sl d x) d = killSV d x := by
  simp [gt, putT, h]

theorem RVs.snoc {f : Nat → Value} {vs : List Value} {rs : List RV} {χ ψ : List Nat} {v : Value} {r : RV} (h : RVs w φ f vs rs χ) (h' : RVRel w φ f v ψ r) :
    RVs w φ f (vs ++ [v]) (rs ++ [r]) (χ ++ ψ) := by
  induction h with
  | nil => simpa using RVs.cons h' .nil
  | cons h _ ih => rw [List.append_assoc]; exact .cons h ih

def joinF (φ : Option Nat → List Nat) (t : Nat) (ψ : List Nat) : Option Nat → List Nat := fun s => if s = none then φ none ++ ψ else if s = some t then [] else φ s
/-- What slot t owns (or part of it) joins the tuple in flight; the slot is dead then. -/
theorem RelW.join {xs : List RV} {vs : Array Value} (h : RelW φ w0 F0 sl (.tup xs) ts (.tuple vs) w) (hx : ∀ x ∈ xs, x.roots = []) (t : Nat) {v : Value} {x : RV} {ψ : List Nat}
    (hψ : ψ.Sublist (φ (some t))) (hr : RVRel w φ (valAt ts) v ψ x) (hxr : x.roots = []) :
    ∃ φ', RelW φ' w0 F0 (putT sl t .dead) (.tup (xs ++ [x])) ts (.tuple (vs.push v)) w := by
  have hφ' : ∀ b, (∀ s, b ∉ φ s) → ∀ s, b ∉ joinF φ t ψ s := fun b hb s hs => by
    simp only [joinF] at hs
    split at hs
    · rcases List.mem_append.1 hs with h' | h'
      · exact hb _ h'
      · exact hb _ (hψ.subset h')
    · split at hs
      · cases hs
      · exact hb s hs
  have kept : ∀ χ, Kept w φ (valAt ts) w (joinF φ t ψ) (valAt ts) χ [] := fun χ =>
    ⟨Nat.le_refl _, fun _ _ => rfl, fun r hr => (by cases hr), fun b _ hf => ⟨rfl, hφ' b hf⟩⟩
  have dj0 : ∀ b ∈ φ none, b ∉ ψ := fun b hb hb' => h.dj none (some t) (by simp) b hb (hψ.subset hb')
  refine ⟨joinF φ t ψ, ⟨by rw [putT_len]; exact h.len, fun s y hy => ?_, fun s => ?_, fun s s' hne b hb hb' => ?_, fun s b hb => ?_, h.ext⟩⟩
  rotate_left
  all_goals simp only [joinF] at *
  · split
    · exact List.nodup_append.2 ⟨h.nd none, hψ.nodup (h.nd _), fun a ha b hb e => dj0 a ha (e ▸ hb)⟩
    · split
      · exact .nil
      · exact h.nd s
  · split at hb
    · rename_i e
      split at hb'
      · rename_i e'; exact hne (e.trans e'.symm)
      · split at hb'
        · cases hb'
        · rename_i e1 e2
          rcases List.mem_append.1 hb with h' | h'
          · exact h.dj none s' (fun e' => e1 e'.symm) b h' hb'
          · exact h.dj (some t) s' (fun e' => e2 e'.symm) b (hψ.subset h') hb'
    · split at hb
      · cases hb
      · rename_i e1 e2
        split at hb'
        · rcases List.mem_append.1 hb' with h' | h'
          · exact h.dj s none e1 b hb h'
          · exact h.dj s (some t) e2 b hb (hψ.subset h')
        · split at hb'
          · cases hb'
          · exact h.dj s s' hne b hb hb'
  · split at hb
    · rcases List.mem_append.1 hb with h' | h'
      · exact h.lt _ b h'
      · exact h.lt _ b (hψ.subset h')
    · split at hb
      · cases hb
      · exact h.lt s b hb
  · cases s with
    | none =>
      cases hy
      obtain ⟨us, h1, h2⟩ := h.slot none _ rfl
      have h1 : Value.tuple vs = .tuple us := h1
      cases h1
      refine ⟨vs.push v, rfl, ?_⟩
      simp only [if_true, Array.toList_push]
      refine RVs.snoc (h2.kept ((kept _).sub (fun b hb => hb) fun r hr => ?_)) (hr.kept ((kept _).sub (fun b hb => hb) fun r hr => ?_))
      · obtain ⟨y, hy, hr⟩ := List.mem_flatMap.1 hr
        rw [hx y hy] at hr; cases hr
      · rw [hxr] at hr; cases hr
    | some s =>
      simp only [sget, putT] at hy
      by_cases e : s = t
      · subst e
        rw [List.getElem?_set] at hy
        simp only [if_true] at hy
        split at hy
        · cases hy; exact trivial
        · cases hy
      · rw [List.getElem?_set_ne (Ne.symm e), List.getElem?_map] at hy
        cases hz : sl[s]? with
        | none => simp [hz] at hy
        | some z =>
          simp only [hz, Option.map_some, Option.some.injEq] at hy
          subst hy
          rw [if_neg (by simp), if_neg (by simpa using e)]
          exact SlotRel.kept (killSV_rel t (h.slot (some s) z hz)) ⟨Nat.le_refl _, fun _ _ => rfl, fun r hr' => by
            have hne : r ≠ t := fun e => not_root_kill t z (e ▸ hr')
            exact ⟨rfl, (by show joinF φ t ψ (some r) = φ (some r); simp [joinF, hne]), fun _ _ => rfl⟩, fun b _ hf => ⟨rfl, hφ' b hf⟩⟩


theorem setN_self (φ : Option Nat → List Nat) : setN φ (φ none) = φ := by
  funext t
  unfold setN
  split
  · rename_i e; rw [e]
  · rfl
/-- What owns nothing joins the tuple in flight. -/
theorem RelW.joinB {xs : List RV} {vs : Array Value} (h : RelW φ w0 F0 sl (.tup xs) ts (.tuple vs) w) {v : Value} {x : RV} (hr : RVRel w φ (valAt ts) v [] x) :
    RelW φ w0 F0 sl (.tup (xs ++ [x])) ts (.tuple (vs.push v)) w := by
  have := h.refly (Ext.refl _ _) (v := .tuple (vs.push v)) (ψ := φ none) (x := .tup (xs ++ [x])) (h.nd none) (fun b hb => ⟨(h.lt none b hb).1, .inl hb⟩) (by
    rw [setN_self]
    obtain ⟨us, h1, h2⟩ := h.slot none _ rfl
    have h1 : Value.tuple vs = .tuple us := h1
    cases h1
    refine ⟨vs.push v, rfl, ?_⟩
    have := RVs.snoc h2 hr
    simpa using this)
  rwa [setN_self] at this

/-- The parts of a struct or a row, as they lie in flight. -/
inductive Parts (pl : Nat → Option (Nat × Nat)) (total : Nat) : List (Nat × Operand) → List (Nat × List CV) → List RV → Prop
  | nil : Parts pl total [] [] []
  | cons {i o n : Nat} {x : Operand} {cs : List CV} {y : RV} {ps : List (Nat × Operand)} {r : List (Nat × List CV)} {ys : List RV} :
      pl i = some (o, n) → cs.length = n → o + n ≤ total → cellsOf (.one y) = some cs → cs.all CV.free = true → Parts pl total ps r ys → Parts pl total ((i, x) :: ps) ((o, cs) :: r) (y :: ys)

theorem partC_one {v : SV} {cs : List CV} (h : partC v = some cs) : ∃ y : RV, v = .one y ∧ cellsOf v = some cs ∧ cs.all CV.free = true ∧ y.roots = [] := by
  unfold partC at h
  split at h
  · rename_i c
    split at h
    · rename_i hf
      cases h
      exact ⟨_, rfl, rfl, by simpa using hf, by cases c <;> simp_all [CV.free, RV.roots, CV.roots]⟩
    · cases h
  · rename_i cs'
    split at h
    · rename_i hf
      cases h
      refine ⟨_, rfl, rfl, hf, ?_⟩
      simp only [RV.roots, List.flatMap_eq_nil_iff]
      intro c hc
      have := List.all_eq_true.1 hf c hc
      cases c <;> simp_all [CV.free, CV.roots]
    · cases h
  · cases h

theorem takeParts_sound {pl : Nat → Option (Nat × Nat)} {total : Nat} : ∀ (ps : List (Nat × Operand)) {φ : Option Nat → List Nat} {sl : Sl} {xs : List RV} {vs : Array Value} {r : List (Nat × List CV)} {sl' : Sl},
    RelW φ w0 F0 sl (.tup xs) ts (.tuple vs) w → (∀ x ∈ xs, x.roots = []) → takeParts tb pl total sl ps = some (r, sl') →
      ∃ φ' ys, RelW φ' w0 F0 sl' (.tup (xs ++ ys)) ts (.tuple (vs ++ (ps.map fun p => Act.eval ⟨ts, ds⟩ p.2).toArray)) w ∧ Parts pl total ps r ys
  | [], φ, sl, xs, vs, r, sl', h, hx, ht => by
    simp only [takeParts, Option.some.injEq, Prod.mk.injEq] at ht
    obtain ⟨rfl, rfl⟩ := ht
    exact ⟨φ, [], by simpa using h, .nil⟩
  | (i, x) :: ps, φ, sl, xs, vs, r, sl', h, hx, ht => by
    simp only [takeParts] at ht
    split at ht
    · rename_i o n v sl1 hpl hv
      split at ht
      · rename_i cs r' sl2 hcs hr'
        split at ht
        · rename_i hc
          cases ht
          simp only [Bool.and_eq_true, beq_iff_eq] at hc
          have hle : o + n ≤ total := Nat.le_of_ble_eq_true hc.2
          obtain ⟨y, rfl, g1, g2, g3⟩ := partC_one hcs
          have next : ∃ φ1, RelW φ1 w0 F0 sl1 (.tup (xs ++ [y])) ts (.tuple (vs.push (Act.eval ⟨ts, ds⟩ x))) w := by
            cases x with
            | tmp t =>
              simp only [opTake, takeT, Option.some.injEq] at hv
              split at hv
              · simp only [Prod.mk.injEq] at hv
                obtain ⟨e1, rfl⟩ := hv
                have hy : gt sl t = .one y := by
                  unfold killSV at e1
                  split at e1
                  · cases e1
                  · exact e1
                have hg := gt_rel h t
                rw [hy] at hg
                exact h.join hx t (x := y) (List.Sublist.refl _) hg g3
              · rename_i ho
                simp only [Prod.mk.injEq] at hv
                obtain ⟨e1, rfl⟩ := hv
                have hg := gt_rel h t
                rw [e1] at ho hg
                exact ⟨φ, h.joinB (SlotRel.bare (x := .one y) hg (by simpa using ho))⟩
            | const v =>
              simp only [opTake, Option.map_eq_some_iff] at hv
              obtain ⟨z, hz, he⟩ := hv
              cases he
              exact ⟨φ, h.joinB (const_rel φ _ hz)⟩
            | func f => simp [opTake] at hv
            | global g => simp [opTake] at hv
          obtain ⟨φ1, h1⟩ := next
          obtain ⟨φ2, ys, k1, k2⟩ := takeParts_sound ps h1 (fun z hz => by
            rcases List.mem_append.1 hz with hz | hz
            · exact hx z hz
            · have : z = y := by simpa using hz
              rw [this]; exact g3) hr'
          exact ⟨φ2, y :: ys, by simpa using k1, .cons hpl hc.1 hle g1 g2 k2⟩
        · cases ht
      · cases ht
    · cases ht

theorem foldl_set (us : List Value) (o : Nat) : ∀ (k : Nat) (cells : Array Value), ((us.zipIdx k).foldl (fun (cs : Array Value) (x : Value × Nat) => cs.setIfInBounds (o + x.2) x.1) cells).toList = setRange cells.toList (o + k) us := by
  induction us with
  | nil => intro k cells; rfl
  | cons u us ih =>
    intro k cells
    simp only [List.zipIdx_cons, List.foldl_cons, setRange]
    rw [ih]
    simp [Nat.add_assoc]

theorem fill_sound {pl : Nat → Option (Nat × Nat)} {total : Nat} {f : Nat → Value} {ev : Operand → Value} {ps : List (Nat × Operand)} {r : List (Nat × List CV)} {ys : List RV} (hp : Parts pl total ps r ys) :
    ∀ {ψ χ : List Nat} {zs : List CV} {cells : Array Value}, RVs w φ f (ps.map fun p => ev p.2) ys ψ → CVs w φ f cells.toList zs χ → zs.length = total →
      ∃ cells' ψ', Instr.fill pl cells (ps.map fun p => (p.1, ev p.2)) = some cells' ∧ CVs w φ f cells'.toList (fillC zs r) ψ' ∧ ∃ dr, (χ ++ ψ).Perm (ψ' ++ dr) := by
  induction hp with
  | nil =>
    intro ψ χ zs cells h1 h2 _
    have : ψ = [] := by
      generalize hv : (List.map (fun p : Nat × Operand => ev p.2) []) = vs at h1
      cases h1 with
      | nil => rfl
    subst this
    exact ⟨cells, χ, rfl, h2, [], by simp⟩
  | @cons i o n x cs y ps r ys e1 e2 e3 e4 e5 _ ih =>
    intro ψ χ zs cells h1 h2 hz
    generalize hv : (List.map (fun p : Nat × Operand => ev p.2) ((i, x) :: ps)) = vs at h1
    cases h1 with
    | @cons v r' ψ1 vs' rs' ψ2 k1 k2 =>
      simp only [List.map_cons, List.cons.injEq] at hv
      obtain ⟨rfl, rfl⟩ := hv
      have hc := cells_rel (x := .one y) k1 e4 e5
      have hcl : (ev x).cells.size = n := by have := hc.len; simpa [e2] using this
      have hcz : cells.size = zs.length := by simpa using h2.len
      obtain ⟨ψ3, g1, dr, g2⟩ := h2.setRange (j := o) (by rw [e2, hz]; exact e3) hc
      have hset := foldl_set (ev x).cells.toList o 0 cells
      obtain ⟨cells', ψ', g3, g4, dr', g5⟩ := ih (cells := ((ev x).cells.toList.zipIdx.foldl (fun (cs : Array Value) (x : Value × Nat) => cs.setIfInBounds (o + x.2) x.1) cells)) k2 (by rw [hset]; exact g1) (by rw [setRange_length]; exact hz)
      refine ⟨cells', ψ', ?_, g4, dr ++ dr', ?_⟩
      · simp only [List.map_cons, Instr.fill, e1]
        rw [if_neg (by simp [hcl, hcz, hz]; exact e3)]
        rw [← g3]
        congr 1
        rw [← Array.foldl_toList, Array.toList_zipIdx]
      · have p1 : (χ ++ (ψ1 ++ ψ2)).Perm ((ψ3 ++ dr) ++ ψ2) := by rw [← List.append_assoc]; exact List.Perm.append_right ψ2 g2
        have p2 : ((ψ3 ++ dr) ++ ψ2).Perm (dr ++ (ψ3 ++ ψ2)) := by
          rw [List.append_assoc]
          refine (List.perm_append_comm_assoc ψ3 dr ψ2)
        refine p1.trans (p2.trans ?_)
        refine (List.Perm.append_left dr g5).trans ?_
        exact (List.perm_append_comm_assoc dr ψ' dr')

end

section
variable {P : Program} {tb : Tb} {φ : Option Nat → List Nat} {w0 w w' : World} {F0 : List Nat} {sl : Sl} {fx : SV} {ts : Array Value} {fv : Value} {ds : List Deferred}

/-- The parts, taken, fill a row of zeros. -/
theorem parts_fill {pl : Nat → Option (Nat × Nat)} {total : Nat} {ps : List (Nat × Operand)} {r : List (Nat × List CV)} {sl' : Sl} (h : RelW φ w0 F0 sl fx ts fv w) (ht : takeParts tb pl total sl ps = some (r, sl'))
    {zs : List CV} {cells : Array Value} (hz : ∀ (φ : Option Nat → List Nat), CVs w φ (valAt ts) cells.toList zs []) (hl : zs.length = total) :
    ∃ cells' φ', Instr.fill pl cells (ps.map fun p => (p.1, Act.eval ⟨ts, ds⟩ p.2)) = some cells' ∧ RelW φ' w0 F0 sl' (.one (.agg (fillC zs r))) ts (.agg cells') w := by
  have h0 : RelW (setN φ []) w0 F0 sl (.tup []) ts (.tuple #[]) w := h.see ⟨#[], rfl, .nil⟩
  obtain ⟨φ1, ys, h1, h2⟩ := takeParts_sound (ds := ds) ps h0 (fun x hx => by cases hx) ht
  obtain ⟨us, h3, h4⟩ := h1.slot none _ rfl
  simp only [vget, List.nil_append, Value.tuple.injEq] at h3 h4
  subst h3
  simp only [Array.toList_append, List.nil_append] at h4
  obtain ⟨cells', ψ', g1, g2, dr, g3⟩ := fill_sound (ev := Act.eval ⟨ts, ds⟩) h2 h4 (hz φ1) hl
  simp only [List.nil_append] at g3
  have hnd := List.nodup_append.1 ((g3.nodup_iff).1 (h1.nd none))
  refine ⟨cells', _, g1, h1.refly (Ext.refl _ _) (v := .agg cells') (ψ := ψ') (x := .one (.agg (fillC zs r))) hnd.1 (fun b hb => ?_) ⟨cells', rfl, ?_⟩⟩
  · have hb' : b ∈ φ1 none := g3.mem_iff.2 (by simp [hb])
    exact ⟨(h1.lt none b hb').1, .inl hb'⟩
  · have hr : ∀ s, s ∉ (fillC zs r).flatMap CV.roots ∨ s ∈ (fillC zs r).flatMap CV.roots := fun s => (Decidable.em _).symm
    refine g2.kept ⟨Nat.le_refl _, fun _ _ => rfl, fun r _ => ⟨rfl, by simp [setN], fun _ _ => rfl⟩, fun b _ hf => ⟨rfl, fun t ht => ?_⟩⟩
    unfold setN at ht
    split at ht
    · exact hf none (g3.mem_iff.2 (by simp [ht]))
    · exact hf t ht

theorem sliceD_rel' {w : World} {φ : Option Nat → List Nat} {g : Nat → Value} {v : Value} {χ : List Nat} {x : SV} {d : DV} (hd : sliceD x = some d) (h : SlotRel w φ g v χ x) : ∃ o bs, Rd o w [v] [d] bs := by
  unfold sliceD at hd
  split at hd
  · cases hd; exact ⟨_, _, h⟩
  · cases hd; obtain ⟨-, bs, h1, -⟩ := h; exact ⟨_, _, h1⟩
  · cases hd; obtain ⟨-, -, bs, h1, -⟩ := h; exact ⟨_, _, h1⟩
  · cases hd; obtain ⟨-, a, n, cap, a', n', cap', bs, -, -, -, h1, -⟩ := h; exact ⟨_, _, h1⟩
  · cases hd; obtain ⟨-, -, bs, h1, -⟩ := h; exact ⟨_, _, h1⟩
  · cases hd

theorem info_zero (hT : TbOk P tb) {t : TypeId} (hk : (tb t).k ≠ .other) : (tb t).zero.all zeroOk = true ∧ (tb t).zero.length = (tb t).size ∧ 0 < (tb t).size := by
  have := (hT t).1
  unfold TIok at this
  split at this
  · rename_i h; exact absurd h hk
  · exact ⟨this.2.1, this.2.2.1, this.2.2.2.1⟩

theorem build_sound (hT : TbOk P tb) (h : RelW φ w0 F0 sl fx ts fv w) {t ty : TypeId} {ps : Array (Nat × Operand)} {cs : List Prop} {x : SV} {sl' : Sl}
    (hx : opV tb sl ty (.build t ps) = some (cs, x, sl')) : Sound P w0 F0 ts ds w (.build t ps) ty x sl' := by
  have fin : ∀ (cells : Array Value), P.built t (ps.toList.map fun p => (p.1, Act.eval ⟨ts, ds⟩ p.2)) = some cells → ∀ φ', RelW φ' w0 F0 sl' x ts (.agg cells) w → Sound P w0 F0 ts ds w (.build t ps) ty x sl' := by
    intro cells hb φ' hr
    refine ⟨_, w, φ', yields_val (s := Instr.build t (ps.map fun (i, x) => (i, Act.eval ⟨ts, ds⟩ x))) (fun _ _ _ _ => rfl) (run_build w t _ cells ?_), hr⟩
    rw [← hb]
    simp
  simp only [opV] at hx
  split at hx
  · rename_i offs hk
    simp only [Option.map_eq_some_iff, Prod.mk.injEq] at hx
    obtain ⟨⟨r, s⟩, ht, -, rfl, rfl⟩ := hx
    have hko : (tb t).k ≠ .other := by rw [hk]; simp
    obtain ⟨j, z, h1, h2, h3, h4, h5⟩ := info_of hT hko
    obtain ⟨-, -, -, -, fs, g1, g2, g3, g4⟩ := tiOf hT hk
    obtain ⟨cells', φ', k1, k2⟩ := parts_fill (ds := ds) h ht (zs := (tb t).zero) (cells := z.cells) (fun φ => by rw [h4]; exact CVs.zero (info_zero hT hko).1) rfl
    refine fin cells' ?_ φ' k2
    simp only [Program.built, h1, g1, h3, g4]
    rw [← k1]
    congr 1
    funext i
    simp
  · rename_i n e hk
    split at hx
    · rename_i hpos
      simp only [Option.map_eq_some_iff, Prod.mk.injEq] at hx
      obtain ⟨⟨r, s⟩, ht, -, rfl, rfl⟩ := hx
      have hko : (tb t).k ≠ .other := by rw [hk]; simp
      obtain ⟨j, z, h1, h2, h3, h4, h5⟩ := info_of hT hko
      have g1 : P.underlying t = some (.array n e) := (tiOf hT hk).2.2.2.2
      have hke : (tb e).k ≠ .other := not_other hT (Nat.le_of_ble_eq_true hpos)
      obtain ⟨je, ze, i1, i2, -⟩ := info_of hT hke
      obtain ⟨cells', φ', k1, k2⟩ := parts_fill (ds := ds) h ht (zs := (tb t).zero) (cells := z.cells) (fun φ => by rw [h4]; exact CVs.zero (info_zero hT hko).1) rfl
      refine fin cells' ?_ φ' k2
      simp only [Program.built, h1, g1, h3, i1, i2]
      exact k1
    · cases hx
  · cases hx

theorem CVs.zeroRow {f : Nat → Value} {zs : List CV} (hz : zs.all zeroOk = true) : ∀ n, CVs w φ f (List.replicate n (zs.map zeroV)).flatten (List.replicate n zs).flatten []
  | 0 => .nil
  | n + 1 => by
    simp only [List.replicate_succ, List.flatten_cons]
    have := (CVs.zero (w := w) (φ := φ) (f := f) hz).append (CVs.zeroRow hz n)
    simpa using this

theorem buildSlice_run (hT : TbOk P tb) {t e : TypeId} {len : Nat} {parts : Array (Nat × Value)} {cells : Array Value} (hk : (tb t).k = .slice e) (hpos : 0 < (tb e).size) (hsm : len * (tb e).size ≤ 16777216)
    (h : ∀ z0 : Array Value, z0.toList = (List.replicate len ((tb e).zero.map zeroV)).flatten → Instr.fill (fun i => some (i * (tb e).size, (tb e).size)) z0 parts.toList = some cells) :
    (Instr.buildSlice t len parts).run P w = .ok (.slice (some ⟨w.heap.size, 0, none⟩) len len) (w.alloc (.cells cells e)) := by
  obtain ⟨j, z, h1, h2, h3, h4, h5⟩ := info_of hT (not_other hT hpos)
  have hu := (under_of hT).2.1 e hk
  have hzs : z.cells.size = (tb e).size := by
    have := congrArg List.length h4
    simpa [(info_zero hT (not_other hT hpos)).2.1] using this
  have hrow : (madeCells z.cells (len * (tb e).size)).toList = (List.replicate len ((tb e).zero.map zeroV)).flatten := by
    rw [← hzs, madeCells_rows, h4]
  have hf := h _ hrow
  have hsm' : ¬ (16777216 < len * (tb e).size) := by omega
  by_cases h0 : len * (tb e).size = 0
  · have hl : len = 0 := by
      rcases Nat.mul_eq_zero.1 h0 with h' | h'
      · exact h'
      · omega
    subst hl
    have : madeCells z.cells (0 * (tb e).size) = #[] := by simp [madeCells]
    rw [this] at hf
    simp [Instr.buildSlice, run_underlying hu, sizeOf, typeInfo, h1, h2, hf, newRow, show Array.range 0 = #[] from rfl]
  · simp only [madeCells] at hf
    simp [Instr.buildSlice, run_underlying hu, sizeOf, typeInfo, zeroValue, h1, h2, h3, hsm', h0, hf, newRow]

theorem buildRow_sound {e t ty : TypeId} {len sz : Nat} {ps : Array (Nat × Operand)} {cells' : Array Value} {CS : List CV} (k2 : RelW φ w0 F0 sl (.one (.agg CS)) ts (.agg cells') w) (hfit : CS.all CV.fit = true)
    (hlf : CS.length = len * sz) (hpos : 0 < sz) (hrun : ∀ parts : Array (Nat × Value), parts.toList = ps.toList.map (fun p => (p.1, Act.eval ⟨ts, ds⟩ p.2)) → (Instr.buildSlice t len parts).run P w = .ok (.slice (some ⟨w.heap.size, 0, none⟩) len len) (w.alloc (.cells cells' e))) :
    Sound P w0 F0 ts ds w (.buildSlice t len ps) ty (.one (.cell (.own (.sl sz (CS.map CV.toDV))))) sl := by
  have h4 : CVs w φ (valAt ts) cells'.toList CS (φ none) := by
    obtain ⟨vs, hv, h4⟩ := k2.slot none _ rfl
    have hv : Value.agg cells' = .agg vs := hv
    cases hv
    exact h4
  have hrd := h4.fit hfit
  have hl4 : cells'.size = len * sz := by
    have e1 : cells'.toList.length = _ := h4.len
    rw [hlf] at e1
    simpa using e1
  have hsz : (w.alloc (.cells cells' e)).heap.size = w.heap.size + 1 := by show (w.heap.push _).size = _; simp
  have hx0 := Ext.alloc w (.cells cells' e)
  have hlt : ∀ b ∈ φ none, b < w.heap.size := fun b hb => (k2.lt none b hb).1
  have hrd' : Rd true (w.alloc (.cells cells' e)) cells'.toList (CS.map CV.toDV) (φ none) :=
    hrd.frame hx0.size fun b hb => hx0.block b (hlt b hb) (by simp)
  generalize hE : CS.map CV.toDV = E at *
  have hEl : E.length = len * sz := by rw [← hE]; simpa using hlf
  have hgoal : Rd true (w.alloc (.cells cells' e)) [.slice (some ⟨w.heap.size, 0, none⟩) len len] [.sl sz E] (w.heap.size :: φ none) := by
    have := Rd.sl (o := true) (w := w.alloc (.cells cells' e)) (b := w.heap.size) (off := 0) (n := len) (cap := len) (sz := sz)
      (us := cells'.toList) (es := E) (bs1 := φ none) (vs := []) (ds := []) (bs2 := [])
      (fun k v hv => by
        simp only [World.cell?, heap_alloc_self, Nat.zero_add]
        simpa using hv)
      (fun _ => ⟨_, e, heap_alloc_self w _, by omega⟩) (by omega) hEl ⟨hpos, Nat.le_refl _⟩ hrd' .nil
    simpa using this
  have hr := k2.refly (hx0.mono (by simp)) (v := .slice (some ⟨w.heap.size, 0, none⟩) len len) (ψ := w.heap.size :: φ none) (x := .one (.cell (.own (.sl sz E)))) (List.nodup_cons.2 ⟨fun hm => Nat.lt_irrefl _ (hlt _ hm), k2.nd none⟩) (fun b hb => by
    rcases List.mem_cons.1 hb with rfl | hb
    · exact ⟨by omega, .inr (Nat.le_refl _)⟩
    · exact ⟨by have := hlt b hb; omega, .inl hb⟩) hgoal
  have hy : Yields P (.buildSlice t len ps) ty (Act.eval ⟨ts, ds⟩) w (.slice (some ⟨w.heap.size, 0, none⟩) len len) (w.alloc (.cells cells' e)) :=
    fun dst pos after guard => .inl (by
      simp only [execOp]
      rw [Sem.run_bind, hrun _ (by simp)]
      rfl)
  exact ⟨_, _, _, hy, hr⟩

theorem buildSlice_sound (hT : TbOk P tb) (h : RelW φ w0 F0 sl fx ts fv w) {t ty : TypeId} {len : Nat} {ps : Array (Nat × Operand)} {cs : List Prop} {x : SV} {sl' : Sl}
    (hx : opV tb sl ty (.buildSlice t len ps) = some (cs, x, sl')) : Sound P w0 F0 ts ds w (.buildSlice t len ps) ty x sl' := by
  simp only [opV] at hx
  split at hx
  · rename_i e hk
    split at hx
    · rename_i hc
      simp only [Bool.and_eq_true] at hc
      have hpos : 0 < (tb e).size := Nat.le_of_ble_eq_true hc.1
      have hsm : len * (tb e).size ≤ 16777216 := Nat.le_of_ble_eq_true hc.2
      split at hx
      · rename_i r ht
        split at hx
        · rename_i hfit
          have hke := not_other hT hpos
          obtain ⟨hz1, hz2, -⟩ := info_zero hT hke
          have hzl : ((List.replicate len (tb e).zero).flatten).length = len * (tb e).size := by simp [List.length_flatten, hz2]
          obtain ⟨cells', φ1, k1, k2⟩ := parts_fill (ds := ds) (r := r.1) (sl' := r.2) h ht (zs := (List.replicate len (tb e).zero).flatten) (cells := ((List.replicate len ((tb e).zero.map zeroV)).flatten).toArray)
            (fun φ => by simpa using CVs.zeroRow hz1 len) hzl
          have hlf : (fillC (List.replicate len (tb e).zero).flatten r.1).length = len * (tb e).size := by
            have : ∀ (r : List (Nat × List CV)) (cs : List CV), (fillC cs r).length = cs.length := by
              intro r
              induction r with
              | nil => intro cs; rfl
              | cons p r ih => intro cs; obtain ⟨o, new⟩ := p; simp only [fillC]; rw [ih, setRange_length]
            rw [this, hzl]
          have hrun := fun (parts : Array (Nat × Value)) (hps : parts.toList = ps.toList.map (fun p => (p.1, Act.eval ⟨ts, ds⟩ p.2))) => buildSlice_run (w := w) (parts := parts) (cells := cells') hT hk hpos hsm (fun z0 hz0 => by
            rw [← k1]
            have : z0 = ((List.replicate len ((tb e).zero.map zeroV)).flatten).toArray := by apply Array.ext'; simpa using hz0
            rw [this, hps])
          clear k1 ht
          generalize fillC (List.replicate len (tb e).zero).flatten r.1 = CS at *
          generalize r.2 = sl2 at *
          simp only [Option.some.injEq, Prod.mk.injEq] at hx
          obtain ⟨-, rfl, rfl⟩ := hx
          exact buildRow_sound k2 hfit hlf hpos hrun
        · cases hx
      · cases hx
    · cases hx
  · cases hx

theorem allTmps_eq {f : Operand → Value} {ts : Array Value} (hf : ∀ t, f (.tmp t) = valAt ts t) : ∀ {os : List Operand} {ss : List Nat}, allTmps os = some ss → os.map f = ss.map (valAt ts)
  | [], ss, h => by cases h; rfl
  | .tmp t :: os, ss, h => by
    simp only [allTmps, Option.map_eq_some_iff] at h
    obtain ⟨r, h1, rfl⟩ := h
    simp only [List.map_cons, hf, allTmps_eq hf h1]
  | .const _ :: _, ss, h => by cases h
  | .func _ :: _, ss, h => by cases h
  | .global _ :: _, ss, h => by cases h

theorem makeFunc_sound (h : RelW φ w0 F0 sl fx ts fv w) {ty : TypeId} {fn : Fn} {a b : Array Operand} {cs : List Prop} {x : SV} {sl' : Sl}
    (hx : opV tb sl ty (.makeFunc fn a b) = some (cs, x, sl')) : Sound P w0 F0 ts ds w (.makeFunc fn a b) ty x sl' := by
  simp only [opV] at hx
  split at hx
  · rename_i f ss ha hss
    cases hx
    have ha' : a = #[] := by apply Array.ext'; simpa using ha
    subst ha'
    refine ⟨_, w, _, yields_val (s := Instr.makeFunc (.func f) (#[].map (Act.eval ⟨ts, ds⟩)) (b.map (Act.eval ⟨ts, ds⟩))) (fun _ _ _ _ => rfl) (by simp [Instr.makeFunc]; rfl), h.see (x := .cloS f ss) ⟨rfl, b.map (Act.eval ⟨ts, ds⟩), ?_, ?_⟩⟩
    · simp
    · simpa using allTmps_eq (f := Act.eval ⟨ts, ds⟩) (fun t => rfl) hss
  · cases hx

theorem nilEq_sound (hT : TbOk P tb) (h : RelW φ w0 F0 sl fx ts fv w) {op : BinOp} {t ty yt : TypeId} {x y : Operand} {v : SV} {sz : Nat} {es : List DV}
    (hn : nilB op (tb t).k y = true) (hv : opView tb ty sl x = some v) (hd : sliceD v = some (.sl sz es)) : Sound P w0 F0 ts ds w (.binOp op t x y yt) ty (.one (.cell (.nb es))) sl := by
  unfold nilB at hn
  split at hn
  · rename_i e hk
    have hu : P.underlying t = some (.slice e) := (tiOf hT hk).2.2.2.2.1
    have hf : flat v = true := by
      unfold sliceD at hd
      split at hd <;> first | rfl | cases hd
    obtain ⟨o, bs, h3⟩ := sliceD_rel' hd (opView_rel (ds := ds) h hv hf)
    have run : ∀ a l c, (do eqGuard .eql t x (.const (.slice none 0 0)) (.slice a l c) (.slice none 0 0); binOp .eql t (.slice a l c) (.slice none 0 0) : Sem Value).run P w = .ok (.bool a.isNone) w := fun a l c => by
      have hb : (binOp .eql t (.slice a l c) (.slice none 0 0)).run P w = .ok (.bool a.isNone) w := by
        show ((do pure (.bool (← Op.equal t (.slice a l c) (.slice none 0 0))) : Sem Value)).run P w = _
        rw [Sem.run_bind, run_equal_slice_nil w t e a l c hu]
        rfl
      have hg : (eqGuard .eql t x (.const (.slice none 0 0)) (.slice a l c) (.slice none 0 0)).run P w = .ok () w := rfl
      rw [Sem.run_bind, hg]
      exact hb
    have key : ∃ b : Bool, (b = true → es = []) ∧ (do eqGuard .eql t x (.const (.slice none 0 0)) (Act.eval ⟨ts, ds⟩ x) (.slice none 0 0); binOp .eql t (Act.eval ⟨ts, ds⟩ x) (.slice none 0 0) : Sem Value).run P w = .ok (.bool b) w := by
      generalize Act.eval ⟨ts, ds⟩ x = u at h3
      rcases h3.one with ⟨a, cap, rfl, rfl, -⟩ | ⟨b, off, n, cap, us, bs1, rfl, -, -, -, -, -, -, -, -⟩
      · exact ⟨_, fun _ => rfl, run _ _ _⟩
      · exact ⟨_, (fun e => by cases e), run _ _ _⟩
    obtain ⟨b, hb, hrun⟩ := key
    exact ⟨.bool b, w, _, yields_val (fun _ _ _ _ => rfl) hrun, h.see (x := .one (.cell (.nb es))) ⟨rfl, b, rfl, hb⟩⟩
  · cases hn
end
end Go.Proofs.Ytlffmhhdgedddaa.DL

/- The data level, part 14b: what is moved out of a box; append. -/
namespace Go.Proofs.Ytlffmhhdgedddaa.DL
open Go Go.RowKit

section
variable {P : Program} {C : Cfg} {tb : Tb} {φ : Option Nat → List Nat} {w0 w w' : World} {F0 : List Nat} {sl : Sl} {fx : SV} {ts : Array Value} {fv : Value} {ds : List Deferred}

theorem var_run (hT : TbOk P tb) {f : Nat → Value} {t : TypeId} {b o : Nat} {us : List Value} {cs : List CV} {r : RV} {ψ : List Nat} (hlen : us.length = (tb t).size) (hr : w.rangeAt b o us)
    (hc : CVs w φ f us cs ψ) (hw : wrapCs (tb t).k cs = some r) :
    ∃ v, (loadVar t ⟨b, o, none⟩).run P w = .ok v w ∧ RVRel w φ f v ψ r := by
  have conv : ∀ v, (Instr.loadAt t (.pointer (some ⟨b, o, none⟩))).run P w = .ok v w → (loadVar t ⟨b, o, none⟩).run P w = .ok v w := fun v h => by
    simpa [Instr.loadAt, Instr.sureAddr] using h
  have agg : ∀ d, P.underlying t = some d → d.isRow = true → r = .agg cs → (P.info? t).map (·.size) = some us.length → ∃ v, (loadVar t ⟨b, o, none⟩).run P w = .ok v w ∧ RVRel w φ f v ψ r := by
    intro d h1 h2 h3 h4
    refine ⟨.agg us.toArray, conv _ (run_loadAt_mid w b o t us d hr h1 h2 h4), ?_⟩
    rw [h3]
    exact ⟨us.toArray, rfl, by simpa using hc⟩
  have one : ∀ d, P.underlying t = some d → d.isRow = false → (∃ c, cs = [c] ∧ r = .cell c) → ∃ v, (loadVar t ⟨b, o, none⟩).run P w = .ok v w ∧ RVRel w φ f v ψ r := by
    rintro d h1 h2 ⟨c, rfl, rfl⟩
    obtain ⟨v, rfl, h3⟩ := hc.single
    exact ⟨v, conv _ (run_loadAt_one h1 h2 (by simpa using hr 0 v rfl)), h3⟩
  have := (hT t).1
  unfold TIok at this
  have cellOf : (match cs with | [c] => some (RV.cell c) | _ => none) = some r → ∃ c, cs = [c] ∧ r = .cell c := fun hw => by
    split at hw
    · cases hw; exact ⟨_, rfl, rfl⟩
    · cases hw
  have size : (∃ j z, P.info? t = some j ∧ j.size = (tb t).size ∧ j.zero = some z ∧ z.cells.toList = (tb t).zero.map zeroV ∧ j.bytes = (tb t).bytes) → (P.info? t).map (·.size) = some us.length := by
    rintro ⟨j, z, h1, h2, _⟩
    rw [h1]; simp [h2, hlen]
  cases hk : (tb t).k with
  | other => rw [hk] at hw; cases hw
  | int k => rw [hk] at this hw; exact one _ this.2.2.2.2.1 rfl (cellOf hw)
  | bool => rw [hk] at this hw; exact one _ this.2.2.2.2.1 rfl (cellOf hw)
  | string => rw [hk] at this hw; exact one _ this.2.2.2.2.1 rfl (cellOf hw)
  | slice e => rw [hk] at this hw; exact one _ this.2.2.2.2.1 rfl (cellOf hw)
  | struct offs => rw [hk] at this; obtain ⟨h1, _, h3, _, fs, h5, _, _⟩ := this; rw [hk] at hw; exact agg _ h5 rfl (by cases hw; rfl) (size h1)
  | array n e => rw [hk] at this; obtain ⟨h1, _, h3, _, h5⟩ := this; rw [hk] at hw; exact agg _ h5 rfl (by cases hw; rfl) (size h1)


theorem CVs.bareMap {f : Nat → Value} {vs : List Value} {cs : List CV} {ψ : List Nat} (h : CVs w φ f vs cs ψ) (hf : cs.all CV.free = true) : CVs w φ f vs (cs.map bareC) [] := by
  induction h with
  | nil => exact .nil
  | @cons v c ψ vs cs ψs h1 _ ih =>
    simp only [List.all_cons, Bool.and_eq_true] at hf
    have h2 : CVRel w φ f v [] (bareC c) := by
      cases c with
      | own d => exact trivial
      | sc u => exact ⟨h1.1, h1.2.1, rfl⟩
      | rd d => exact ⟨rfl, h1.2⟩
      | vl u d => exact ⟨rfl, h1.2⟩
      | _ => simp [CV.free] at hf
    have := CVs.cons h2 (ih hf.2)
    simpa using this

theorem roots_free {cs : List CV} (h : cs.all CV.free = true) : ∀ c ∈ cs, c.roots = [] := fun c hc => by
  have := List.all_eq_true.1 h c hc
  cases c <;> simp_all [CV.free, CV.roots]

theorem wrap_roots {k : TK} {cs : List CV} {r : RV} (h : wrapCs k cs = some r) (hc : ∀ c ∈ cs, c.roots = []) : r.roots = [] := by
  unfold wrapCs at h
  split at h
  · cases h; simpa [RV.roots] using hc
  · cases h; simpa [RV.roots] using hc
  · cases h
  · split at h
    · cases h; simpa [RV.roots] using hc
    · cases h

theorem loadMv_sound (hT : TbOk P tb) (h : RelW φ w0 F0 sl fx ts fv w) {t ty : TypeId} {a : Operand} {p x : SV} {sl' : Sl}
    (hp : opView tb ty sl a = some p) (hl : loadMv tb t sl p = some (x, sl')) : ∃ v φ', (Instr.loadAt t (Act.eval ⟨ts, ds⟩ a)).run P w = .ok v w ∧ RelW φ' w0 F0 sl' x ts v w := by
  unfold loadMv at hl
  split at hl
  · rename_i s j
    split at hl
    · rename_i cs hs
      split at hl
      · rename_i hc
        simp only [Option.map_eq_some_iff, Prod.mk.injEq] at hl
        obtain ⟨r, hr, rfl, rfl⟩ := hl
        simp only [Bool.and_eq_true] at hc
        have hle : j + (tb t).zero.length ≤ cs.length := Nat.le_of_ble_eq_true hc.1
        obtain ⟨-, hv, b, o, g1, g2, g3⟩ := opView_rel (ds := ds) h hp rfl
        have hg := gt_rel h s
        rw [hs] at hg
        obtain ⟨hroots, b0, c, el, ψs, h1, h2, h3, h4⟩ := hg
        simp only [hdr, Option.some.injEq] at g1
        subst g1
        rw [h1] at g2
        simp only [locOf, Option.some.injEq, Prod.mk.injEq] at g2
        obtain ⟨rfl, rfl⟩ := g2
        obtain ⟨ψ1, ψ4, k1, k4, rfl⟩ := h3.split j
        obtain ⟨ψ2, ψ3, k2, k3, rfl⟩ := k4.split (tb t).zero.length
        rw [List.drop_drop, List.drop_drop] at k3
        have hsz : (tb t).zero.length = (tb t).size := by
          have := (hT t).1
          unfold TIok at this
          split at this
          · rename_i hk; rw [hk] at hr; simp [wrapCs] at hr
          · exact this.2.2.1
        have hlen : ((c.toList.drop j).take (tb t).zero.length).length = (tb t).zero.length := by
          have := h3.len
          rw [List.length_take, List.length_drop, this]; omega
        obtain ⟨v, q1, q2⟩ := var_run (t := t) (b := b0) (o := 0 + j) hT (hlen.trans hsz) (fun k u hk => by
          rw [List.getElem?_take] at hk
          split at hk
          · rw [List.getElem?_drop] at hk
            have hk' : c[j + k]? = some u := by simpa using hk
            simp only [World.cell?, h2]
            rw [show 0 + j + k = j + k by omega]
            simpa using hk'
          · cases hk) k2 hr
        have hrr := wrap_roots hr (roots_free hc.2)
        obtain ⟨φ', hk⟩ := h.splitOffB s (x := .one r) (y := .box (cs.take j ++ (((cs.drop j).take (tb t).zero.length).map bareC ++ cs.drop (j + (tb t).zero.length)))) (ψ' := b0 :: (ψ1 ++ ([] ++ ψ3))) q2
          ⟨fun c' hc' => by
            simp only [List.mem_append] at hc'
            rcases hc' with h' | h' | h'
            · exact hroots c' (List.mem_of_mem_take h')
            · obtain ⟨c0, h0, rfl⟩ := List.mem_map.1 h'
              have := List.all_eq_true.1 hc.2 c0 h0
              cases c0 <;> simp_all [CV.free, bareC, CV.roots]
            · exact hroots c' (List.mem_of_mem_drop h'), b0, c, el, _, h1, h2, by
              have := k1.append ((k2.bareMap hc.2).append k3)
              have e : c.toList.take j ++ ((c.toList.drop j).take (tb t).zero.length ++ c.toList.drop (j + (tb t).zero.length)) = c.toList := by
                rw [← List.drop_drop, List.take_append_drop, List.take_append_drop]
              rwa [e] at this, rfl⟩ (by
          have rts : ∀ c' ∈ cs.take j ++ (((cs.drop j).take (tb t).zero.length).map bareC ++ cs.drop (j + (tb t).zero.length)), c'.roots = [] := fun c' hc' => by
            simp only [List.mem_append] at hc'
            rcases hc' with h' | h' | h'
            · exact hroots c' (List.mem_of_mem_take h')
            · obtain ⟨c0, h0, rfl⟩ := List.mem_map.1 h'
              have := List.all_eq_true.1 hc.2 c0 h0
              cases c0 <;> simp_all [CV.free, bareC, CV.roots]
            · exact hroots c' (List.mem_of_mem_drop h')
          simp only [SV.roots, List.mem_flatMap, not_exists, not_and]
          intro c' hc'
          rw [rts c' hc']
          simp) (by
          rw [h4]
          simp only [List.nil_append]
          refine (List.Perm.cons b0 (List.perm_append_comm_assoc ψ1 ψ2 ψ3)).trans ?_
          exact (List.perm_middle (a := b0) (l₁ := ψ2) (l₂ := ψ1 ++ ψ3)).symm)
        refine ⟨v, φ', ?_, ?_⟩
        · rw [g3]
          simpa [Instr.loadAt, Instr.sureAddr] using q1
        · have : killSV s (.one r) = .one r := by simp [killSV, SV.roots, hrr]
          rwa [this] at hk
      · cases hl
    · cases hl
  · cases hl

/-- Scalars own nothing. -/
theorem Rd.vals {o o' : Bool} {vs : List Value} {es : List DV} {bs : List Nat} (h : Rd o w vs es bs) (ha : AllVal es) : Rd o' w vs es [] := by
  induction h with
  | nil => exact .nil
  | sc h _ ih => exact .sc h (ih fun d hd => ha d (List.mem_cons_of_mem _ hd))
  | e0 _ _ _ => exact (ha _ (List.mem_cons_self ..)).elim
  | sl _ _ _ _ _ _ _ _ => exact (ha _ (List.mem_cons_self ..)).elim

theorem Rd.ones {o : Bool} {vs : List Value} {es : List DV} {bs : List Nat} (h : Rd o w vs es bs) : ∀ v ∈ vs, v.oneCell' = true := by
  induction h with
  | nil => intro v hv; cases hv
  | sc hs _ ih =>
    intro v hv
    rcases List.mem_cons.1 hv with rfl | hv
    · cases v <;> simp_all [isSc, Value.oneCell']
    · exact ih v hv
  | e0 _ _ ih =>
    intro v hv
    rcases List.mem_cons.1 hv with rfl | hv
    · rfl
    · exact ih v hv
  | sl _ _ _ _ _ _ _ _ ih =>
    intro v hv
    rcases List.mem_cons.1 hv with rfl | hv
    · rfl
    · exact ih v hv

/-- A slice's elements, wherever they lie. -/
theorem Rd.elems {o : Bool} {v : Value} {sz : Nat} {es : List DV} {bs : List Nat} (h : Rd o w [v] [.sl sz es] bs) :
    ∃ a n cap us bs1, v = .slice a n cap ∧ us.length = n * sz ∧ Rd o w us es bs1 ∧ (∀ b ∈ bs1, b ∈ bs) ∧ (n = 0 ∨ ∃ b off, a = some ⟨b, off, none⟩ ∧ w.rangeAt b off us ∧ bs = b :: bs1) ∧ (0 < sz → (DV.sl sz es).n = n) := by
  rcases h.one with ⟨a, cap, rfl, rfl, rfl, -⟩ | ⟨b, off, n, cap, us, bs1, rfl, rfl, h1, -, -, h4, h5, -, h7⟩
  · exact ⟨a, 0, cap, [], [], rfl, by simp, .nil, (fun b hb => by cases hb), .inl rfl, fun _ => by rw [DV.n_eq]; simp⟩
  · exact ⟨_, n, cap, us, bs1, rfl, by rw [h7.length, h4], h7, fun b hb => List.mem_cons_of_mem _ hb, .inr ⟨b, off, rfl, h1, rfl⟩, fun _ => by rw [DV.n_eq, h4]; exact Nat.mul_div_cancel _ h5⟩

theorem Rd.ints8 {o : Bool} {vs : List Value} {es : List DV} {bs : List Nat} (h : Rd o w vs es bs) (hb : ∀ d ∈ es, d.isI .u8) : vs = (es.map DV.asI).map (Value.int .u8) := by
  induction h with
  | nil => rfl
  | sc hs _ ih =>
    have := hb _ (List.mem_cons_self ..)
    unfold DV.isI at this
    injection this with e
    rw [List.map_cons, List.map_cons, ← e, ← ih fun d hd => hb d (List.mem_cons_of_mem _ hd)]
  | e0 _ _ _ => have := hb _ (List.mem_cons_self ..); cases this
  | sl _ _ _ _ _ _ _ _ _ => have := hb _ (List.mem_cons_self ..); cases this
theorem convB_sound (hT : TbOk P tb) (h : RelW φ w0 F0 sl fx ts fv w) {src dst e ty : TypeId} {x : Operand} {v : SV} {r : ByteArray} {c : List Prop} (hks : (tb src).k = .slice e)
    (hv : opView tb ty sl x = some v) (hd : conB (tb e).k (tb dst).k (sliceD v) = some (c, r)) (hc : ∀ p ∈ c, p) : Sound P w0 F0 ts ds w (.convert src dst x) ty (.one (.cell (.sc (.string r)))) sl := by
  unfold conB at hd
  split at hd
  · rename_i es hke hkd hsd
    cases hd
    have hb := hc _ (List.mem_cons_self ..)
    have hf : flat v = true := by
      unfold sliceD at hsd
      split at hsd <;> first | rfl | cases hsd
    obtain ⟨o, bs, h3⟩ := sliceD_rel' hsd (opView_rel (ds := ds) h hv hf)
    have hu : P.underlying src = some (.slice e) := (tiOf hT hks).2.2.2.2.1
    have he : P.underlying e = some (.int .u8) := (tiOf hT hke).2.2.2.2.1
    have hdst : P.underlying dst = some .string := (tiOf hT hkd).2.2.2.2.1
    obtain ⟨a, n, cap, us, bs1, e1, e2, e3, -, e5, -⟩ := h3.elems
    have hus := e3.ints8 hb
    have hrun : (convert src dst (Act.eval ⟨ts, ds⟩ x)).run P w = .ok (.string (bytesS es)) w := by
      rw [e1, run_convert_bytes_string w src dst e a n cap hu he hdst]
      have hfold : (es.map DV.asI).foldl (fun r n => r.push (UInt8.ofNat n.toNat)) ByteArray.empty = bytesS es := by unfold bytesS; rw [List.foldl_map]
      rcases e5 with rfl | ⟨b, off, rfl, h1, -⟩
      · have : es = [] := List.eq_nil_of_length_eq_zero (by rw [← e3.length, e2])
        subst this
        cases a with
        | none => rfl
        | some a => exact run_bytesToString w a 0 cap [] rfl
      · rw [run_bytesToString w ⟨b, off, none⟩ n cap (es.map DV.asI), hfold]
        rw [← hus]
        have hl : us.length = n := by rw [e2, Nat.mul_one]
        rw [← hl]
        exact run_loadCells_list _ _ _ fun j v hj => by rw [Addr_add]; exact h1 j v hj
    exact ⟨_, w, _, yields_val (fun _ _ _ _ => rfl) hrun, h.see (x := .one (.cell (.sc _))) ⟨rfl, rfl, rfl⟩⟩
  · cases hd

theorem Rd.mk {v : Value} {n cap sz b off : Nat} {us : List Value} {es : List DV} {bs1 : List Nat} (hv : v = .slice (some ⟨b, off, none⟩) n cap) (h1 : w.rangeAt b off us) (h2 : OwnRow w b (off + cap * sz)) (h3 : b < w.heap.size)
    (h4 : es.length = n * sz) (h5 : 0 < sz ∧ n ≤ cap) (h6 : Rd true w us es bs1) : Rd true w [v] [.sl sz es] (b :: bs1) := by
  subst hv
  have := Rd.sl (o := true) h1 (fun _ => h2) h3 h4 h5 h6 .nil
  simpa using this

theorem append_run (hT : TbOk P tb) {t e ty : TypeId} (hk : (tb t).k = .slice e) (hpos : 0 < (tb e).size) {vx : Value} {es es2 : List DV} {bs χ : List Nat} {a2 : Option Addr} {n2 cap2 : Nat} {us2 : List Value}
    (hx : Rd true w [vx] [.sl (tb e).size es] bs) (l2 : us2.length = n2 * (tb e).size) (p2 : n2 = 0 ∨ ∃ b off, a2 = some ⟨b, off, none⟩ ∧ w.rangeAt b off us2) (hU : Rd true w us2 es2 χ)
    (hb : ((DV.sl (tb e).size es).n + n2) * (tb e).bytes ≤ 140737488355328) (hb' : (DV.sl (tb e).size es).n + n2 ≤ 140737488355328)
    (hnd : bs.Nodup) (hχn : χ.Nodup) (hdj : ∀ b ∈ χ, b ∉ bs) :
    ∃ v' w' ψ, (Builtin.append_ #[t, t] ty #[vx, .slice a2 n2 cap2]).run P w = .ok v' w' ∧ Ext bs w w' ∧ Rd true w' [v'] [.sl (tb e).size (es ++ es2)] ψ ∧ ψ.Nodup ∧ ∀ b ∈ ψ, b < w'.heap.size ∧ ((b ∈ bs ∨ b ∈ χ) ∨ w.heap.size ≤ b) := by
  obtain ⟨j, z, i1, i2, i3, i4, i5⟩ := info_of hT (not_other hT hpos)
  have hu := (under_of hT).2.1 e hk
  have hzs : z.cells.size = (tb e).size := by
    have := congrArg List.length i4
    simpa [(info_zero hT (not_other hT hpos)).2.1] using this
  have hel2 : es2.length = n2 * (tb e).size := by rw [← hU.length, l2]
  have hUlt : ∀ b ∈ χ, b < w.heap.size := hU.lt
  -- what is read of the second
  have first2 : ∀ w1 : World, (∀ b o, w1.cell? ⟨b, o, none⟩ = w.cell? ⟨b, o, none⟩) → (Builtin.firstCells j.size n2 (.slice a2 n2 cap2)).run P w1 = .ok us2.toArray w1 := fun w1 hw1 => by
    rcases p2 with h0 | ⟨b, off, rfl, h2⟩
    · subst h0
      have : us2 = [] := List.eq_nil_of_length_eq_zero (by simpa using l2)
      subst this
      cases a2 with
      | none => exact run_firstCells_none (P := P) w1 _ _ _ _
      | some a => exact run_firstCells_some (P := P) w1 j.size 0 a 0 cap2 [] (by simp) (fun j v h => by simp at h)
    · refine run_firstCells_some (P := P) w1 j.size n2 _ n2 cap2 us2 (by rw [l2, i2]) fun k v hk => ?_
      rw [Addr_add, hw1]
      exact h2 k v hk
  rcases hx.one with ⟨a, cap, rfl, rfl, rfl, hcap⟩ | ⟨b, off, n, cap, us, bs1, rfl, rfl, h1, h2, h3, h4, h5, h6, h7⟩
  · -- the first is empty, and has no room
    have hcap := hcap rfl
    subst hcap
    have e1 : (DV.sl (tb e).size []).n = 0 := by rw [DV.n_eq]; simp
    rw [e1] at hb hb'
    simp only [Nat.zero_add] at hb hb'
    rcases Nat.eq_zero_or_pos n2 with h0 | hp2
    · subst h0
      have : us2 = [] := List.eq_nil_of_length_eq_zero (by simpa using l2)
      subst this
      have hes2 : es2 = [] := List.eq_nil_of_length_eq_zero (by simpa using hel2)
      subst hes2
      refine ⟨.slice a 0 0, w, [], ?_, Ext.refl _ _, .e0 (fun _ => rfl) .nil, .nil, fun b hb => by cases hb⟩
      have hf := first2 w (fun _ _ => rfl)
      cases a with
      | none => simp [Builtin.append_, run_underlying hu, sizeOf, typeInfo, i1, Builtin.lenOf, hf]
      | some a => simp [Builtin.append_, run_underlying hu, sizeOf, typeInfo, i1, Builtin.lenOf, hf, storeCells]
    · rcases p2 with h0 | ⟨b2, off2, rfl, h22⟩
      · omega
      · have hge := grownCap_ge w n2 0 e
        have fin : ∀ w1, w1 = w.drew.alloc (.cells (us2.toArray ++ Builtin.zeroCells z.cells (grownCap w n2 0 e - n2)) e) →
            Ext [] w w1 ∧ Rd true w1 [.slice (some ⟨w.heap.size, 0, none⟩) n2 (grownCap w n2 0 e)] [.sl (tb e).size ([] ++ es2)] (w.heap.size :: χ) := by
          rintro w1 rfl
          have hx0 : Ext [] w (w.drew.alloc (.cells (us2.toArray ++ Builtin.zeroCells z.cells (grownCap w n2 0 e - n2)) e)) := ⟨rfl, rfl, rfl, by simp, fun k hk _ => heap_alloc_old w.drew _ k hk⟩
          have hh : (w.drew.alloc (.cells (us2.toArray ++ Builtin.zeroCells z.cells (grownCap w n2 0 e - n2)) e)).heap[w.heap.size]? = some (.cells (us2.toArray ++ Builtin.zeroCells z.cells (grownCap w n2 0 e - n2)) e (0, 0)) := heap_alloc_new w.drew _
          refine ⟨hx0, Rd.mk rfl (us := us2) (fun k v hk => ?_) ⟨_, e, hh, ?_⟩ (by simp) (by simpa using hel2) ⟨hpos, hge⟩ (by simpa using hU.frame hx0.size fun b hb => hx0.block b (hUlt b hb) (by simp))⟩
          · simp only [World.cell?, hh, Nat.zero_add]
            have hk2 := (List.getElem?_eq_some_iff.1 hk).1
            have e3 : (us2.toArray ++ Builtin.zeroCells z.cells (grownCap w n2 0 e - n2))[k]? = some v := by
              rw [Array.getElem?_append_left (by simpa using hk2)]
              simpa using hk
            simpa using e3
          · rw [Array.size_append, size_zeroCells, hzs]
            simp only [List.size_toArray, l2, ← Nat.add_mul, Nat.zero_add]
            exact Nat.mul_le_mul_right _ (by omega)
        obtain ⟨f1, f2⟩ := fin _ rfl
        refine ⟨_, _, w.heap.size :: χ, ?_, f1, f2, List.nodup_cons.2 ⟨fun hm => Nat.lt_irrefl _ (hUlt _ hm), hχn⟩, fun b hb => ?_⟩
        · cases a with
          | none => exact run_append_nil (P := P) w t ty e j z hu i1 i3 ⟨b2, off2, none⟩ n2 cap2 us2 (by rw [l2, i2]) (fun k v hk => by rw [Addr_add]; exact h22 k v hk) hp2 (by omega) (by rw [i5]; omega)
          | some a =>
            have := run_append_grow (P := P) w t ty e j z hu i1 i3 a 0 0 [] (by simp) (fun j v h => by simp at h) ⟨b2, off2, none⟩ n2 cap2 us2 (by rw [l2, i2]) (fun k v hk => by rw [Addr_add]; exact h22 k v hk) (by omega) (by omega) (growslice_fits (by omega) (by rw [i5]; simpa using hb))
            simpa using this
        · rcases List.mem_cons.1 hb with rfl | hb
          · exact ⟨by simp, .inr (Nat.le_refl _)⟩
          · exact ⟨Nat.lt_of_lt_of_le (hUlt b hb) f1.size, .inl (.inr hb)⟩
  · have e1 : (DV.sl (tb e).size es).n = n := by rw [DV.n_eq, h4]; exact Nat.mul_div_cancel _ hpos
    rw [e1] at hb hb'
    have hul : us.length = n * (tb e).size := by rw [h7.length, h4]
    obtain ⟨hbb, hnd1⟩ := List.nodup_cons.1 hnd
    have hlt1 : ∀ x ∈ bs1, x < w.heap.size := h7.lt
    have hnd2 : (b :: (bs1 ++ χ)).Nodup := List.nodup_cons.2 ⟨fun hm => by
      rcases List.mem_append.1 hm with hm | hm
      · exact hbb hm
      · exact hdj b hm (List.mem_cons_self ..), List.nodup_append.2 ⟨hnd1, hχn, fun x hx y hy e => hdj y hy (by rw [← e]; exact List.mem_cons_of_mem _ hx)⟩⟩
    by_cases hroom : n + n2 ≤ cap
    · -- in place
      obtain ⟨c, el, hc, hm⟩ := h2 rfl
      have hfit : off + n * (tb e).size + us2.length ≤ c.size := by
        rw [l2, Nat.add_assoc, ← Nat.add_mul]
        exact Nat.le_trans (Nat.add_le_add_left (Nat.mul_le_mul_right _ hroom) _) hm
      have hst := run_storeCells_cells (P := P) b (off + n * (tb e).size) us2 0 w (fun k hk => by
        simp only [World.cell?, hc, Nat.add_zero]
        simp; omega) (fun k hk => by simp [World.frozen?, hc]) hU.ones
      simp only [Nat.add_zero] at hst
      have hxx := setCells_ext w b (off + n * (tb e).size) us2
      have hblk := setCells_block (b := b) us2 (off + n * (tb e).size) hc
      refine ⟨.slice (some ⟨b, off, none⟩) (n + n2) cap, w.setCells b (off + n * (tb e).size) us2, b :: (bs1 ++ χ), ?_, hxx.mono (fun x hx _ => by
        have : x = b := by simpa using hx
        rw [this]; exact List.mem_cons_self ..), ?_, hnd2, fun x hx => ?_⟩
      · have hf := first2 w (fun _ _ => rfl)
        rw [i2] at hf
        simp [Builtin.append_, run_underlying hu, sizeOf, typeInfo, i1, Builtin.lenOf, hroom, hf, Addr_add, i2, hst]
      · refine Rd.mk rfl (us := us ++ us2) (fun k v hk => ?_) ⟨_, el, hblk, ?_⟩ (Nat.lt_of_lt_of_le h3 hxx.size) (by rw [List.length_append, h4, hel2, Nat.add_mul]) ⟨hpos, hroom⟩ ?_
        · by_cases hk1 : k < us.length
          · rw [List.getElem?_append_left hk1] at hk
            rw [World.cell?_setCells_out _ _ _ _ _ (fun _ _ => .inl (by show off + k < off + n * (tb e).size; omega))]
            exact h1 k v hk
          · rw [List.getElem?_append_right (by omega)] at hk
            have hk2 := (List.getElem?_eq_some_iff.1 hk).1
            have := World.cell?_setCells_in b us2 (off + n * (tb e).size) w (fun i hi => by
              simp only [World.cell?, hc]
              simp; omega) (k - us.length) hk2
            rw [show off + k = off + n * (tb e).size + (k - us.length) by omega, this, (List.getElem?_eq_some_iff.1 hk).2]
        · have hsz : (setRange c.toList (off + n * (tb e).size) us2).length = c.size := by rw [setRange_length]; simp
          first
            | (rw [← Array.length_toList]; simp [setRange_length]; omega)
            | (simp [setRange_length]; omega)
            | omega
        · refine (h7.frame hxx.size fun x hx => ?_).append (hU.frame hxx.size fun x hx => ?_)
          · exact hxx.block x (hlt1 x hx) (by simp; intro e'; exact hbb (e' ▸ hx))
          · exact hxx.block x (hUlt x hx) (by simp; intro e'; exact hdj x hx (by rw [e']; exact List.mem_cons_self ..))
      · rcases List.mem_cons.1 hx with rfl | hx
        · exact ⟨Nat.lt_of_lt_of_le h3 hxx.size, .inl (.inl (List.mem_cons_self ..))⟩
        · rcases List.mem_append.1 hx with hx | hx
          · exact ⟨Nat.lt_of_lt_of_le (hlt1 x hx) hxx.size, .inl (.inl (List.mem_cons_of_mem _ hx))⟩
          · exact ⟨Nat.lt_of_lt_of_le (hUlt x hx) hxx.size, .inl (.inr hx)⟩
    · -- a new row
      have hp2 : 0 < n2 := by omega
      rcases p2 with h0 | ⟨b2, off2, rfl, h22⟩
      · omega
      · have hge := grownCap_ge w (n + n2) cap e
        have hr := run_append_grow (P := P) w t ty e j z hu i1 i3 ⟨b, off, none⟩ n cap us (by rw [hul, i2]) (fun k v hk => by rw [Addr_add]; exact h1 k v hk) ⟨b2, off2, none⟩ n2 cap2 us2 (by rw [l2, i2])
          (fun k v hk => by rw [Addr_add]; exact h22 k v hk) (by omega) (by omega) (growslice_fits (by omega) (by rw [i5]; exact hb))
        have hx0 : Ext [] w (w.drew.alloc (.cells (us.toArray ++ us2.toArray ++ Builtin.zeroCells z.cells (grownCap w (n + n2) cap e - (n + n2))) e)) := ⟨rfl, rfl, rfl, by simp, fun k hk _ => heap_alloc_old w.drew _ k hk⟩
        have hh : (w.drew.alloc (.cells (us.toArray ++ us2.toArray ++ Builtin.zeroCells z.cells (grownCap w (n + n2) cap e - (n + n2))) e)).heap[w.heap.size]? = some (.cells (us.toArray ++ us2.toArray ++ Builtin.zeroCells z.cells (grownCap w (n + n2) cap e - (n + n2))) e (0, 0)) := heap_alloc_new w.drew _
        refine ⟨_, _, w.heap.size :: (bs1 ++ χ), hr, hx0.mono (by simp), ?_, List.nodup_cons.2 ⟨fun hm => ?_, (List.nodup_cons.1 hnd2).2⟩, fun x hx => ?_⟩
        · refine Rd.mk rfl (us := us ++ us2) (fun k v hk => ?_) ⟨_, e, hh, ?_⟩ (by simp) (by rw [List.length_append, h4, hel2, Nat.add_mul]) ⟨hpos, hge⟩ ?_
          · simp only [World.cell?, hh, Nat.zero_add]
            have hk2 := (List.getElem?_eq_some_iff.1 hk).1
            have e3 : (us.toArray ++ us2.toArray ++ Builtin.zeroCells z.cells (grownCap w (n + n2) cap e - (n + n2)))[k]? = some v := by
              rw [Array.getElem?_append_left (by simpa using hk2)]
              simpa using hk
            simpa using e3
          · rw [Array.size_append, size_zeroCells, hzs]
            simp only [Array.size_append, List.size_toArray, hul, l2, ← Nat.add_mul, Nat.zero_add]
            exact Nat.mul_le_mul_right _ (by omega)
          · exact (h7.frame hx0.size fun x hx => hx0.block x (hlt1 x hx) (by simp)).append (hU.frame hx0.size fun x hx => hx0.block x (hUlt x hx) (by simp))
        · rcases List.mem_append.1 hm with hm | hm
          · exact Nat.lt_irrefl _ (hlt1 _ hm)
          · exact Nat.lt_irrefl _ (hUlt _ hm)
        · rcases List.mem_cons.1 hx with rfl | hx
          · exact ⟨by simp, .inr (Nat.le_refl _)⟩
          · rcases List.mem_append.1 hx with hx | hx
            · exact ⟨Nat.lt_of_lt_of_le (hlt1 x hx) hx0.size, .inl (.inl (List.mem_cons_of_mem _ hx))⟩
            · exact ⟨Nat.lt_of_lt_of_le (hUlt x hx) hx0.size, .inl (.inr hx)⟩

theorem appC_of {bytes sz : Nat} {d d2 : DV} (h : ∀ p ∈ appC bytes sz d d2, p) : d.sz = sz ∧ d2.sz = sz ∧ 0 < sz ∧ (d.n + d2.n) * bytes ≤ 140737488355328 ∧ d.n + d2.n ≤ 140737488355328 := by
  unfold appC at h
  split at h
  · rename_i hc
    simp only [Bool.and_eq_true, beq_iff_eq] at hc
    exact ⟨hc.1, hc.2.1, Nat.le_of_ble_eq_true hc.2.2, h _ (by simp), h _ (by simp)⟩
  · exact (h False (by simp)).elim

theorem append_sound (hT : TbOk P tb) (h : RelW φ w0 F0 sl fx ts fv w) {t ty : TypeId} {x y : Operand} {cs : List Prop} {v : SV} {sl' : Sl} (hx : appV tb sl t x y = some (cs, v, sl')) (hc : ∀ p ∈ cs, p) :
    ∃ u w' φ', (Builtin.append_ #[t, t] ty #[Act.eval ⟨ts, ds⟩ x, Act.eval ⟨ts, ds⟩ y]).run P w = .ok u w' ∧ RelW φ' w0 F0 sl' v ts u w' := by
  unfold appV at hx
  split at hx
  · rename_i u
    split at hx
    · rename_i e sz es sl1 hk hv
      obtain ⟨φ1, h1⟩ := opTake_rel (ds := ds) h hv
      have hx1 : Rd true w [Act.eval ⟨ts, ds⟩ x] [.sl sz es] (φ1 none) := h1.slot none _ rfl
      have hg := gt_rel h1 u
      have hu : Act.eval ⟨ts, ds⟩ (.tmp u) = valAt ts u := rfl
      split at hx
      · rename_i sz2 es2 hy
        simp only [Option.some.injEq, Prod.mk.injEq] at hx
        obtain ⟨rfl, rfl, rfl⟩ := hx
        obtain ⟨e1, e2, e3, e4, e5⟩ := appC_of hc
        simp only [DV.sz] at e1 e2
        subst e1
        subst e2
        rw [hy] at hg
        have h2 := h1.refly (Ext.refl _ _) (v := .tuple #[Act.eval ⟨ts, ds⟩ x]) (ψ := φ1 none) (x := .tup [.cell (.own (.sl (tb e).size es))]) (h1.nd none) (fun b hb => ⟨(h1.lt none b hb).1, .inl hb⟩) (by
          rw [setN_self]
          refine ⟨_, rfl, ?_⟩
          have := RVs.cons (w := w) (φ := φ1) (f := valAt ts) (r := .cell (.own (.sl (tb e).size es))) hx1 .nil
          simpa using this)
        rw [setN_self] at h2
        obtain ⟨φ3, h3⟩ := h2.join (by simp [RV.roots, CV.roots]) u (x := .cell (.own (.sl (tb e).size es2))) (List.Sublist.refl _) hg rfl
        obtain ⟨vs, hvs, h4⟩ := h3.slot none _ rfl
        have hvs : Value.tuple (#[Act.eval ⟨ts, ds⟩ x].push (valAt ts u)) = .tuple vs := hvs
        cases hvs
        have h4 : RVs w φ3 (valAt ts) [Act.eval ⟨ts, ds⟩ x, valAt ts u] [.cell (.own (.sl (tb e).size es)), .cell (.own (.sl (tb e).size es2))] (φ3 none) := by simpa using h4
        have hnd := h3.nd none
        have hlt := h3.lt none
        generalize hφ : φ3 none = ψ0 at h4 hnd hlt
        cases h4 with
        | @cons _ _ ψ1 _ _ ψ2' k1 k2 =>
          cases k2 with
          | @cons _ _ ψ2 _ _ ψ3 k2 k3 =>
            cases k3
            simp only [List.append_nil] at hnd hlt hφ
            obtain ⟨n1, n2, n3⟩ := List.nodup_append.1 hnd
            have k1 : Rd true w [Act.eval ⟨ts, ds⟩ x] [.sl (tb e).size es] ψ1 := k1
            have k2 : Rd true w [valAt ts u] [.sl (tb e).size es2] ψ2 := k2
            obtain ⟨a2, m2, cap2, us2, bs3, q1, q2, q3, q4, q5, q6⟩ := k2.elems
            rw [q6 e3] at e4 e5
            have hbs3 : bs3.Nodup := by
              rcases q5 with q5 | ⟨b, off, -, -, q5⟩
              · have : us2 = [] := List.eq_nil_of_length_eq_zero (by rw [q2, q5]; simp)
                subst this
                cases q3
                exact .nil
              · rw [q5] at n2; exact (List.nodup_cons.1 n2).2
            obtain ⟨v', w', ψ, r1, r2, r3, r4, r5⟩ := append_run (P := P) (ty := ty) (cap2 := cap2) hT hk e3 k1 q2 (q5.imp id fun ⟨b, off, h1, h2, _⟩ => ⟨b, off, h1, h2⟩) q3 e4 e5 n1 hbs3 (fun b hb hb' => n3 b hb' b (q4 b hb) rfl)
            refine ⟨v', w', _, by rw [hu, q1]; exact r1, h3.refly (r2.mono fun b hb _ => by rw [hφ]; simp [hb]) (ψ := ψ) (x := .one (.cell (.own _))) r4 (fun b hb => ⟨(r5 b hb).1, ?_⟩) r3⟩
            rcases (r5 b hb).2 with (g | g) | g
            · exact .inl (by rw [hφ]; simp [g])
            · exact .inl (by rw [hφ]; simp [q4 b g])
            · exact .inr g
      · split at hx
        · rename_i sz2 es2 hy
          simp only [Option.some.injEq, Prod.mk.injEq] at hx
          obtain ⟨rfl, rfl, rfl⟩ := hx
          have ha : AllVal es2 := hc _ (List.mem_cons_self ..)
          obtain ⟨e1, e2, e3, e4, e5⟩ := appC_of fun p hp => hc p (List.mem_cons_of_mem _ hp)
          simp only [DV.sz] at e1 e2
          subst e1
          subst e2
          have hflu : flat (view sl1 u) = true := by
            unfold sliceD at hy
            split at hy <;> first | (rename_i e; rw [e]; rfl) | cases hy
          obtain ⟨o, bs, k2⟩ := sliceD_rel' hy (opView_rel (tb := tb) (ds := ds) (ty := t) (o := .tmp u) h1 rfl hflu)
          obtain ⟨a2, m2, cap2, us2, bs3, q1, q2, q3, q4, q5, q6⟩ := k2.elems
          rw [q6 e3] at e4 e5
          obtain ⟨v', w', ψ, r1, r2, r3, r4, r5⟩ := append_run (P := P) (ty := ty) (cap2 := cap2) hT hk e3 hx1 q2 (q5.imp id fun ⟨b, off, h1, h2, _⟩ => ⟨b, off, h1, h2⟩) (q3.vals ha) e4 e5 (h1.nd none) .nil (fun b hb => by cases hb)
          refine ⟨v', w', _, by rw [q1]; exact r1, h1.refly r2 (ψ := ψ) (x := .one (.cell (.own _))) r4 (fun b hb => ⟨(r5 b hb).1, ?_⟩) r3⟩
          rcases (r5 b hb).2 with (g | g) | g
          · exact .inl g
          · cases g
          · exact .inr g
        · cases hx
    · cases hx
  · cases hx

theorem CVs.getSplit {f : Nat → Value} : ∀ {vs : List Value} {cs : List CV} {ψ : List Nat} (j : Nat) {d : DV}, CVs w φ f vs cs ψ → cs.getD j .un = .own d → ∃ v, vs[j]? = some v ∧ ∃ ψ1 ψ2 ψ3, CVs w φ f (vs.take j) (cs.take j) ψ1 ∧ Rd true w [v] [d] ψ2 ∧
    CVs w φ f (vs.drop (j + 1)) (cs.drop (j + 1)) ψ3 ∧ ψ = ψ1 ++ (ψ2 ++ ψ3) := by
  intro vs cs ψ j d h
  induction h generalizing j with
  | nil => intro e; simp at e
  | @cons v c ψ0 vs cs ψs h1 h2 ih =>
    intro e
    cases j with
    | zero =>
      simp only [List.getD_cons_zero] at e
      subst e
      exact ⟨v, rfl, [], ψ0, ψs, .nil, h1, h2, rfl⟩
    | succ j =>
      simp only [List.getD_cons_succ] at e
      obtain ⟨u, e1, ψ1, ψ2, ψ3, k1, k2, k3, rfl⟩ := ih j e
      exact ⟨u, by simpa using e1, ψ0 ++ ψ1, ψ2, ψ3, .cons h1 k1, k2, k3, by simp⟩
theorem grab_sound (h : RelW φ w0 F0 sl fx ts fv w) (x : Operand) : ∃ φ' fx' fv', RelW φ' w0 F0 (grabO sl x) fx' ts fv' w := by
  cases x with
  | tmp t =>
    show ∃ φ' fx' fv', RelW φ' w0 F0 (grabT sl t) fx' ts fv' w
    unfold grabT
    split
    · rename_i s j ht
      split
      · rename_i cs hs
        split
        · rename_i d hd
          have hgt := gt_rel h t
          rw [ht] at hgt
          obtain ⟨-, hh⟩ := hgt
          have hg := gt_rel h s
          rw [hs] at hg
          obtain ⟨hroots, b0, c, el, ψs, h1, h2, h3, h4⟩ := hg
          obtain ⟨v, e1, ψ1, ψ2, ψ3, k1, k2, k3, rfl⟩ := h3.getSplit j hd
          have hv : valAt ts t = v := by
            rw [h1] at hh
            simp only [hdr, locOf] at hh
            split at hh
            · rename_i hb
              have e2 : w.cell? ⟨b0, 0 + j, none⟩ = some v := by
                simp only [World.cell?, h2]
                rw [Nat.zero_add]
                simpa using e1
              rw [e2] at hh
              simpa using hh.symm
            · cases hh
          have rts : ∀ c' ∈ cs.take j ++ (CV.un :: cs.drop (j + 1)), c'.roots = [] := fun c' hc' => by
            rcases List.mem_append.1 hc' with h' | h'
            · exact hroots c' (List.mem_of_mem_take h')
            · rcases List.mem_cons.1 h' with rfl | h'
              · rfl
              · exact hroots c' (List.mem_of_mem_drop h')
          obtain ⟨φ1, r1⟩ := h.splitOffB s (v := v) (x := .one (.cell (.own d))) (y := .box (cs.take j ++ (.un :: cs.drop (j + 1)))) (χ := ψ2) (ψ' := b0 :: (ψ1 ++ ([] ++ ψ3))) k2
            ⟨rts, b0, c, el, _, h1, h2, by
              have hlt : j < c.toList.length := (List.getElem?_eq_some_iff.1 e1).1
              have e3 : c.toList.take j ++ (v :: c.toList.drop (j + 1)) = c.toList := by
                have : c.toList[j] = v := (List.getElem?_eq_some_iff.1 e1).2
                rw [← this, ← List.drop_eq_getElem_cons hlt, List.take_append_drop]
              have := k1.append (CVs.cons (w := w) (φ := φ) (f := valAt ts) (v := v) (c := .un) (ψ := []) trivial k3)
              rwa [e3] at this, rfl⟩ (by
            simp only [SV.roots, List.mem_flatMap, not_exists, not_and]
            intro c' hc'
            rw [rts c' hc']
            simp) (by
            rw [h4]
            simp only [List.nil_append]
            refine (List.Perm.cons b0 (List.perm_append_comm_assoc ψ1 ψ2 ψ3)).trans ?_
            exact (List.perm_middle (a := b0) (l₁ := ψ2) (l₂ := ψ1 ++ ψ3)).symm)
          have ek : killSV s (SV.one (.cell (.own d))) = .one (.cell (.own d)) := by simp [killSV, SV.roots, RV.roots, CV.roots]
          rw [ek] at r1
          obtain ⟨φ2, r2⟩ := r1.land t
          have et : ts.setIfInBounds t v = ts := by
            apply Array.ext
            · simp
            · intro i hi1 hi2
              rw [Array.getElem_setIfInBounds]
              split
              · rename_i e; subst e
                rw [← hv]
                simp [valAt, hi2]
              · rfl
          rw [et] at r2
          exact ⟨φ2, _, _, r2⟩
        · exact ⟨φ, fx, fv, h⟩
      · exact ⟨φ, fx, fv, h⟩
    · exact ⟨φ, fx, fv, h⟩
  | _ => exact ⟨φ, fx, fv, h⟩
theorem grab_own {s : Nat} (h : ownForm (gt sl s) = true) : grabO sl (.tmp s) = sl := by
  unfold ownForm at h
  split at h
  · rename_i d e
    simp only [grabO, grabT, e]
  · cases h
/-- The cut of what is owned. -/
theorem cut_rdO {v : Value} {sz : Nat} {es : List DV} {bs : List Nat} (h : Rd true w [v] [.sl sz es] bs) {lo hi : Nat} (h1 : lo ≤ hi) (h2 : hi ≤ (DV.sl sz es).n) :
    ∃ a n cap, v = .slice a n cap ∧ (DV.sl sz es).n = n ∧ n ≤ cap ∧ ∃ χ rest, bs.Perm (χ ++ rest) ∧ Rd true w [.slice (if cap = lo then a else a.map (·.add (lo * sz))) (hi - lo) (cap - lo)] [cutD (.sl sz es) lo hi] χ := by
  rcases h.one with ⟨a, cap, rfl, rfl, rfl, hcap⟩ | ⟨b, off, n, cap, us, bs1, rfl, rfl, g1, g2, g3, g4, g5, g6, g7⟩
  · have hn : (DV.sl sz []).n = 0 := by rw [DV.n_eq]; simp
    rw [hn] at h2
    have e1 : hi = 0 := by omega
    have e2 : lo = 0 := by omega
    subst e1; subst e2
    refine ⟨a, 0, cap, rfl, hn, Nat.zero_le _, [], [], List.Perm.refl _, ?_⟩
    have : cutD (.sl sz []) 0 0 = .sl sz [] := by simp [cutD, DV.es, DV.sz]
    rw [this]
    exact Rd.e0 (fun _ => by have := hcap rfl; omega) .nil
  · have hn : (DV.sl sz es).n = n := by rw [DV.n_eq, g4]; exact Nat.mul_div_cancel _ g5
    rw [hn] at h2
    refine ⟨_, n, cap, rfl, hn, g6, ?_⟩
    by_cases hc : cap = lo
    · subst hc
      have e1 : hi = cap := by omega
      subst e1
      refine ⟨[], b :: bs1, List.Perm.refl _, ?_⟩
      have : cutD (.sl sz es) hi hi = .sl sz [] := by simp [cutD, DV.es, DV.sz]
      rw [this, Nat.sub_self]
      exact Rd.e0 (fun _ => rfl) .nil
    · rw [if_neg hc]
      obtain ⟨b1, b2, k1, k2, rfl⟩ := g7.split (hi * sz)
      obtain ⟨b3, b4, k3, k4, rfl⟩ := k1.split (lo * sz)
      refine ⟨b :: b4, b3 ++ b2, ?_, ?_⟩
      · refine List.Perm.cons b ?_
        rw [List.append_assoc]
        exact List.perm_append_comm_assoc b3 b4 b2
      · have hle : hi * sz ≤ n * sz := Nat.mul_le_mul_right _ h2
        have hll : lo * sz ≤ hi * sz := Nat.mul_le_mul_right _ h1
        have hlc : lo ≤ cap := by omega
        have hcz : off + lo * sz + (cap - lo) * sz = off + cap * sz := by
          have : lo * sz + (cap - lo) * sz = cap * sz := by rw [← Nat.add_mul]; congr 1; omega
          omega
        have := Rd.sl (o := true) (w := w) (b := b) (off := off + lo * sz) (n := hi - lo) (cap := cap - lo) (sz := sz) (us := (us.take (hi * sz)).drop (lo * sz)) (es := (es.take (hi * sz)).drop (lo * sz))
          (bs1 := b4) (vs := []) (ds := []) (bs2 := []) (fun k v hk => by
            rw [List.getElem?_drop, List.getElem?_take] at hk
            split at hk
            · rw [Nat.add_assoc]; exact g1 _ _ hk
            · cases hk) (fun _ => by rw [hcz]; exact g2 rfl) g3 (by
            rw [List.length_drop, List.length_take, g4, Nat.sub_mul, Nat.min_eq_left hle]) ⟨g5, by omega⟩ k4 .nil
        simpa [cutD, DV.es, DV.sz, Addr_add] using this
theorem cutMv_sound (hT : TbOk P tb) (h : RelW φ w0 F0 sl fx ts fv w) {ty t : TypeId} {s : Nat} {lo hi mx : Option Operand} {cs : List Prop} {x : SV} {sl' : Sl}
    (hx : cutMv tb sl ty t s lo hi mx = some (cs, x, sl')) (hc : ∀ p ∈ cs, p) :
    ∃ v φ', (Instr.sliceAt t (Act.eval ⟨ts, ds⟩ (.tmp s)) (lo.map (Act.eval ⟨ts, ds⟩)) (hi.map (Act.eval ⟨ts, ds⟩)) (mx.map (Act.eval ⟨ts, ds⟩))).run P w = .ok v w ∧ RelW φ' w0 F0 sl' x ts v w := by
  unfold cutMv at hx
  split at hx
  · rename_i d e hs hk
    split at hx
    · rename_i l hh hl hhe
      cases hx
      have bl := bound_eval (ds := ds) h hl
      have bh := bound_eval (ds := ds) h hhe
      have bl' : ((lo.map (Act.eval ⟨ts, ds⟩)) = none ∧ l = 0) ∨ ∃ k, lo.map (Act.eval ⟨ts, ds⟩) = some (.int k l) := by
        rcases bl with ⟨rfl, rfl⟩ | ⟨y, k, rfl, e⟩
        · exact .inl ⟨rfl, rfl⟩
        · exact .inr ⟨k, by simp [e]⟩
      have bh' : ∀ N : Int, (d.n : Int) = N → ((hi.map (Act.eval ⟨ts, ds⟩)) = none ∧ hh = N) ∨ ∃ k, hi.map (Act.eval ⟨ts, ds⟩) = some (.int k hh) := by
        rintro N rfl
        rcases bh with ⟨rfl, rfl⟩ | ⟨y, k, rfl, e⟩
        · exact .inl ⟨rfl, rfl⟩
        · exact .inr ⟨k, by simp [e]⟩
      have hg := gt_rel h s
      rw [hs] at hg
      have hg : Rd true w [valAt ts s] [d] (φ (some s)) := hg
      unfold cutC at hc
      split at hc
      · rename_i hsz
        have h0 : 0 ≤ l := hc _ (by simp)
        have h1 : l ≤ hh := hc _ (by simp)
        have h2 : hh ≤ d.n := hc _ (by simp)
        have hsz : d.sz = (tb e).size ∧ 0 < (tb e).size := by simpa using hsz
        cases d with
        | val u => simp only [DV.sz] at hsz; omega
        | sl sz es =>
          obtain ⟨hsz, hpos⟩ := hsz
          simp only [DV.sz] at hsz
          obtain ⟨a, n, cap, hv', hn, hcap, χ, rest, hp, g1⟩ := cut_rdO hg (lo := l.toNat) (hi := hh.toNat) (by omega) (by omega)
          have hrun := cut_run (w := w) hT hk (not_other hT hpos) (a := a) bl' (bh' n (by rw [hn])) h0 h1 (by rw [← hn]; exact h2) hcap
          obtain ⟨φ', hr⟩ := h.splitOff s (x := .one (.cell (.own (cutD (.sl sz es) l.toNat hh.toNat)))) (y := .dead) (χ := χ) (ψ' := rest) g1 trivial hp
          have ek : killSV s (SV.one (.cell (.own (cutD (.sl sz es) l.toNat hh.toNat)))) = .one (.cell (.own (cutD (.sl sz es) l.toNat hh.toNat))) := by simp [killSV, SV.roots, RV.roots, CV.roots]
          rw [ek] at hr
          have ev : Act.eval ⟨ts, ds⟩ (.tmp s) = valAt ts s := rfl
          refine ⟨_, φ', by rw [ev, hv']; exact hrun, ?_⟩
          rw [← hsz]
          exact hr
      · exact (hc False (by simp)).elim
    · cases hx
  · cases hx
end
end Go.Proofs.Ytlffmhhdgedddaa.DL
