/- The data level, part 12: what a store does to owned memory. -/
import Derived.Test.YtckcehmggdnliaaL11
namespace Go.Proofs.Ytckcehmggdnliaa.DL
open Go Go.RowKit

theorem setRange_eq {α : Type} : ∀ (new l : List α) (j : Nat), j + new.length ≤ l.length → setRange l j new = l.take j ++ new ++ l.drop (j + new.length)
  | [], l, j, _ => by simp [setRange]
  | x :: xs, l, j, h => by
    simp only [List.length_cons] at h
    simp only [setRange]
    rw [setRange_eq xs (l.set j x) (j + 1) (by simp; omega)]
    have hj : j < l.length := by omega
    have e1 : (l.set j x).take (j + 1) = l.take j ++ [x] := by
      rw [List.take_set, List.take_succ_eq_append_getElem hj, List.set_append]
      simp [Nat.min_eq_left (Nat.le_of_lt hj)]
    have e2 : (l.set j x).drop (j + 1 + xs.length) = l.drop (j + (x :: xs).length) := by
      rw [List.drop_set]
      rw [if_pos (by omega)]
      congr 1
      simp; omega
    rw [e1, e2]
    simp

theorem setRange_length {α : Type} : ∀ (new l : List α) (j : Nat), (setRange l j new).length = l.length
  | [], _, _ => rfl
  | x :: xs, l, j => by simp only [setRange]; rw [setRange_length xs]; simp

theorem setCells_block {b : Nat} {el : TypeId} {fz : Nat × Nat} : ∀ (us : List Value) (o : Nat) {w : World} {c : Array Value}, w.heap[b]? = some (.cells c el fz) →
    (w.setCells b o us).heap[b]? = some (.cells (setRange c.toList o us).toArray el fz)
  | [], o, w, c, h => by simpa [World.setCells, setRange] using h
  | u :: us, o, w, c, h => by
    have h1 : (w.setCell ⟨b, o, none⟩ u).heap[b]? = some (.cells (c.setIfInBounds o u) el fz) := by
      simp only [World.setCell, Array.getElem?_modify, if_true, h]
      rfl
    have := setCells_block us (o + 1) h1
    rw [World.setCells, this]
    simp [setRange]

theorem setCells_ext (w : World) (b o : Nat) (us : List Value) : Ext [b] w (w.setCells b o us) := by
  induction us generalizing w o with
  | nil => exact Ext.refl _ _
  | cons u us ih =>
    refine Ext.trans (b := w.setCell ⟨b, o, none⟩ u) ⟨rfl, rfl, rfl, by simp [World.setCell], fun k _ hn => Below.heap_setCell _ _ _ _ (by simpa using hn)⟩ ?_
    exact ih _ _

theorem Rd.setRange {w : World} {o : Bool} {vs us : List Value} {es new : List DV} {bs χ : List Nat} (h : Rd o w vs es bs) {j : Nat} (hj : j + new.length ≤ es.length) (hn : Rd o w us new χ) :
    ∃ bs', Rd o w (DL.setRange vs j us) (DL.setRange es j new) bs' ∧ ∃ dr, (bs ++ χ).Perm (bs' ++ dr) := by
  have hl : us.length = new.length := hn.length
  obtain ⟨b1, b2, h1, h2, rfl⟩ := h.split j
  obtain ⟨b3, b4, h3, h4, rfl⟩ := h2.split new.length
  refine ⟨b1 ++ χ ++ b4, ?_, b3, ?_⟩
  · rw [setRange_eq _ _ _ hj, setRange_eq us vs j (by rw [h.length, hl]; exact hj), hl]
    rw [List.drop_drop, List.drop_drop] at h4
    exact (h1.append hn).append h4
  · have : (b1 ++ (b3 ++ b4) ++ χ).Perm (b1 ++ (χ ++ (b4 ++ b3))) := by
      rw [List.append_assoc]
      refine List.Perm.append_left b1 ?_
      refine List.perm_append_comm.trans ?_
      exact List.Perm.append_left χ List.perm_append_comm
    simpa [List.append_assoc] using this

/-- Cells in the container at the end of a way are overwritten. -/
theorem Rd.store {w : World} {F : List Nat} {us : List Value} {new : List DV} {χ : List Nat} {j b o : Nat} (hn : Rd true w us new χ) (hpos : 0 < new.length) (hχn : χ.Nodup) :
    ∀ (q : List Nat) {v hv : Value} {d : DV} {ψ : List Nat}, Rd true w [v] [d] ψ → ψ.Nodup → (∀ x ∈ χ, x ∉ ψ) → hdr w F v q = some hv → locOf hv = some (b, o) → d.InP q → j + new.length ≤ (d.getP q).es.length →
      w.there b (o + j) us.length ∧ b ∈ ψ ∧ ∃ ψ', Rd true (w.setCells b (o + j) us) [v] [d.modP (fun es => DL.setRange es j new) q] ψ' ∧ ψ'.Nodup ∧ ∀ x ∈ ψ', x ∈ ψ ∨ x ∈ χ
  | [], v, hv, d, ψ, h, hnd, hdj, hh, hl, _, hle => by
    simp only [hdr, Option.some.injEq] at hh
    subst hh
    simp only [DV.getP] at hle
    cases d with
    | val u =>
      have hle' : j + new.length ≤ 0 := hle
      omega
    | sl sz es =>
      simp only [DV.es] at hle
      have hul : us.length = new.length := hn.length
      rcases h.one with ⟨a, cap, rfl, rfl, _⟩ | ⟨b', off, n, cap, us0, bs1, rfl, rfl, g1, g2, g3, g4, g5, g6, g7⟩
      · have hle' : j + new.length ≤ 0 := hle
        omega
      · simp only [locOf, Option.some.injEq, Prod.mk.injEq] at hl
        obtain ⟨rfl, rfl⟩ := hl
        obtain ⟨c, el, hc, hm⟩ := g2 rfl
        obtain ⟨hb, hnd1⟩ := List.nodup_cons.1 hnd
        have h0 : us0.length = es.length := g7.length
        have there : w.there b' (off + j) us.length := fun k hk => by
          have hk' : j + k < us0.length := by omega
          have := g1 (j + k) _ (List.getElem?_eq_getElem hk')
          rw [Nat.add_assoc, this]
          refine ⟨rfl, ?_⟩
          simp only [World.frozen?, hc]
          simp
        refine ⟨there, List.mem_cons_self .., ?_⟩
        obtain ⟨ψ1, k1, dr, k2⟩ := g7.setRange (j := j) hle hn
        have hnd2 : (bs1 ++ χ).Nodup := List.nodup_append.2 ⟨hnd1, hχn, fun x hx y hy e => hdj y hy (by rw [← e]; exact List.mem_cons_of_mem _ hx)⟩
        have hnd3 := (k2.nodup_iff).1 hnd2
        have hin : ∀ x ∈ ψ1, x ∈ bs1 ∨ x ∈ χ := fun x hx => by
          have := (k2.mem_iff (a := x)).2 (List.mem_append_left _ hx)
          simpa using this
        have hbψ : b' ∉ ψ1 := fun hx => by
          rcases hin b' hx with h' | h'
          · exact hb h'
          · exact hdj b' h' (List.mem_cons_self ..)
        refine ⟨b' :: ψ1, ?_, List.nodup_cons.2 ⟨hbψ, (List.nodup_append.1 hnd3).1⟩, fun x hx => ?_⟩
        · have hx := setCells_ext w b' (off + j) us
          have hs := setCells_block (b := b') (w := w) (c := c) us (off + j) hc
          have := Rd.sl (o := true) (w := w.setCells b' (off + j) us) (b := b') (off := off) (n := n) (cap := cap) (sz := sz) (us := DL.setRange us0 j us) (es := DL.setRange es j new) (bs1 := ψ1)
            (vs := []) (ds := []) (bs2 := []) (fun k x hk => by
              rw [setRange_eq us us0 j (by omega)] at hk
              by_cases h1 : k < j
              · rw [World.cell?_setCells_out _ _ _ _ _ (fun _ _ => .inl (by show off + k < off + j; omega))]
                refine g1 k x ?_
                rw [List.append_assoc, List.getElem?_append_left (by simp; omega), List.getElem?_take, if_pos h1] at hk
                exact hk
              · by_cases h2 : k < j + us.length
                · have := World.cell?_setCells_in b' us (off + j) w (fun i hi => (there i hi).1) (k - j) (by omega)
                  rw [show off + j + (k - j) = off + k by omega] at this
                  rw [this]
                  rw [List.append_assoc, List.getElem?_append_right (by simp; omega), List.getElem?_append_left (by simp; omega)] at hk
                  rw [← hk]
                  rw [List.getElem?_eq_getElem (by simp; omega)]
                  congr 2
                  simp; omega
                · rw [World.cell?_setCells_out _ _ _ _ _ (fun _ _ => .inr (by show off + j + us.length ≤ off + k; omega))]
                  refine g1 k x ?_
                  rw [List.getElem?_append_right (by simp; omega), List.getElem?_drop] at hk
                  rw [← hk]
                  congr 1
                  simp; omega)
            (fun _ => ⟨_, el, hs, by simp [setRange_length]; exact hm⟩) (Nat.lt_of_lt_of_le g3 hx.size) (by rw [setRange_length]; exact g4) ⟨g5, g6⟩
            (k1.frame hx.size fun x hx' => hx.block x (k1.lt x hx') (by simp; intro e; exact hbψ (e ▸ hx'))) .nil
          simpa [DV.modP] using this
        · rcases List.mem_cons.1 hx with rfl | hx
          · exact .inl (List.mem_cons_self ..)
          · exact (hin x hx).imp (List.mem_cons_of_mem _) id
  | i :: q, v, hv, d, ψ, h, hnd, hdj, hh, hl, hp, hle => by
    obtain ⟨hi, hp⟩ := hp
    cases d with
    | val u => simp [DV.es] at hi
    | sl sz es =>
      simp only [DV.es] at hi hp
      rcases h.one with ⟨a, cap, rfl, rfl, _⟩ | ⟨b1, off, n, cap, us1, bs1, rfl, rfl, g1, g2, g3, g4, g5, g6, g7⟩
      · simp at hi
      · have hiu : i < us1.length := by rw [g7.length]; exact hi
        obtain ⟨d', hd', c1, c2, c3, k1, k2, k3, rfl⟩ := g7.get (j := i) (v := us1[i]) (List.getElem?_eq_getElem hiu)
        have hd : es.getD i dfl = d' := by simp [List.getD, hd']
        rw [hd] at hp
        simp only [DV.getP, DV.es, hd] at hle
        simp only [hdr, locOf] at hh
        split at hh
        · rw [g1 i us1[i] (List.getElem?_eq_getElem hiu)] at hh
          simp only [Option.bind_some] at hh
          obtain ⟨hb1, hnd1⟩ := List.nodup_cons.1 hnd
          have hndc := List.nodup_append.1 hnd1
          have hndc2 := List.nodup_append.1 hndc.2.1
          obtain ⟨there, hbin, ψ', m1, m2, m3⟩ := Rd.store hn hpos hχn q k2 hndc2.1 (fun x hx hx' => hdj x hx (by simp [hx'])) hh hl hp hle
          refine ⟨there, by simp [hbin], b1 :: (c1 ++ ψ' ++ c3), ?_, ?_, fun x hx => ?_⟩
          · have hx := setCells_ext w b (o + j) us
            have ne1 : b1 ≠ b := fun e => hb1 (by rw [e]; simp [hbin])
            have hk1 : w.setCells b (o + j) us = w.setCells b (o + j) us := rfl
            have f1 : Rd true (w.setCells b (o + j) us) (us1.take i) (es.take i) c1 := k1.frame hx.size fun x hx' => hx.block x (k1.lt x hx') (by
              simp; intro e; exact hndc.2.2 x hx' b (by simp [hbin]) e)
            have f3 : Rd true (w.setCells b (o + j) us) (us1.drop (i + 1)) (es.drop (i + 1)) c3 := k3.frame hx.size fun x hx' => hx.block x (k3.lt x hx') (by
              simp; intro e; exact hndc2.2.2 b hbin x hx' e.symm)
            have f := (f1.append m1).append f3
            have e1 : us1.take i ++ [us1[i]] ++ us1.drop (i + 1) = us1 := by simp
            have e2 : es.take i ++ [d'.modP (fun es => DL.setRange es j new) q] ++ es.drop (i + 1) = es.set i (d'.modP (fun es => DL.setRange es j new) q) := by
              rw [List.set_eq_take_append_cons_drop, if_pos hi]; simp
            rw [e1, e2] at f
            have hblk : (w.setCells b (o + j) us).heap[b1]? = w.heap[b1]? := heap_setCells b us _ w b1 ne1
            have := Rd.sl (o := true) (w := w.setCells b (o + j) us) (b := b1) (off := off) (n := n) (cap := cap) (sz := sz) (us := us1) (es := es.set i (d'.modP (fun es => DL.setRange es j new) q))
              (bs1 := c1 ++ ψ' ++ c3) (vs := []) (ds := []) (bs2 := []) (rangeAt_block hblk g1) (fun h => by
                obtain ⟨c, el, e1, e2⟩ := g2 h
                exact ⟨c, el, hblk.trans e1, e2⟩) (Nat.lt_of_lt_of_le g3 hx.size) (by simpa using g4) ⟨g5, g6⟩ f .nil
            simp only [DV.modP, hd]
            simpa using this
          · refine List.nodup_cons.2 ⟨fun hx => ?_, ?_⟩
            · simp only [List.append_assoc, List.mem_append] at hx
              rcases hx with hx | hx | hx
              · exact hb1 (by simp [hx])
              · rcases m3 _ hx with h' | h'
                · exact hb1 (by simp [h'])
                · exact hdj _ h' (List.mem_cons_self ..)
              · exact hb1 (by simp [hx])
            · rw [List.append_assoc]
              refine List.nodup_append.2 ⟨hndc.1, List.nodup_append.2 ⟨m2, hndc2.2.1, fun x hx y hy e => ?_⟩, fun x hx y hy e => ?_⟩
              · rcases m3 x hx with h' | h'
                · exact hndc2.2.2 x h' y hy e
                · exact hdj x h' (by rw [e]; simp [hy])
              · rcases List.mem_append.1 hy with hy | hy
                · rcases m3 y hy with h' | h'
                  · exact hndc.2.2 x hx y (by simp [h']) e
                  · exact hdj y h' (by rw [← e]; simp [hx])
                · exact hndc.2.2 x hx y (by simp [hy]) e
          · simp only [List.mem_cons, List.append_assoc, List.mem_append] at hx
            rcases hx with rfl | hx | hx | hx
            · exact .inl (List.mem_cons_self ..)
            · exact .inl (by simp [hx])
            · rcases m3 _ hx with h' | h'
              · exact .inl (by simp [h'])
              · exact .inr h'
            · exact .inl (by simp [hx])
        · cases hh

end Go.Proofs.Ytckcehmggdnliaa.DL
