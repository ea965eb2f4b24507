/- The data level, part 7: loads, addresses, arithmetic. -/
import Derived.Test.YtckcehmggdnliaaL6
namespace Go.Proofs.Ytckcehmggdnliaa.DL
open Go Go.RowKit

theorem hdr_append (w : World) (F : List Nat) : ∀ (p q : List Nat) (v : Value), hdr w F v (p ++ q) = (hdr w F v p).bind fun u => hdr w F u q
  | [], q, v => rfl
  | j :: p, q, v => by
    simp only [List.cons_append, hdr]
    cases hl : locOf v with
    | none => rfl
    | some bo =>
      obtain ⟨b, o⟩ := bo
      dsimp only
      split
      · cases w.cell? ⟨b, o + j, none⟩ with
        | none => rfl
        | some u => simp only [Option.bind_some]; exact hdr_append w F p q u
      · rfl

theorem Rd.one {o : Bool} {w : World} {v : Value} {sz : Nat} {es : List DV} {bs : List Nat} (h : Rd o w [v] [.sl sz es] bs) :
    (∃ a cap, v = .slice a 0 cap ∧ es = [] ∧ bs = [] ∧ (o = true → cap = 0)) ∨
    ∃ b off n cap us bs1, v = .slice (some ⟨b, off, none⟩) n cap ∧ bs = b :: bs1 ∧ w.rangeAt b off us ∧ (o = true → OwnRow w b (off + cap * sz)) ∧ b < w.heap.size ∧ es.length = n * sz ∧ 0 < sz ∧ n ≤ cap ∧ Rd o w us es bs1 := by
  cases h with
  | e0 h hr =>
    cases hr
    exact .inl ⟨_, _, rfl, rfl, rfl, h⟩
  | sl h1 h2 h3 h4 h5 h6 hr =>
    cases hr
    exact .inr ⟨_, _, _, _, _, _, rfl, by simp, h1, h2, h3, h4, h5.1, h5.2, h6⟩

theorem Rd.path {w : World} {F : List Nat} : ∀ (p : List Nat) {v : Value} {d : DV} {bs : List Nat}, Rd true w [v] [d] bs → (∀ b ∈ bs, b ∈ F) → d.InP p →
    ∃ u χ, hdr w F v p = some u ∧ Rd true w [u] [d.getP p] χ ∧ ∀ b ∈ χ, b ∈ bs
  | [], v, d, bs, h, _, _ => ⟨v, bs, rfl, h, fun _ hb => hb⟩
  | j :: p, v, d, bs, h, hF, hp => by
    obtain ⟨hj, hp⟩ := hp
    cases d with
    | val u => simp [DV.es] at hj
    | sl sz es =>
      simp only [DV.es] at hj hp
      rcases h.one with ⟨a, cap, rfl, rfl, _⟩ | ⟨b, off, n, cap, us, bs1, rfl, rfl, h1, h2, h3, h4, h5, h6, h7⟩
      · simp at hj
      · have hju : j < us.length := by rw [h7.length]; exact hj
        obtain ⟨d', hd', b1, b2, b3, _, hr, _, rfl⟩ := h7.get (j := j) (v := us[j]) (List.getElem?_eq_getElem hju)
        have hd : es.getD j dfl = d' := by simp [List.getD, hd']
        rw [hd] at hp
        obtain ⟨u, χ, g1, g2, g3⟩ := Rd.path p hr (fun b hb => hF b (by simp [hb])) hp
        refine ⟨u, χ, ?_, ?_, fun b hb => by simp [g3 b hb]⟩
        · simp only [hdr, locOf]
          rw [if_pos (hF b (by simp)), h1 j us[j] (List.getElem?_eq_getElem hju)]
          exact g1
        · simp only [DV.getP, DV.es]
          rw [hd]
          exact g2

theorem CVs.get {w : World} {φ : Option Nat → List Nat} {f : Nat → Value} {vs : List Value} {cs : List CV} {ψ : List Nat} (h : CVs w φ f vs cs ψ) {j : Nat} {c : CV} (hj : cs[j]? = some c) :
    ∃ v χ, vs[j]? = some v ∧ CVRel w φ f v χ c ∧ ∀ b ∈ χ, b ∈ ψ := by
  induction h generalizing j with
  | nil => simp at hj
  | cons h1 _ ih =>
    cases j with
    | zero =>
      simp only [List.getElem?_cons_zero, Option.some.injEq] at hj
      subst hj
      exact ⟨_, _, rfl, h1, fun b hb => List.mem_append_left _ hb⟩
    | succ j =>
      simp only [List.getElem?_cons_succ] at hj
      obtain ⟨v, χ, g1, g2, g3⟩ := ih hj
      exact ⟨v, χ, by simpa using g1, g2, fun b hb => List.mem_append_right _ (g3 b hb)⟩

theorem CVs.len {w : World} {φ : Option Nat → List Nat} {f : Nat → Value} {vs : List Value} {cs : List CV} {ψ : List Nat} (h : CVs w φ f vs cs ψ) : vs.length = cs.length := by
  induction h with
  | nil => rfl
  | cons _ _ ih => simp [ih]

/-- Typed data of a cell in memory that nobody writes, or that is owned at the place that sl tells. -/
theorem typed_rel {w : World} {φ : Option Nat → List Nat} {f : Nat → Value} {u : Value} {z : CV} {d : DV} {o : Bool} {χ : List Nat} {mk : DV → CV}
    (hr : Rd o w [u] [d] χ) (hc : ∀ c ∈ (typed z d mk).1, c) (hm : ∀ sz, d = .sl sz d.es → CVRel w φ f u [] (mk (.sl sz d.es))) : CVRel w φ f u [] (typed z d mk).2 := by
  unfold typed at *
  split at hc
  · have hc : d.isI _ := hc _ (List.mem_singleton.2 rfl)
    unfold DV.isI at hc
    rw [hc] at hr
    cases hr with
    | sc h1 h2 => exact ⟨rfl, rfl, rfl⟩
  · have hc : d.isB := hc _ (by simp)
    unfold DV.isB at hc
    rw [hc] at hr
    cases hr with
    | sc h1 h2 => exact ⟨rfl, rfl, rfl⟩
  · have hc : d.isS := hc _ (by simp)
    unfold DV.isS at hc
    rw [hc] at hr
    cases hr with
    | sc h1 h2 => exact ⟨rfl, rfl, rfl⟩
  · have hc : d.isL _ := hc _ (List.mem_singleton.2 rfl)
    exact hm _ hc
  · exact (hc False (by simp)).elim

section
variable {P : Program} {tb : Tb} {φ : Option Nat → List Nat} {w0 w w' : World} {F0 : List Nat} {sl : Sl} {fx : SV} {ts : Array Value} {fv : Value} {ds : List Deferred}

theorem hdr_last {F : List Nat} {v h u : Value} {q : List Nat} {j b o : Nat} (hh : hdr w F v q = some h) (hl : locOf h = some (b, o)) (hu : hdr w F v (q ++ [j]) = some u) :
    w.cell? ⟨b, o + j, none⟩ = some u := by
  rw [hdr_append, hh] at hu
  simp only [Option.bind_some, hdr, hl] at hu
  split at hu
  · cases hc : w.cell? ⟨b, o + j, none⟩ with
    | none => simp [hc] at hu
    | some x => simpa [hc] using hu
  · cases hu

/-- One cell, loaded from a place. -/
theorem loadC_sound (h : RelW φ w0 F0 sl fx ts fv w) {s : Nat} {q : List Nat} {j : Nat} {z c : CV} {cs : List Prop} {hv : Value} {b o : Nat}
    (hh : hdr w (φ (some s)) (valAt ts s) q = some hv) (hl : locOf hv = some (b, o))
    (hx : loadC s (q ++ [j]) z (gt sl s) = some (cs, c)) (hc : ∀ p ∈ cs, p) : ∃ u, w.cell? ⟨b, o + j, none⟩ = some u ∧ CVRel w φ (valAt ts) u [] c := by
  have hr := gt_rel h s
  unfold loadC at hx
  generalize gt sl s = x at *
  have viaOwn : ∀ (d : DV) (v1 : Value) (ψ1 : List Nat) (p : List Nat), Rd true w [v1] [d] ψ1 → (∀ b ∈ ψ1, b ∈ φ (some s)) → hdr w (φ (some s)) (valAt ts s) (q ++ [j]) = hdr w (φ (some s)) v1 p → d.InP p →
      (∀ pr ∈ (typed z (d.getP p) (.ref s (q ++ [j]))).1, pr) → c = (typed z (d.getP p) (.ref s (q ++ [j]))).2 → ∃ u, w.cell? ⟨b, o + j, none⟩ = some u ∧ CVRel w φ (valAt ts) u [] c := by
    intro d v1 ψ1 p h1 h2 h3 h4 h5 h6
    obtain ⟨u, χ, g1, g2, g3⟩ := Rd.path p h1 h2 h4
    rw [← h3] at g1
    refine ⟨u, hdr_last hh hl g1, ?_⟩
    rw [h6]
    refine typed_rel g2 h5 fun sz hsz => ⟨rfl, g1, χ, ?_, fun b hb => h2 b (g3 b hb)⟩
    rw [← hsz]
    exact g2.weaken
  cases x with
  | one r =>
    cases r with
    | agg cs' => simp [getAt] at hx
    | cell c' =>
      cases c' with
      | own d =>
        simp only [getAt, Option.some.injEq, Prod.mk.injEq] at hx
        obtain ⟨rfl, rfl⟩ := hx
        have hp := hc _ (List.mem_cons_self ..)
        exact viaOwn d (valAt ts s) _ (q ++ [j]) hr (fun _ hb => hb) rfl hp (fun p hp => hc p (List.mem_cons_of_mem _ hp)) rfl
      | _ => simp [getAt] at hx
  | box cs' =>
    obtain ⟨-, b', c', el, ψs, h1, h2, h3, h4⟩ := hr
    cases q with
    | nil =>
      simp only [hdr, Option.some.injEq] at hh
      subst hh
      rw [h1] at hl
      simp only [locOf, Option.some.injEq, Prod.mk.injEq] at hl
      obtain ⟨rfl, rfl⟩ := hl
      simp only [List.nil_append, getAt] at hx
      have hcell : w.cell? ⟨b', 0 + j, none⟩ = c'[j]? := by simp [World.cell?, h2]
      cases hj : cs'[j]? with
      | none => simp [List.getD, hj] at hx
      | some c0 =>
        obtain ⟨u, χ, g1, g2, g3⟩ := h3.get hj
        simp only [List.getD, hj, Option.getD_some] at hx
        refine ⟨u, by rw [hcell]; simpa using g1, ?_⟩
        cases c0 with
        | un => simp at hx
        | sc u' => simp at hx; rw [← hx.2]; exact ⟨g2.1, g2.2.1, rfl⟩
        | rd d => simp at hx; rw [← hx.2]; exact ⟨rfl, g2.2⟩
        | own d =>
          simp at hx
          rw [← hx.2]
          refine ⟨rfl, ?_⟩
          simp only [hdr, h1, locOf]
          rw [if_pos (by rw [h4]; exact List.mem_cons_self ..), hcell]
          have : c'[j]? = some u := by simpa using g1
          rw [this]; rfl
        | ref s' p' d' => simp at hx
        | sub s' p' l' d' => simp at hx
        | nb es => simp at hx
        | hd s' p' => simp at hx
    | cons i q =>
      simp only [List.cons_append, getAt] at hx
      cases hj : cs'[i]? with
      | none => simp [List.getD, hj] at hx
      | some c0 =>
        obtain ⟨u1, χ1, g1, g2, g3⟩ := h3.get hj
        simp only [List.getD, hj, Option.getD_some] at hx
        cases c0 with
        | own d =>
          have hx' : some (placeOk (.box cs') (i :: (q ++ [j])) :: (typed z (d.getP (q ++ [j])) (.ref s (i :: (q ++ [j])))).1, (typed z (d.getP (q ++ [j])) (.ref s (i :: (q ++ [j])))).2) = some (cs, c) := by
            rw [← hx]
            cases q <;> rfl
          simp only [Option.some.injEq, Prod.mk.injEq] at hx'
          obtain ⟨rfl, rfl⟩ := hx'
          have hp := hc _ (List.mem_cons_self ..)
          simp only [placeOk, List.getD, hj, Option.getD_some] at hp
          refine viaOwn d u1 χ1 (q ++ [j]) g2 (fun b hb => by rw [h4]; exact List.mem_cons_of_mem _ (g3 b hb)) ?_ hp.2 (fun p hp => hc p (List.mem_cons_of_mem _ hp)) rfl
          simp only [List.cons_append, hdr, h1, locOf]
          rw [if_pos (by rw [h4]; exact List.mem_cons_self ..)]
          have hcell : w.cell? ⟨b', 0 + i, none⟩ = some u1 := by simp [World.cell?, h2]; simpa using g1
          rw [hcell]; rfl
        | _ => cases q <;> simp at hx
  | _ => simp [getAt] at hx

theorem loadCs_sound (h : RelW φ w0 F0 sl fx ts fv w) {s : Nat} {q : List Nat} {hv : Value} {b o : Nat}
    (hh : hdr w (φ (some s)) (valAt ts s) q = some hv) (hl : locOf hv = some (b, o)) :
    ∀ (zs : List CV) (j : Nat) (cs : List Prop) (xs : List CV), loadCs (gt sl s) s q j zs = some (cs, xs) → (∀ p ∈ cs, p) →
      ∃ us, us.length = zs.length ∧ w.rangeAt b (o + j) us ∧ CVs w φ (valAt ts) us xs []
  | [], j, cs, xs, hx, _ => by
    simp only [loadCs, Option.some.injEq, Prod.mk.injEq] at hx
    rw [← hx.2]
    exact ⟨[], rfl, fun k v hk => by simp at hk, .nil⟩
  | z :: zs, j, cs, xs, hx, hc => by
    simp only [loadCs] at hx
    split at hx
    · rename_i c v cs' vs h1 h2
      simp only [Option.some.injEq, Prod.mk.injEq] at hx
      obtain ⟨rfl, rfl⟩ := hx
      obtain ⟨u, g1, g2⟩ := loadC_sound h hh hl h1 fun p hp => hc p (List.mem_append_left _ hp)
      obtain ⟨us, g3, g4, g5⟩ := loadCs_sound h hh hl zs (j + 1) cs' vs h2 fun p hp => hc p (List.mem_append_right _ hp)
      refine ⟨u :: us, by simp [g3], fun k v hk => ?_, by simpa using CVs.cons g2 g5⟩
      cases k with
      | zero => simp at hk; subst hk; simpa using g1
      | succ k =>
        have := g4 k v (by simpa using hk)
        rw [← this]
        congr 2
        omega
    · cases hx

theorem loadRs_sound {vs : List Value} {es : List DV} {bs : List Nat} (hr : Rd false w vs es bs) (hb : ∀ b ∈ bs, ∀ t, b ∉ φ t) :
    ∀ (zs : List CV), zs.length ≤ es.length → (∀ p ∈ (loadRs es zs).1, p) → CVs w φ (valAt ts) (vs.take zs.length) (loadRs es zs).2 [] := by
  intro zs
  induction zs generalizing vs es bs with
  | nil => intro _ _; simpa [loadRs] using CVs.nil
  | cons z zs ih =>
    intro hl hc
    cases es with
    | nil => simp at hl
    | cons d es =>
      cases vs with
      | nil => have := hr.length; simp at this
      | cons v vs =>
        obtain ⟨b1, b2, h1, h2, rfl⟩ := hr.split 1
        simp only [List.take_succ_cons, List.take_zero, List.drop_succ_cons, List.drop_zero] at h1 h2
        simp only [loadRs, List.tail_cons] at hc ⊢
        have hd : hdD (d :: es) = d := rfl
        rw [hd] at hc ⊢
        have := CVs.cons (typed_rel (φ := φ) (f := valAt ts) h1 (fun p hp => hc p (List.mem_append_left _ hp)) fun sz hsz =>
          ⟨rfl, b1, by rw [← hsz]; exact h1, fun b hb' => hb b (List.mem_append_left _ hb')⟩)
          (ih h2 (fun b hb' => hb b (List.mem_append_right _ hb')) (by simpa using hl) fun p hp => hc p (List.mem_append_right _ hp))
        simpa using this

end

end Go.Proofs.Ytckcehmggdnliaa.DL
