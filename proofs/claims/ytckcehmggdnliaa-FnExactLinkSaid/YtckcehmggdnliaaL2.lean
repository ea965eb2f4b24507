/- The data level, part 2: what a frame's slots are known to hold, and how that is kept. -/
import Derived.Test.YtckcehmggdnliaaL1
namespace Go.Proofs.Ytckcehmggdnliaa.DL
open Go Go.RowKit

/-- What is known of one cell: nothing; this very scalar; readable and written by nobody; owned; the header that lies at a place (s: slot, p: the way down from it); a cut of such a header;
a truth that, where it holds, tells that es is empty; the header at a place, and no more. -/
inductive CV where
  | un
  | sc (v : Value)
  | rd (d : DV)
  | own (d : DV)
  | ref (s : Nat) (p : List Nat) (d : DV)
  | sub (s : Nat) (p : List Nat) (lo : Nat) (d : DV)
  | nb (es : List DV)
  | hd (s : Nat) (p : List Nat)

inductive RV where
  | cell (c : CV)
  | agg (cs : List CV)

inductive SV where
  | dead
  | und
  | one (r : RV)
  | tup (rs : List RV)
  | box (cs : List CV)
  | ptr (s : Nat) (q : List Nat) (j : Nat)
  | rptr (ds : List DV)
  | cloR (f : FuncId) (caps : List (List DV))
  | cloS (f : FuncId) (ss : List Nat)

def CV.roots : CV → List Nat
  | .ref s _ _ | .sub s _ _ _ | .hd s _ => [s]
  | _ => []

def locOf : Value → Option (Nat × Nat)
  | .pointer (some ⟨b, o, none⟩) => some (b, o)
  | .slice (some ⟨b, o, none⟩) _ _ => some (b, o)
  | _ => none

/-- The value at the end of a way down, over blocks of F alone. -/
def hdr (w : World) (F : List Nat) : Value → List Nat → Option Value
  | v, [] => some v
  | v, j :: p =>
    match locOf v with
    | some (b, o) => if b ∈ F then (w.cell? ⟨b, o + j, none⟩).bind fun u => hdr w F u p else none
    | none => none

def valAt (ts : Array Value) (t : Nat) : Value := ts.getD t undef

section
variable (w : World) (φ : Option Nat → List Nat) (f : Nat → Value)
def CVRel (v : Value) (ψ : List Nat) : CV → Prop
  | .un => True
  | .sc u => v = u ∧ isSc u = true ∧ ψ = []
  | .rd d => ψ = [] ∧ ∃ bs, Rd false w [v] [d] bs ∧ ∀ b ∈ bs, ∀ t, b ∉ φ t
  | .own d => Rd true w [v] [d] ψ
  | .ref s p d => ψ = [] ∧ hdr w (φ (some s)) (f s) p = some v ∧ ∃ bs, Rd false w [v] [d] bs ∧ ∀ b ∈ bs, b ∈ φ (some s)
  | .sub s p lo d => ψ = [] ∧ ∃ a n cap a' n' cap' bs, hdr w (φ (some s)) (f s) p = some (.slice a n cap) ∧ v = .slice a' n' cap' ∧
      (0 < n' → ∃ b o, a = some ⟨b, o, none⟩ ∧ a' = some ⟨b, o + lo, none⟩) ∧ Rd false w [v] [d] bs ∧ ∀ b ∈ bs, b ∈ φ (some s)
  | .nb es => ψ = [] ∧ ∃ b, v = .bool b ∧ (b = true → es = [])
  | .hd s p => ψ = [] ∧ hdr w (φ (some s)) (f s) p = some v

inductive CVs : List Value → List CV → List Nat → Prop
  | nil : CVs [] [] []
  | cons {v : Value} {c : CV} {ψ : List Nat} {vs : List Value} {cs : List CV} {ψs : List Nat} : CVRel w φ f v ψ c → CVs vs cs ψs → CVs (v :: vs) (c :: cs) (ψ ++ ψs)

def RVRel (v : Value) (ψ : List Nat) : RV → Prop
  | .cell c => CVRel w φ f v ψ c
  | .agg cs => ∃ vs : Array Value, v = .agg vs ∧ CVs w φ f vs.toList cs ψ

inductive RVs : List Value → List RV → List Nat → Prop
  | nil : RVs [] [] []
  | cons {v : Value} {r : RV} {ψ : List Nat} {vs : List Value} {rs : List RV} {ψs : List Nat} : RVRel w φ f v ψ r → RVs vs rs ψs → RVs (v :: vs) (r :: rs) (ψ ++ ψs)

/-- A pointer to cells that read as ds and that nobody writes. -/
def PtrRd (v : Value) (ds : List DV) : Prop :=
  ∃ b o vs bs, v = .pointer (some ⟨b, o, none⟩) ∧ w.rangeAt b o vs ∧ b < w.heap.size ∧ Rd false w vs ds bs ∧ (∀ t, b ∉ φ t) ∧ ∀ b' ∈ bs, ∀ t, b' ∉ φ t

inductive PtrRds : List Value → List (List DV) → Prop
  | nil : PtrRds [] []
  | cons {v : Value} {ds : List DV} {vs : List Value} {cs : List (List DV)} : PtrRd w φ v ds → PtrRds vs cs → PtrRds (v :: vs) (ds :: cs)

def SlotRel (v : Value) (ψ : List Nat) : SV → Prop
  | .dead => True
  | .und => v = undef
  | .one r => RVRel w φ f v ψ r
  | .tup rs => ∃ vs : Array Value, v = .tuple vs ∧ RVs w φ f vs.toList rs ψ
  | .box cs => (∀ c ∈ cs, c.roots = []) ∧ ∃ b c el ψs, v = .pointer (some ⟨b, 0, none⟩) ∧ w.heap[b]? = some (.cells c el (0, 0)) ∧ CVs w φ f c.toList cs ψs ∧ ψ = b :: ψs
  | .ptr s q j => ψ = [] ∧ ∃ h b o, hdr w (φ (some s)) (f s) q = some h ∧ locOf h = some (b, o) ∧ v = .pointer (some ⟨b, o + j, none⟩)
  | .rptr ds => ψ = [] ∧ PtrRd w φ v ds
  | .cloR g caps => ψ = [] ∧ ∃ ps : Array Value, v = .func (.func g) #[] ps ∧ PtrRds w φ ps.toList caps
  | .cloS g ss => ψ = [] ∧ ∃ ps : Array Value, v = .func (.func g) #[] ps ∧ ps.toList = ss.map f
end

def RV.roots : RV → List Nat
  | .cell c => c.roots
  | .agg cs => cs.flatMap CV.roots
def SV.roots : SV → List Nat
  | .one r => r.roots
  | .tup rs => rs.flatMap RV.roots
  | .box cs => cs.flatMap CV.roots
  | .ptr s _ _ => [s]
  | .cloS _ ss => ss
  | _ => []

/-- From (w, φ, f) to (w', φ', f') the blocks of ψ, what the roots R lead to, and all that nobody owns is as it was. -/
structure Kept (w : World) (φ : Option Nat → List Nat) (f : Nat → Value) (w' : World) (φ' : Option Nat → List Nat) (f' : Nat → Value) (ψ : List Nat) (R : List Nat) : Prop where
  size : w.heap.size ≤ w'.heap.size
  blocks : ∀ b ∈ ψ, w'.heap[b]? = w.heap[b]?
  roots : ∀ r ∈ R, f' r = f r ∧ φ' (some r) = φ (some r) ∧ ∀ b ∈ φ (some r), w'.heap[b]? = w.heap[b]?
  free : ∀ b, b < w.heap.size → (∀ t, b ∉ φ t) → w'.heap[b]? = w.heap[b]? ∧ ∀ t, b ∉ φ' t

section
variable {w w' : World} {φ φ' : Option Nat → List Nat} {f f' : Nat → Value}
theorem Kept.sub {ψ ψ' R R' : List Nat} (h : Kept w φ f w' φ' f' ψ R) (hψ : ∀ b ∈ ψ', b ∈ ψ) (hR : ∀ r ∈ R', r ∈ R) : Kept w φ f w' φ' f' ψ' R' :=
  ⟨h.size, fun b hb => h.blocks b (hψ b hb), fun r hr => h.roots r (hR r hr), h.free⟩

theorem hdr_kept {F : List Nat} (hb : ∀ b ∈ F, w'.heap[b]? = w.heap[b]?) : ∀ (p : List Nat) (v : Value), hdr w' F v p = hdr w F v p
  | [], _ => rfl
  | j :: p, v => by
    simp only [hdr]
    cases hl : locOf v with
    | none => rfl
    | some bo =>
      obtain ⟨b, o⟩ := bo
      dsimp only
      by_cases hF : b ∈ F
      · rw [if_pos hF, if_pos hF, World.cell?_of_block (w := w) (a := ⟨b, o + j, none⟩) (hb b hF)]
        congr 1
        funext u
        exact hdr_kept hb p u
      · rw [if_neg hF, if_neg hF]

theorem CVRel.kept {v : Value} {ψ : List Nat} {c : CV} (h : CVRel w φ f v ψ c) (k : Kept w φ f w' φ' f' ψ c.roots) : CVRel w' φ' f' v ψ c := by
  cases c with
  | un => exact h
  | sc u => exact h
  | rd d =>
    obtain ⟨h1, bs, h2, h3⟩ := h
    refine ⟨h1, bs, h2.frame k.size fun b hb => (k.free b (h2.lt b hb) (h3 b hb)).1, fun b hb => (k.free b (h2.lt b hb) (h3 b hb)).2⟩
  | own d => exact Rd.frame h k.size k.blocks
  | ref s p d =>
    obtain ⟨h1, h2, bs, h3, h4⟩ := h
    obtain ⟨e1, e2, e3⟩ := k.roots s (by simp [CV.roots])
    refine ⟨h1, ?_, bs, h3.frame k.size fun b hb => e3 b (h4 b hb), fun b hb => by rw [e2]; exact h4 b hb⟩
    rw [e1, e2, hdr_kept e3]; exact h2
  | sub s p lo d =>
    obtain ⟨h1, a, n, cap, a', n', cap', bs, h2, h3, h4, h5, h6⟩ := h
    obtain ⟨e1, e2, e3⟩ := k.roots s (by simp [CV.roots])
    refine ⟨h1, a, n, cap, a', n', cap', bs, ?_, h3, h4, h5.frame k.size fun b hb => e3 b (h6 b hb), fun b hb => by rw [e2]; exact h6 b hb⟩
    rw [e1, e2, hdr_kept e3]; exact h2
  | nb es => exact h
  | hd s p =>
    obtain ⟨h1, h2⟩ := h
    obtain ⟨e1, e2, e3⟩ := k.roots s (by simp [CV.roots])
    exact ⟨h1, by rw [e1, e2, hdr_kept e3]; exact h2⟩

theorem CVs.kept {vs : List Value} {ψ : List Nat} {cs : List CV} (h : CVs w φ f vs cs ψ) (k : Kept w φ f w' φ' f' ψ (cs.flatMap CV.roots)) : CVs w' φ' f' vs cs ψ := by
  induction h with
  | nil => exact .nil
  | cons h _ ih =>
    exact .cons (h.kept (k.sub (fun b hb => List.mem_append_left _ hb) fun r hr => by simp [hr]))
      (ih (k.sub (fun b hb => List.mem_append_right _ hb) fun r hr => by simp only [List.flatMap_cons, List.mem_append]; exact .inr hr))

theorem RVRel.kept {v : Value} {ψ : List Nat} {r : RV} (h : RVRel w φ f v ψ r) (k : Kept w φ f w' φ' f' ψ r.roots) : RVRel w' φ' f' v ψ r := by
  cases r with
  | cell c => exact CVRel.kept h k
  | agg cs => obtain ⟨vs, h1, h2⟩ := h; exact ⟨vs, h1, h2.kept k⟩

theorem RVs.kept {vs : List Value} {ψ : List Nat} {rs : List RV} (h : RVs w φ f vs rs ψ) (k : Kept w φ f w' φ' f' ψ (rs.flatMap RV.roots)) : RVs w' φ' f' vs rs ψ := by
  induction h with
  | nil => exact .nil
  | cons h _ ih =>
    exact .cons (h.kept (k.sub (fun b hb => List.mem_append_left _ hb) fun r hr => by simp [hr]))
      (ih (k.sub (fun b hb => List.mem_append_right _ hb) fun r hr => by simp only [List.flatMap_cons, List.mem_append]; exact .inr hr))

theorem PtrRd.kept {v : Value} {ds : List DV} (h : PtrRd w φ v ds) (hs : w.heap.size ≤ w'.heap.size)
    (hf : ∀ b, b < w.heap.size → (∀ t, b ∉ φ t) → w'.heap[b]? = w.heap[b]? ∧ ∀ t, b ∉ φ' t) : PtrRd w' φ' v ds := by
  obtain ⟨b, o, vs, bs, h1, h2, h3, h4, h5, h6⟩ := h
  exact ⟨b, o, vs, bs, h1, rangeAt_block (hf b h3 h5).1 h2, Nat.lt_of_lt_of_le h3 hs, h4.frame hs fun b hb => (hf b (h4.lt b hb) (h6 b hb)).1, (hf b h3 h5).2,
    fun b hb => (hf b (h4.lt b hb) (h6 b hb)).2⟩

theorem PtrRds.kept {vs : List Value} {cs : List (List DV)} (h : PtrRds w φ vs cs) (hs : w.heap.size ≤ w'.heap.size)
    (hf : ∀ b, b < w.heap.size → (∀ t, b ∉ φ t) → w'.heap[b]? = w.heap[b]? ∧ ∀ t, b ∉ φ' t) : PtrRds w' φ' vs cs := by
  induction h with
  | nil => exact .nil
  | cons h _ ih => exact .cons (h.kept hs hf) ih

theorem SlotRel.kept {v : Value} {ψ : List Nat} {x : SV} (h : SlotRel w φ f v ψ x) (k : Kept w φ f w' φ' f' ψ x.roots) : SlotRel w' φ' f' v ψ x := by
  cases x with
  | dead => exact h
  | und => exact h
  | one r => exact RVRel.kept h k
  | tup rs => obtain ⟨vs, h1, h2⟩ := h; exact ⟨vs, h1, h2.kept k⟩
  | box cs =>
    obtain ⟨hr, b, c, el, ψs, h1, h2, h3, rfl⟩ := h
    exact ⟨hr, b, c, el, ψs, h1, (k.blocks b (List.mem_cons_self ..)).trans h2, h3.kept (k.sub (fun b hb => List.mem_cons_of_mem _ hb) fun r hr => hr), rfl⟩
  | ptr s q j =>
    obtain ⟨h1, h, b, o, h2, h3, h5⟩ := h
    obtain ⟨e1, e2, e3⟩ := k.roots s (by simp [SV.roots])
    exact ⟨h1, h, b, o, by rw [e1, e2, hdr_kept e3]; exact h2, h3, h5⟩
  | rptr ds => exact ⟨h.1, h.2.kept k.size k.free⟩
  | cloR g caps => obtain ⟨h1, ps, h2, h3⟩ := h; exact ⟨h1, ps, h2, h3.kept k.size k.free⟩
  | cloS g ss =>
    obtain ⟨h1, ps, h2, h3⟩ := h
    exact ⟨h1, ps, h2, h3.trans (List.map_congr_left fun s hs => ((k.roots s (by simpa [SV.roots] using hs)).1).symm)⟩
end

/-- What slot t is known to hold, or (none) the value in flight. -/
def sget (st : List SV) (fx : SV) : Option Nat → Option SV
  | some t => st[t]?
  | none => some fx
def vget (ts : Array Value) (fv : Value) : Option Nat → Value
  | some t => valAt ts t
  | none => fv

/-- The slots st describe the frame ts in the world w; fx describes a value in flight, fv; φ: what each owns; since w0 only blocks of F0 have changed. -/
structure RelW (φ : Option Nat → List Nat) (w0 : World) (F0 : List Nat) (st : List SV) (fx : SV) (ts : Array Value) (fv : Value) (w : World) : Prop where
  len : ts.size = st.length
  slot : ∀ t x, sget st fx t = some x → SlotRel w φ (valAt ts) (vget ts fv t) (φ t) x
  nd : ∀ t, (φ t).Nodup
  dj : ∀ s t, s ≠ t → ∀ b ∈ φ s, b ∉ φ t
  lt : ∀ t, ∀ b ∈ φ t, b < w.heap.size ∧ (w0.heap.size ≤ b ∨ b ∈ F0)
  ext : Ext F0 w0 w

/-- THE MASTER STEP: the slots of M change, and own new blocks or what slots of M owned; only blocks of M's are written. -/
theorem RelW.update {φ φ' : Option Nat → List Nat} {w0 w w' : World} {F0 : List Nat} {st st' : List SV} {fx fx' : SV} {ts ts' : Array Value} {fv fv' : Value}
    (h : RelW φ w0 F0 st fx ts fv w) (M : List (Option Nat))
    (hlen' : ts'.size = st'.length) (hx : Ext (M.flatMap φ) w w')
    (hφ : ∀ t, t ∉ M → φ' t = φ t)
    (hφM : ∀ m ∈ M, ∀ b ∈ φ' m, b < w'.heap.size ∧ ((∃ m' ∈ M, b ∈ φ m') ∨ w.heap.size ≤ b))
    (hnd : ∀ m ∈ M, (φ' m).Nodup) (hdj : ∀ m ∈ M, ∀ m' ∈ M, m ≠ m' → ∀ b ∈ φ' m, b ∉ φ' m')
    (hts : ∀ t, t ∉ M → vget ts' fv' t = vget ts fv t)
    (hst : ∀ t, t ∉ M → sget st' fx' t = sget st fx t ∧ ∀ x, sget st fx t = some x → (∀ r ∈ x.roots, some r ∉ M) ∨ SlotRel w' φ' (valAt ts') (vget ts' fv' t) (φ' t) x)
    (hrel : ∀ m ∈ M, ∀ x, sget st' fx' m = some x → SlotRel w' φ' (valAt ts') (vget ts' fv' m) (φ' m) x) : RelW φ' w0 F0 st' fx' ts' fv' w' := by
  have own_ne : ∀ t, t ∉ M → ∀ b ∈ φ t, b ∉ M.flatMap φ := fun t ht b hb hm => by
    obtain ⟨m, hm, hbm⟩ := List.mem_flatMap.1 hm
    exact h.dj t m (fun e => ht (e ▸ hm)) b hb hbm
  have same : ∀ t, t ∉ M → ∀ b ∈ φ t, w'.heap[b]? = w.heap[b]? := fun t ht b hb => hx.block b (h.lt t b hb).1 (own_ne t ht b hb)
  have free : ∀ b, b < w.heap.size → (∀ t, b ∉ φ t) → w'.heap[b]? = w.heap[b]? ∧ ∀ t, b ∉ φ' t := fun b hb hf => by
    refine ⟨hx.block b hb fun hm => ?_, fun t ht => ?_⟩
    · obtain ⟨m, _, hbm⟩ := List.mem_flatMap.1 hm
      exact hf m hbm
    · by_cases hM : t ∈ M
      · rcases (hφM t hM b ht).2 with ⟨m, _, hm⟩ | hn
        · exact hf m hm
        · omega
      · rw [hφ t hM] at ht; exact hf t ht
  refine ⟨hlen', fun t x hx' => ?_, fun t => ?_, fun s t hne b hb hb' => ?_, fun t b hb => ?_, ?_⟩
  · by_cases hM : t ∈ M
    · exact hrel t hM x hx'
    · obtain ⟨e1, e2⟩ := hst t hM
      rw [e1] at hx'
      rcases e2 x hx' with e2 | e2
      · rw [hts t hM, hφ t hM]
        refine (h.slot t x hx').kept ⟨hx.size, same t hM, fun r hr => ?_, free⟩
        have hrM := e2 r hr
        exact ⟨hts (some r) hrM, hφ (some r) hrM, same (some r) hrM⟩
      · exact e2
  · by_cases hM : t ∈ M
    · exact hnd t hM
    · rw [hφ t hM]; exact h.nd t
  · by_cases hs : s ∈ M <;> by_cases ht : t ∈ M
    · exact hdj s hs t ht hne b hb hb'
    · rw [hφ t ht] at hb'
      rcases (hφM s hs b hb).2 with ⟨m, hm, hbm⟩ | hn
      · exact h.dj m t (fun e => ht (e ▸ hm)) b hbm hb'
      · have := (h.lt t b hb').1; omega
    · rw [hφ s hs] at hb
      rcases (hφM t ht b hb').2 with ⟨m, hm, hbm⟩ | hn
      · exact h.dj m s (fun e => hs (e ▸ hm)) b hbm hb
      · have := (h.lt s b hb).1; omega
    · rw [hφ s hs] at hb; rw [hφ t ht] at hb'; exact h.dj s t hne b hb hb'
  · by_cases hM : t ∈ M
    · obtain ⟨h1, h2⟩ := hφM t hM b hb
      refine ⟨h1, ?_⟩
      rcases h2 with ⟨m, _, hm⟩ | hn
      · exact (h.lt m b hm).2
      · exact .inl (Nat.le_trans h.ext.size hn)
    · rw [hφ t hM] at hb
      exact ⟨Nat.lt_of_lt_of_le (h.lt t b hb).1 hx.size, (h.lt t b hb).2⟩
  · refine ⟨hx.os.trans h.ext.os, hx.tape.trans h.ext.tape, hx.output.trans h.ext.output, Nat.le_trans h.ext.size hx.size, fun k hk hn => ?_⟩
    refine (hx.block k (Nat.lt_of_lt_of_le hk h.ext.size) fun hm => ?_).trans (h.ext.block k hk hn)
    obtain ⟨m, _, hbm⟩ := List.mem_flatMap.1 hm
    rcases (h.lt m k hbm).2 with h' | h'
    · omega
    · exact hn h'

end Go.Proofs.Ytckcehmggdnliaa.DL
