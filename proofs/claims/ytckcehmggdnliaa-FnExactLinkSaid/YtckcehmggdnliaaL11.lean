/- The data level, part 11: cuts and stores. -/
import Derived.Test.YtckcehmggdnliaaL10
namespace Go.Proofs.Ytckcehmggdnliaa.DL
open Go Go.RowKit

theorem Rd.toF {o : Bool} {w : World} {vs : List Value} {es : List DV} {bs : List Nat} (h : Rd o w vs es bs) : Rd false w vs es bs := by
  cases o with
  | false => exact h
  | true => exact h.weaken

section
variable {P : Program} {tb : Tb} {φ : Option Nat → List Nat} {w0 w w' : World} {F0 : List Nat} {sl : Sl} {fx : SV} {ts : Array Value} {fv : Value} {ds : List Deferred}

theorem bound_eval (h : RelW φ w0 F0 sl fx ts fv w) {ty : TypeId} {o : Option Operand} {d n : Int} (hb : boundI tb ty sl o d = some n) :
    (o = none ∧ n = d) ∨ ∃ x k, o = some x ∧ Act.eval ⟨ts, ds⟩ x = .int k n := by
  unfold boundI at hb
  split at hb
  · cases hb; exact .inl ⟨rfl, rfl⟩
  · rename_i x
    split at hb
    · rename_i k m e
      cases hb
      exact .inr ⟨x, k, rfl, (opView_sc (ds := ds) h e).1⟩
    · cases hb

theorem run_bound {k : IntKind} {n : Int} {y : Nat} {code : BoundsCode} (h0 : 0 ≤ n) (h1 : n ≤ y) : (Instr.sliceBound (.int k n) y code).run P w = .ok n.toNat w := by
  simp only [Instr.sliceBound, asIntOf, Sem.run_bind, Sem.run_pure, Result.andThen_ok]
  rw [if_pos ⟨h0, h1⟩]
  rfl

/-- The cut of a header. -/
theorem cut_run (hT : TbOk P tb) {t e : TypeId} (hk : (tb t).k = .slice e) (he : (tb e).k ≠ .other) {a : Option Addr} {n cap : Nat} {lo hi : Int} {vl vh : Option Value}
    (hl : (vl = none ∧ lo = 0) ∨ ∃ k, vl = some (.int k lo)) (hh : (vh = none ∧ hi = n) ∨ ∃ k, vh = some (.int k hi)) (h0 : 0 ≤ lo) (h1 : lo ≤ hi) (h2 : hi ≤ n) (hc : n ≤ cap) :
    (Instr.sliceAt t (.slice a n cap) vl vh none).run P w = .ok (.slice (if cap = lo.toNat then a else a.map (·.add (lo.toNat * (tb e).size))) (hi.toNat - lo.toNat) (cap - lo.toNat)) w := by
  have hu := (under_of hT).2.1 e hk
  have hsz := (size_of (w := w) hT he).1
  have hbd : (Instr.sliceBounds true n cap vl vh none).run P w = .ok (lo.toNat, hi.toNat, cap) w := by
    rcases hl with ⟨rfl, rfl⟩ | ⟨kl, rfl⟩ <;> rcases hh with ⟨rfl, rfl⟩ | ⟨kh, rfl⟩
    · simp [Instr.sliceBounds]
    · simp [Instr.sliceBounds, run_bound (P := P) (w := w) (k := kh) (y := cap) (Int.le_trans h0 h1) (by omega)]
    · simp [Instr.sliceBounds, run_bound (P := P) (w := w) (k := kl) (y := n) h0 (by omega)]
    · have e1 := run_bound (P := P) (w := w) (k := kh) (y := cap) (n := hi) (code := .sliceAcap) (Int.le_trans h0 h1) (by omega)
      have e2 := run_bound (P := P) (w := w) (k := kl) (y := hi.toNat) (n := lo) (code := .sliceB) h0 (by omega)
      simp [Instr.sliceBounds, Sem.run_bind, e1, e2]
  simp only [Instr.sliceAt, Sem.run_bind, run_underlying hu, Result.andThen_ok, Instr.slice, hbd, hsz]
  rfl

/-- The data of a cut. -/
theorem cut_rd {v : Value} {sz : Nat} {es : List DV} {bs : List Nat} {o : Bool} (h : Rd o w [v] [.sl sz es] bs) {lo hi : Nat} (h1 : lo ≤ hi) (h2 : hi ≤ (DV.sl sz es).n) :
    ∃ a n cap, v = .slice a n cap ∧ (DV.sl sz es).n = n ∧ n ≤ cap ∧ ∃ a' bs', a' = (if cap = lo then a else a.map (·.add (lo * sz))) ∧
      Rd false w [.slice a' (hi - lo) (cap - lo)] [cutD (.sl sz es) lo hi] bs' ∧ (∀ b ∈ bs', b ∈ bs) ∧ (0 < hi - lo → ∃ b off, a = some ⟨b, off, none⟩ ∧ a' = some ⟨b, off + lo * sz, none⟩) := by
  rcases h.one with ⟨a, cap, rfl, rfl, rfl, -⟩ | ⟨b, off, n, cap, us, bs1, rfl, rfl, g1, g2, g3, g4, g5, g6, g7⟩
  · have hn : (DV.sl sz []).n = 0 := by rw [DV.n_eq]; simp
    rw [hn] at h2
    have e1 : hi = 0 := by omega
    have e2 : lo = 0 := by omega
    subst e1; subst e2
    refine ⟨a, 0, cap, rfl, hn, Nat.zero_le _, _, [], rfl, ?_, fun b hb => (by cases hb), fun h => by omega⟩
    have : cutD (.sl sz []) 0 0 = .sl sz [] := by simp [cutD, DV.es, DV.sz]
    rw [this]
    exact Rd.e0 (fun h => by cases h) .nil
  · have hn : (DV.sl sz es).n = n := by rw [DV.n_eq, g4]; exact Nat.mul_div_cancel _ g5
    rw [hn] at h2
    refine ⟨_, n, cap, rfl, hn, g6, ?_⟩
    by_cases hz : hi = lo
    · subst hz
      refine ⟨_, [], rfl, ?_, fun b hb => (by cases hb), fun h => by omega⟩
      have : cutD (.sl sz es) hi hi = .sl sz [] := by simp [cutD, DV.es, DV.sz]
      rw [this, Nat.sub_self]
      exact Rd.e0 (fun h => by cases h) .nil
    · have hlc : cap ≠ lo := by omega
      rw [if_neg hlc]
      obtain ⟨b1, b2, k1, k2, rfl⟩ := g7.split (hi * sz)
      obtain ⟨b3, b4, k3, k4, rfl⟩ := k1.split (lo * sz)
      refine ⟨_, b :: b4, rfl, ?_, fun b' hb => by
        rcases List.mem_cons.1 hb with rfl | hb
        · exact List.mem_cons_self ..
        · simp [hb], fun _ => ⟨b, off, rfl, by simp [Addr_add]⟩⟩
      have hle : hi * sz ≤ n * sz := Nat.mul_le_mul_right _ h2
      have hll : lo * sz ≤ hi * sz := Nat.mul_le_mul_right _ h1
      have := Rd.sl (o := false) (w := w) (b := b) (off := off + lo * sz) (n := hi - lo) (cap := cap - lo) (sz := sz) (us := (us.take (hi * sz)).drop (lo * sz)) (es := (es.take (hi * sz)).drop (lo * sz))
        (bs1 := b4) (vs := []) (ds := []) (bs2 := []) (fun k v hk => by
          rw [List.getElem?_drop, List.getElem?_take] at hk
          split at hk
          · rw [Nat.add_assoc]; exact g1 _ _ hk
          · cases hk) (fun h => by cases h) g3 (by
          rw [List.length_drop, List.length_take, g4, Nat.sub_mul, Nat.min_eq_left hle]) ⟨g5, by omega⟩ k4.toF .nil
      simpa [cutD, DV.es, DV.sz, Addr_add] using this

theorem slice_sound (hT : TbOk P tb) (h : RelW φ w0 F0 sl fx ts fv w) {t ty : TypeId} {x : Operand} {lo hi mx : Option Operand} {cs : List Prop} {r : SV} {sl' : Sl}
    (hx : opV tb sl ty (.slice t x lo hi mx) = some (cs, r, sl')) (hc : ∀ p ∈ cs, p) :
    Sound P w0 F0 ts ds w (.slice t x lo hi mx) ty r sl' := by
  simp only [opV] at hx
  split at hx
  · rename_i v hv
    split at hx
    · rename_i l hh hl hhe
      simp only [Option.map_eq_some_iff, Prod.mk.injEq] at hx
      obtain ⟨⟨cs', r'⟩, hcut, rfl, rfl, rfl⟩ := hx
      have bl := bound_eval (ds := ds) h hl
      have bh := bound_eval (ds := ds) h hhe
      have bl' : ((lo.map (Act.eval ⟨ts, ds⟩)) = none ∧ l = 0) ∨ ∃ k, lo.map (Act.eval ⟨ts, ds⟩) = some (.int k l) := by
        rcases bl with ⟨rfl, rfl⟩ | ⟨y, k, rfl, e⟩
        · exact .inl ⟨rfl, rfl⟩
        · exact .inr ⟨k, by simp [e]⟩
      have bh' : ∀ N : Int, (lenI v).getD 0 = N → ((hi.map (Act.eval ⟨ts, ds⟩)) = none ∧ hh = N) ∨ ∃ k, hi.map (Act.eval ⟨ts, ds⟩) = some (.int k hh) := by
        rintro N rfl
        rcases bh with ⟨rfl, rfl⟩ | ⟨y, k, rfl, e⟩
        · exact .inl ⟨rfl, rfl⟩
        · exact .inr ⟨k, by simp [e]⟩
      unfold cutV at hcut
      split at hcut
      · rename_i e d hk
        cases hcut
        obtain ⟨-, bs, hr, hfree⟩ := opView_rel (ds := ds) h hv rfl
        unfold cutC at hc
        split at hc
        · rename_i hsz
          have h0 : 0 ≤ l := hc _ (by simp)
          have h1 : l ≤ hh := hc _ (by simp)
          have h2 : hh ≤ d.n := hc _ (by simp)
          have hsz : d.sz = (tb e).size ∧ 0 < (tb e).size := by simpa using hsz
          cases d with
          | val u => simp only [DV.sz] at hsz; omega
          | sl sz es =>
            obtain ⟨hsz, hpos⟩ := hsz
            simp only [DV.sz] at hsz
            obtain ⟨a, n, cap, hv', hn, hcap, a', bs', ha', g1, g2, g3⟩ := cut_rd hr (lo := l.toNat) (hi := hh.toNat) (by omega) (by omega)
            have hrun := cut_run (w := w) hT hk (not_other hT hpos) (a := a) bl' (bh' n (by simp [lenI, sliceD, hn])) h0 h1 (by rw [← hn]; exact h2) hcap
            refine sound_see h (yields_val (s := Instr.sliceAt t (Act.eval ⟨ts, ds⟩ x) (lo.map (Act.eval ⟨ts, ds⟩)) (hi.map (Act.eval ⟨ts, ds⟩)) (none.map (Act.eval ⟨ts, ds⟩))) (fun _ _ _ _ => rfl) (by
              rw [hv']; exact hrun)) ⟨rfl, bs', ?_, fun b hb => hfree b (g2 b hb)⟩
            rw [← hsz, ← ha']
            exact g1
        · exact (hc False (by simp)).elim
      · rename_i e s p d hk
        cases hcut
        obtain ⟨-, hdr', bs, hr, hin⟩ := opView_rel (ds := ds) h hv rfl
        unfold cutC at hc
        split at hc
        · rename_i hsz
          have h0 : 0 ≤ l := hc _ (by simp)
          have h1 : l ≤ hh := hc _ (by simp)
          have h2 : hh ≤ d.n := hc _ (by simp)
          have hsz : d.sz = (tb e).size ∧ 0 < (tb e).size := by simpa using hsz
          cases d with
          | val u => simp only [DV.sz] at hsz; omega
          | sl sz es =>
            obtain ⟨hsz, hpos⟩ := hsz
            simp only [DV.sz] at hsz
            obtain ⟨a, n, cap, hv', hn, hcap, a', bs', ha', g1, g2, g3⟩ := cut_rd hr (lo := l.toNat) (hi := hh.toNat) (by omega) (by omega)
            have hrun := cut_run (w := w) hT hk (not_other hT hpos) (a := a) bl' (bh' n (by simp [lenI, sliceD, hn])) h0 h1 (by rw [← hn]; exact h2) hcap
            refine sound_see h (yields_val (s := Instr.sliceAt t (Act.eval ⟨ts, ds⟩ x) (lo.map (Act.eval ⟨ts, ds⟩)) (hi.map (Act.eval ⟨ts, ds⟩)) (none.map (Act.eval ⟨ts, ds⟩))) (fun _ _ _ _ => rfl) (by
              rw [hv']; exact hrun)) ⟨rfl, a, n, cap, a', hh.toNat - l.toNat, cap - l.toNat, bs', by rw [← hv']; exact hdr', ?_, ?_, ?_, fun b hb => hin b (g2 b hb)⟩
            · rw [← hsz, ← ha']
            · intro hp
              obtain ⟨b, off, e1, e2⟩ := g3 hp
              exact ⟨b, off, e1, e2⟩
            · rw [← hsz, ← ha']
              exact g1
        · exact (hc False (by simp)).elim
      · rename_i s hk
        cases hcut
        obtain ⟨e1, -⟩ := opView_sc (ds := ds) h hv
        have h0 : 0 ≤ l := hc _ (by simp)
        have h1 : l ≤ hh := hc _ (by simp)
        have h2 : hh ≤ s.size := hc _ (by simp)
        have hu : P.underlying t = some .string := (tiOf hT hk).2.2.2.2.1
        have bh2 := bh' s.size (by simp [lenI])
        refine sound_see h (v := .string (s.extract l.toNat hh.toNat)) (yields_val (s := Instr.sliceAt t (Act.eval ⟨ts, ds⟩ x) (lo.map (Act.eval ⟨ts, ds⟩)) (hi.map (Act.eval ⟨ts, ds⟩)) (none.map (Act.eval ⟨ts, ds⟩))) (fun _ _ _ _ => rfl) ?_) ⟨rfl, rfl, rfl⟩
        rw [e1]
        have hbd : (Instr.sliceBounds false s.size s.size (lo.map (Act.eval ⟨ts, ds⟩)) (hi.map (Act.eval ⟨ts, ds⟩)) none).run P w = .ok (l.toNat, hh.toNat, s.size) w := by
          rcases bl' with ⟨f1, rfl⟩ | ⟨kl, f1⟩ <;> rcases bh2 with ⟨f2, rfl⟩ | ⟨kh, f2⟩ <;> rw [f1, f2]
          · simp [Instr.sliceBounds]
          · simp [Instr.sliceBounds, run_bound (P := P) (w := w) (k := kh) (y := s.size) (Int.le_trans h0 h1) h2]
          · simp [Instr.sliceBounds, run_bound (P := P) (w := w) (k := kl) (y := s.size) h0 (by omega)]
          · have e1 := run_bound (P := P) (w := w) (k := kh) (y := s.size) (n := hh) (code := .sliceAlen) (Int.le_trans h0 h1) h2
            have e2 := run_bound (P := P) (w := w) (k := kl) (y := hh.toNat) (n := l) (code := .sliceB) h0 (by omega)
            simp [Instr.sliceBounds, Sem.run_bind, e1, e2]
        have hn : (none : Option Operand).map (Act.eval ⟨ts, ds⟩) = none := rfl
        rw [hn]
        simp only [Instr.sliceAt, Sem.run_bind, run_underlying hu, Result.andThen_ok, Instr.slice, hbd, Option.isSome_none, Bool.false_eq_true, if_false, Sem.run_pure]
      · cases hcut
    · cases hx
  · cases hx

end

end Go.Proofs.Ytckcehmggdnliaa.DL
