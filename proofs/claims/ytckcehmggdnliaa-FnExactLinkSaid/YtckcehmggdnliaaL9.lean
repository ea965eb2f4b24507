/- The data level, part 9: conversions, addresses, cuts, new slices. -/
import Derived.Test.YtckcehmggdnliaaL8
namespace Go.Proofs.Ytckcehmggdnliaa.DL
open Go Go.RowKit

section
variable {P : Program} {tb : Tb} {φ : Option Nat → List Nat} {w0 w w' : World} {F0 : List Nat} {sl : Sl} {fx : SV} {ts : Array Value} {fv : Value} {ds : List Deferred}

theorem under_of (hT : TbOk P tb) {t : TypeId} : (∀ k, (tb t).k = .int k → P.underlying t = some (.int k)) ∧ (∀ e, (tb t).k = .slice e → P.underlying t = some (.slice e)) ∧
    (∀ offs, (tb t).k = .struct offs → ∃ fs, P.underlying t = some (.struct fs) ∧ fs.toList.map (·.offset) = offs ∧ (fs.toList.all fun f => (P.info? f.type).any fun j => j.size != 0) = true) ∧ (∀ n e, (tb t).k = .array n e → P.underlying t = some (.array n e)) := by
  have := (hT t).1
  unfold TIok at this
  refine ⟨fun k hk => ?_, fun e hk => ?_, fun o hk => ?_, fun n e hk => ?_⟩ <;> rw [hk] at this
  · exact this.2.2.2.2.1
  · exact this.2.2.2.2.1
  · obtain ⟨fs, h1, h2, h3, _⟩ := this.2.2.2.2
    exact ⟨fs, h1, h2, h3⟩
  · exact this.2.2.2.2

theorem size_of (hT : TbOk P tb) {t : TypeId} (hk : (tb t).k ≠ .other) : (sizeOf t).run P w = .ok (tb t).size w ∧ 0 < (tb t).size ∧ (tb t).zero.length = (tb t).size := by
  obtain ⟨j, z, h1, h2, _⟩ := info_of hT hk
  refine ⟨by simp [sizeOf, typeInfo, h1, h2], ?_⟩
  have := (hT t).1
  unfold TIok at this
  split at this
  · rename_i h; exact absurd h hk
  · exact ⟨this.2.2.2.1, this.2.2.1⟩

theorem conv_sound (hT : TbOk P tb) (h : RelW φ w0 F0 sl fx ts fv w) {src dst ty : TypeId} {x : Operand} {u r : Value}
    (hx : opView tb ty sl x = some (.one (.cell (.sc u)))) (hs : ∃ k, (tb src).k = .int k) (hb : conV (tb dst).k u = some r) : Sound P w0 F0 ts ds w (.convert src dst x) ty (.one (.cell (.sc r))) sl := by
  obtain ⟨e1, s1⟩ := opView_sc (ds := ds) h hx
  obtain ⟨ks, hks⟩ := hs
  unfold conV at hb
  split at hb
  · rename_i k n
    split at hb
    · rename_i k' hk
      cases hb
      refine ⟨_, w, _, yields_val (s := convert src dst (Act.eval ⟨ts, ds⟩ x)) (fun _ _ _ _ => rfl) ?_, h.see (x := .one (.cell (.sc _))) ⟨rfl, rfl, rfl⟩⟩
      rw [e1]
      simp only [convert, Sem.run_bind, run_underlying ((under_of hT).1 ks hks), run_underlying ((under_of hT).1 k' hk), Result.andThen_ok]
      rfl
    · cases hb
  · cases hb

theorem Addr_add (b o n : Nat) : (⟨b, o, none⟩ : Addr).add n = ⟨b, o + n, none⟩ := Addr.add_mid b o n

theorem field_run (hT : TbOk P tb) {t : TypeId} {offs : List Nat} (hk : (tb t).k = .struct offs) {f b o : Nat} (hf : f < offs.length) :
    (Instr.fieldAt t (.pointer (some ⟨b, o, none⟩)) f).run P w = .ok (.pointer (some ⟨b, o + offs.getD f 0, none⟩)) w := by
  obtain ⟨fs, h1, h2, h3⟩ := (under_of hT).2.2.1 offs hk
  have hfl : f < fs.size := by rw [← h2] at hf; simpa using hf
  have hfe : fs[f]? = some fs[f] := Array.getElem?_eq_getElem hfl
  have hsz := (List.all_eq_true.1 h3) fs[f] (by simp)
  cases hj : P.info? fs[f].type with
  | none => simp [hj] at hsz
  | some j =>
    have hne : j.size ≠ 0 := by simpa [hj] using hsz
    have ho : offs.getD f 0 = fs[f].offset := by rw [← h2]; simp [List.getD, hfl]
    rw [ho]
    simp [Instr.fieldAt, Sem.run_bind, run_underlying h1, hfe, Instr.sureAddr, fieldPlace, sizeOf, typeInfo, hj, hne, Addr_add]

theorem sound_see (h : RelW φ w0 F0 sl fx ts fv w) {op : Op} {ty : TypeId} {v : Value} {x : SV} (hy : Yields P op ty (Act.eval ⟨ts, ds⟩) w v w) (hr : SlotRel w φ (valAt ts) v [] x) :
    Sound P w0 F0 ts ds w op ty x sl := ⟨v, w, _, hy, h.see hr⟩

theorem not_other (hT : TbOk P tb) {e : TypeId} (h : 0 < (tb e).size) : (tb e).k ≠ .other := fun hk => by
  have := (hT e).1
  unfold TIok at this
  rw [hk] at this
  have : (tb e).size = 0 := this
  omega

theorem field_sound (hT : TbOk P tb) (h : RelW φ w0 F0 sl fx ts fv w) {t ty : TypeId} {x : Operand} {f : Nat} {cs : List Prop} {r : SV} {sl' : Sl}
    (hx : opV tb sl ty (.fieldAddr t x f) = some (cs, r, sl')) : Sound P w0 F0 ts ds w (.fieldAddr t x f) ty r sl' := by
  simp only [opV] at hx
  split at hx
  · rename_i offs s q j hk hp
    split at hx
    · rename_i hf
      cases hx
      obtain ⟨-, hv, b, o, h2, h3, h5⟩ := opView_rel (ds := ds) h hp rfl
      exact sound_see h (yields_val (s := Instr.fieldAt t (Act.eval ⟨ts, ds⟩ x) f) (fun _ _ _ _ => rfl) (by rw [h5]; exact field_run hT hk hf))
        ⟨rfl, hv, b, o, h2, h3, by rw [Nat.add_assoc]⟩
    · cases hx
  · rename_i offs es hk hp
    split at hx
    · rename_i hf
      cases hx
      obtain ⟨-, b, o, vs, bs, h1, h2, h3, h4, h5, h6⟩ := opView_rel (ds := ds) h hp rfl
      obtain ⟨b1, b2, g1, g2, rfl⟩ := h4.split (offs.getD f 0)
      refine sound_see h (yields_val (s := Instr.fieldAt t (Act.eval ⟨ts, ds⟩ x) f) (fun _ _ _ _ => rfl) (by rw [h1]; exact field_run hT hk hf)) ⟨rfl, b, _, vs.drop (offs.getD f 0), b2, rfl, fun k v hk => ?_, h3, g2, h5, fun b' hb => h6 b' (List.mem_append_right _ hb)⟩
      rw [List.getElem?_drop] at hk
      rw [Nat.add_assoc]
      exact h2 _ _ hk
    · cases hx
  · cases hx

/-- An element's address. -/
theorem index_run (hT : TbOk P tb) {t e : TypeId} (hk : (tb t).k = .slice e) (he : (tb e).k ≠ .other) {b off n cap : Nat} {k : IntKind} {i : Int} (h0 : 0 ≤ i) (hi : i < n) :
    (Instr.indexAt t (.slice (some ⟨b, off, none⟩) n cap) (.int k i)).run P w = .ok (.pointer (some ⟨b, off + i.toNat * (tb e).size, none⟩)) w := by
  have hu := (under_of hT).2.1 e hk
  simp only [Instr.indexAt, asIntOf, Sem.run_bind, Sem.run_pure, Result.andThen_ok, run_underlying hu]
  rw [if_pos ⟨h0, hi⟩]
  simp only [Sem.run_bind, (size_of hT he).1, Result.andThen_ok, Addr_add]
  rfl

theorem n_of {o : Bool} {v : Value} {sz : Nat} {es : List DV} {bs : List Nat} (h : Rd o w [v] [.sl sz es] bs) (hn : 0 < (DV.sl sz es).n) :
    ∃ b off n cap us bs1, v = .slice (some ⟨b, off, none⟩) n cap ∧ bs = b :: bs1 ∧ w.rangeAt b off us ∧ (o = true → OwnRow w b (off + cap * sz)) ∧ b < w.heap.size ∧ es.length = n * sz ∧ 0 < sz ∧ n ≤ cap ∧ Rd o w us es bs1 ∧ (DV.sl sz es).n = n := by
  rw [DV.n_eq] at hn
  rcases h.one with ⟨a, cap, rfl, rfl, _⟩ | ⟨b, off, n, cap, us, bs1, rfl, rfl, h1, h2, h3, h4, h5, h6, h7⟩
  · simp at hn
  · exact ⟨b, off, n, cap, us, bs1, rfl, rfl, h1, h2, h3, h4, h5, h6, h7, by rw [DV.n_eq, h4]; exact Nat.mul_div_cancel _ h5⟩

theorem index_sound (hT : TbOk P tb) (h : RelW φ w0 F0 sl fx ts fv w) {t ty : TypeId} {x i : Operand} {cs : List Prop} {r : SV} {sl' : Sl}
    (hx : opV tb sl ty (.indexAddr t x i) = some (cs, r, sl')) (hc : ∀ c ∈ cs, c) : Sound P w0 F0 ts ds w (.indexAddr t x i) ty r sl' := by
  simp only [opV] at hx
  split at hx
  · rename_i e v k n hk hv hi
    obtain ⟨e2, -⟩ := opView_sc (ds := ds) h hi
    simp only [Option.map_eq_some_iff, Prod.mk.injEq] at hx
    obtain ⟨⟨cs', r'⟩, hix, rfl, rfl, rfl⟩ := hx
    unfold idxV at hix
    split at hix
    · rename_i d
      simp only [Option.some.injEq, Prod.mk.injEq] at hix
      obtain ⟨rfl, rfl⟩ := hix
      obtain ⟨-, bs, hr, hfree⟩ := opView_rel (ds := ds) h hv rfl
      split at hc
      · rename_i hsz
        have h0 : 0 ≤ n := hc _ (by simp)
        have hn : n < d.n := hc _ (by simp)
        cases d with
        | val u => simp [DV.n] at hn; omega
        | sl sz es =>
          have hsz : sz = (tb e).size := by simpa [DV.sz] using hsz
          obtain ⟨b, off, m, cap, us, bs1, hv', rfl, g1, g2, g3, g4, g5, g6, g7, g8⟩ := n_of hr (by omega)
          rw [g8] at hn
          have he : (tb e).k ≠ .other := not_other hT (by rw [← hsz]; exact g5)
          obtain ⟨b1, b2, k1, k2, rfl⟩ := g7.split (n.toNat * sz)
          refine sound_see h (yields_val (s := Instr.indexAt t (Act.eval ⟨ts, ds⟩ x) (Act.eval ⟨ts, ds⟩ i)) (fun _ _ _ _ => rfl) (by rw [hv', e2]; exact index_run hT hk he h0 hn)) ?_
          rw [← hsz]
          refine ⟨rfl, b, _, us.drop (n.toNat * sz), b2, rfl, fun k v hk => ?_, g3, k2, fun t => hfree b (by simp) t, fun b' hb => hfree b' (by simp [hb])⟩
          rw [List.getElem?_drop] at hk
          rw [Nat.add_assoc]
          exact g1 _ _ hk
      · exact (hc False (by simp)).elim
    · rename_i s p d
      simp only [Option.some.injEq, Prod.mk.injEq] at hix
      obtain ⟨rfl, rfl⟩ := hix
      obtain ⟨-, hh, bs, hr, hin⟩ := opView_rel (ds := ds) h hv rfl
      split at hc
      · rename_i hsz
        have h0 : 0 ≤ n := hc _ (by simp)
        have hn : n < d.n := hc _ (by simp)
        cases d with
        | val u => simp [DV.n] at hn; omega
        | sl sz es =>
          have hsz : sz = (tb e).size := by simpa [DV.sz] using hsz
          obtain ⟨b, off, m, cap, us, bs1, hv', rfl, g1, g2, g3, g4, g5, g6, g7, g8⟩ := n_of hr (by omega)
          rw [g8] at hn
          have he : (tb e).k ≠ .other := not_other hT (by rw [← hsz]; exact g5)
          exact sound_see h (yields_val (s := Instr.indexAt t (Act.eval ⟨ts, ds⟩ x) (Act.eval ⟨ts, ds⟩ i)) (fun _ _ _ _ => rfl) (by rw [hv', e2]; exact index_run hT hk he h0 hn)) ⟨rfl, _, b, off, hh, by rw [hv']; rfl, rfl⟩
      · exact (hc False (by simp)).elim
    · cases hix
  · cases hx

end

end Go.Proofs.Ytckcehmggdnliaa.DL
