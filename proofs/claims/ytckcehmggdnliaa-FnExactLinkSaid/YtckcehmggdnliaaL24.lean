/- The data level, part 24: inputs read as data. -/
import Derived.Test.YtckcehmggdnliaaL23
import Derived.ProofKit
namespace Go.Proofs.Ytckcehmggdnliaa.DL
open Go Go.RowKit

/-- The shape of a cell. -/
inductive Sh where
  | int (k : IntKind) | bool | str
  | sl (e : List Sh)

mutual
/-- Data of a shape. -/
inductive WT : Sh → DV → Prop
  | int {k : IntKind} {n : Int} : (Lit.int k n).wf = true → WT (.int k) (.val (.int k n))
  | bool {b : Bool} : WT .bool (.val (.bool b))
  | str {b : ByteArray} : b.size ≤ maxLen → WT .str (.val (.string b))
  | sl {e : List Sh} {rows : List (List DV)} : rows.length ≤ maxLen → (∀ r ∈ rows, WTs e r) → WT (.sl e) (.sl e.length rows.flatten)
inductive WTs : List Sh → List DV → Prop
  | nil : WTs [] []
  | cons {s : Sh} {d : DV} {ss : List Sh} {ds : List DV} : WT s d → WTs ss ds → WTs (s :: ss) (d :: ds)
end

theorem WTs.length {ss : List Sh} {ds : List DV} (h : WTs ss ds) : ds.length = ss.length := by
  cases h with
  | nil => rfl
  | cons _ h => simp [WTs.length h]
theorem WTs.append : ∀ {ss : List Sh} {ds : List DV} {ss' : List Sh} {ds' : List DV}, WTs ss ds → WTs ss' ds' → WTs (ss ++ ss') (ds ++ ds')
  | [], _, _, _, .nil, h => h
  | _ :: _, _, _, _, .cons h1 h2, h => .cons h1 (WTs.append h2 h)

/-- Fields lie one behind the other. -/
def Tile (P : Program) (sh : TypeId → Option (List Sh)) : List Field → Nat → List Sh → Prop
  | [], _, es => es = []
  | f :: fs, off, es => f.offset = off ∧ ∃ e1 e2, sh f.type = some e1 ∧ P.cellsOf f.type = e1.length ∧ es = e1 ++ e2 ∧ Tile P sh fs (off + e1.length) e2
def ShOk (P : Program) (sh : TypeId → Option (List Sh)) : Prop := ∀ t es, sh t = some es →
  match P.underlying t with
  | some .bool => es = [.bool]
  | some (.int k) => es = [.int k]
  | some .string => es = [.str]
  | some (.slice e) => ∃ e1, sh e = some e1 ∧ es = [.sl e1] ∧ P.cellsOf e = e1.length ∧ 0 < e1.length
  | some (.struct fs) => P.cellsOf t = es.length ∧ Tile P sh fs.toList 0 es
  | _ => False

section
variable {H : Type} {enc : TypeId × Value → H} {P : Program} {w : World} {sh : TypeId → Option (List Sh)}

/-- Elements one behind the other. -/
theorem elems_rd {b sz : Nat} : ∀ (n : Nat) (rows : Nat → List Value) (dss : Nat → List DV) (bss : Nat → List Nat) (o : Nat), (∀ i, i < n → (rows i).length = sz ∧ w.rangeAt b (o + i * sz) (rows i) ∧ Rd false w (rows i) (dss i) (bss i)) →
    ∃ us bs, us.length = n * sz ∧ w.rangeAt b o us ∧ Rd false w us ((List.range n).map dss).flatten bs
  | 0, rows, dss, bss, o, _ => ⟨[], [], by simp, fun j v h => by simp at h, .nil⟩
  | n + 1, rows, dss, bss, o, h => by
    obtain ⟨us, bs, h1, h2, h3⟩ := elems_rd n rows dss bss o fun i hi => h i (by omega)
    obtain ⟨g1, g2, g3⟩ := h n (by omega)
    refine ⟨us ++ rows n, bs ++ bss n, by rw [List.length_append, h1, g1, Nat.succ_mul], fun j v hj => ?_, ?_⟩
    · rcases Nat.lt_or_ge j us.length with hlt | hge
      · rw [List.getElem?_append_left hlt] at hj
        exact h2 j v hj
      · rw [List.getElem?_append_right hge] at hj
        have := g2 _ v hj
        rwa [h1, show o + n * sz + (j - n * sz) = o + j by omega] at this
    · rw [List.range_succ, List.map_append, List.flatten_append]
      simpa using h3.append g3

theorem trod_rd (hs : ShOk P sh) : ∀ (fuel : Nat) (t : TypeId) (es : List Sh) (cs : List Value) (d : DataW H) (ps : List MemPlace), sh t = some es → DataW.trod enc P w 0 (fun _ => true) true fuel t cs = some (d, ps) →
    ∃ ds bs, Rd false w cs ds bs ∧ WTs es ds := by
  intro fuel
  induction fuel with
  | zero => intro t es cs d ps _ h; simp [DataW.trod] at h
  | succ fuel ih =>
    intro t es cs d ps ht h
    have hsh := hs t es ht
    cases hu : P.underlying t with
    | none => rw [hu] at hsh; exact hsh.elim
    | some u =>
      rw [hu] at hsh
      cases u with
      | bool =>
        obtain ⟨b, rfl, -⟩ := DataW.trod_bool hu h
        subst hsh
        exact ⟨[.val (.bool b)], [], .sc rfl .nil, .cons .bool .nil⟩
      | int k =>
        obtain ⟨n, rfl, -, hw⟩ := DataW.trod_int hu h
        subst hsh
        exact ⟨[.val (.int k n)], [], .sc rfl .nil, .cons (.int hw) .nil⟩
      | string =>
        obtain ⟨b, rfl, -, hw⟩ := DataW.trod_string hu h
        subst hsh
        exact ⟨[.val (.string b)], [], .sc rfl .nil, .cons (.str hw) .nil⟩
      | slice e =>
        obtain ⟨e1, g1, rfl, g2, g3⟩ := hsh
        rcases DataW.trod_slice hu h with ⟨rfl, -⟩ | ⟨a, len, cap, elems, rest, n, hn, rfl, -, -, hlc, hcm, hel, hat, -, -⟩
        · exact ⟨[.sl e1.length []], [], .e0 (fun _ => rfl) .nil, .cons (WT.sl (rows := []) (Nat.zero_le _) fun r hr => by cases hr) .nil⟩
        · have hn : fuel = n := by omega
          subst hn
          have each : ∀ i, i < len → ∃ (r : List Value) (ds : List DV) (bs : List Nat), w.cells? 0 (a.add (i * e1.length)) e1.length = some r ∧ Rd false w r ds bs ∧ WTs e1 ds := fun i hi => by
            have h1 := hat i hi
            have h2 : i < elems.length := by omega
            rw [List.getElem?_eq_getElem h2, g2] at h1
            simp only [Option.bind_eq_some_iff] at h1
            obtain ⟨r, h3, h4⟩ := h1
            obtain ⟨ds, bs, h5, h6⟩ := ih e e1 r elems[i].1 elems[i].2 g1 h4
            exact ⟨r, ds, bs, h3, h5, h6⟩
          cases len with
          | zero => exact ⟨[.sl e1.length []], [], .e0 (fun h => by cases h) .nil, .cons (WT.sl (rows := []) (Nat.zero_le _) fun r hr => by cases hr) .nil⟩
          | succ m =>
            have hspot : a.spot = none := by
              obtain ⟨r, _, _, h3, _, _⟩ := each 0 (by omega)
              obtain ⟨-, h4, h5⟩ := World.cells?_some h3
              have h6 := h5 0 g3
              have e0 : (a.add (0 * e1.length)).add 0 = a := by simp [Addr.add]
              rw [e0] at h6
              unfold World.cell? at h6
              cases hsp : a.spot with
              | none => rfl
              | some s =>
                rw [hsp] at h6
                have : r[0]? = none := by
                  rw [← h6]
                  split <;> simp
                rw [List.getElem?_eq_none_iff] at this
                omega
            obtain ⟨b, off, sp⟩ := a
            dsimp only at hspot
            subst hspot
            have hb : b < w.heap.size := by
              obtain ⟨r, _, _, h3, _, _⟩ := each 0 (by omega)
              have := World.cells?_block h3 g3
              rwa [Addr.add_mid] at this
            have ex : ∃ (rows : Nat → List Value) (dss : Nat → List DV) (bss : Nat → List Nat), ∀ i, i < m + 1 → (w.cells? 0 ((⟨b, off, none⟩ : Addr).add (i * e1.length)) e1.length = some (rows i) ∧ Rd false w (rows i) (dss i) (bss i) ∧ WTs e1 (dss i)) := by
              refine ⟨fun i => if hi : i < m + 1 then (each i hi).choose else [], fun i => if hi : i < m + 1 then (each i hi).choose_spec.choose else [],
                fun i => if hi : i < m + 1 then (each i hi).choose_spec.choose_spec.choose else [], fun i hi => ?_⟩
              simp only [dif_pos hi]
              exact (each i hi).choose_spec.choose_spec.choose_spec
            obtain ⟨rows, dss, bss, hex⟩ := ex
            obtain ⟨us, bs, k1, k2, k3⟩ := elems_rd (w := w) (b := b) (sz := e1.length) (m + 1) rows dss bss off fun i hi => by
              obtain ⟨h1, h2, -⟩ := hex i hi
              obtain ⟨-, h3, h4⟩ := World.cells?_some h1
              refine ⟨h3, fun j v hj => ?_, h2⟩
              have hj' : j < e1.length := by rw [← h3]; exact (List.getElem?_eq_some_iff.1 hj).1
              have := h4 j hj'
              rw [Addr.add_mid, Addr.add_mid] at this
              rw [this]; exact hj
            have wt : ∀ r ∈ (List.range (m + 1)).map dss, WTs e1 r := fun r hr => by
              obtain ⟨i, hi, rfl⟩ := List.mem_map.1 hr
              exact (hex i (List.mem_range.1 hi)).2.2
            have hlen : ((List.range (m + 1)).map dss).flatten.length = (m + 1) * e1.length := by rw [← k3.length, k1]
            exact ⟨[.sl e1.length ((List.range (m + 1)).map dss).flatten], b :: (bs ++ []), .sl k2 (fun h => by cases h) hb hlen ⟨g3, hlc⟩ k3 .nil,
              .cons (.sl (by simp; omega) wt) .nil⟩
      | struct fs =>
        obtain ⟨g1, g2⟩ := hsh
        obtain ⟨xs, n, hn, -, hl, hxl, hat⟩ := DataW.trod_struct hu h
        have hn : fuel = n := by omega
        subst hn
        have tile : ∀ (fl : List Field) (off : Nat) (es : List Sh), Tile P sh fl off es → (∀ f ∈ fl, ∃ x, DataW.trod enc P w 0 (fun _ => true) true fuel f.type ((cs.drop f.offset).take (P.cellsOf f.type)) = some x) → off + es.length = cs.length →
            ∃ ds bs, Rd false w (cs.drop off) ds bs ∧ WTs es ds := by
          intro fl
          induction fl with
          | nil =>
            intro off es he _ hle
            simp only [Tile] at he
            subst he
            refine ⟨[], [], ?_, .nil⟩
            rw [List.drop_eq_nil_of_le (by simp at hle; omega)]
            exact .nil
          | cons f fl ihf =>
            intro off es he hx hle
            obtain ⟨h1, e1, e2, h2, h3, rfl, h4⟩ := he
            obtain ⟨x, h5⟩ := hx f (List.mem_cons_self ..)
            rw [h1, h3] at h5
            obtain ⟨ds1, bs1, k1, k2⟩ := ih f.type e1 _ x.1 x.2 h2 h5
            obtain ⟨ds2, bs2, k3, k4⟩ := ihf (off + e1.length) e2 h4 (fun f' hf' => hx f' (List.mem_cons_of_mem _ hf')) (by rw [List.length_append] at hle; omega)
            refine ⟨ds1 ++ ds2, bs1 ++ bs2, ?_, k2.append k4⟩
            have : cs.drop off = (cs.drop off).take e1.length ++ cs.drop (off + e1.length) := by
              rw [← List.drop_drop, List.take_append_drop]
            rw [this]
            exact k1.append k3
        have := tile fs.toList 0 es g2 (fun f hf => by
          obtain ⟨i, hi, hfi⟩ := List.mem_iff_getElem.1 hf
          have hi' : fs[i]? = some f := by rw [← Array.getElem?_toList, List.getElem?_eq_getElem hi, hfi]
          have h1 := hat i f hi'
          have h2 : i < xs.length := by rw [hxl]; simpa using hi
          rw [List.getElem?_eq_getElem h2] at h1
          exact ⟨_, h1⟩) (by omega)
        simpa using this
      | _ => exact hsh.elim
end
end Go.Proofs.Ytckcehmggdnliaa.DL
