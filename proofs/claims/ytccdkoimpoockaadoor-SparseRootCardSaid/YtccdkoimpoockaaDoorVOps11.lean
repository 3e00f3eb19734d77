/- Structs, arrays and slices that are built; make; conversions; len; min; max. -/
import Derived.Test.YtccdkoimpoockaaDoorVOps10
import Derived.Laws.Tables
set_option linter.all false
set_option linter.unusedVariables false
set_option linter.unusedSectionVars false
set_option linter.unusedSimpArgs false
namespace Go.V
variable [Codes]
section
variable {C : Cfg} {P : Program}

theorem placesM (hC : CfgOK C P) : ∀ (fs : List Field), (∀ f ∈ fs, C.size f.type ≠ 0) →
    fs.mapM (fun f => (P.info? f.type).map fun i => (f.offset, i.size)) = some (fs.map fun f => (f.offset, C.size f.type))
  | [], _ => rfl
  | f :: fs, h => by
    obtain ⟨i, h1, h2, _⟩ := hC.size f.type (h f (by simp))
    simp [List.mapM_cons, h1, h2, placesM hC fs (fun f hf => h f (by simp [hf]))]

theorem buildV_ok (hC : CfgOK C P) {g : Gh} {s : St} {tm : Array Value} {tms : List (Array Value)} {w : World} (hs : StR g s tm tms w) {t : Nat} {ps : List (Nat × AV)} {c : Bool} {v : AV} {e : Eff}
    (h : buildV C s.bxs t ps = some (c, v, e)) {vs : Array (Nat × Value)} (hp : PartsR g ps vs.toList) : e = .none ∧ ∃ z, (Instr.build t vs).run P w = .ok z w ∧ VR g v z := by
  unfold buildV at h
  split at h
  · rename_i fs hu
    split at h
    · rename_i gs hz
      split at h
      · rename_i hall
        split at h
        · rename_i gs' hb
          simp only [ok, Option.some.injEq, Prod.mk.injEq] at h
          obtain ⟨_, rfl, rfl⟩ := h
          obtain ⟨fields, hd, hf⟩ := hC.st t fs hu
          obtain ⟨i, z, hi, _, _, hiz, hg⟩ := hC.zero t gs hz
          have hne : ∀ f ∈ fields.toList, C.size f.type ≠ 0 := fun f hm => by
            have h1 := List.all_eq_true.1 hall (f.offset, f.type) (by rw [← hf]; exact List.mem_map.2 ⟨f, hm, rfl⟩)
            simp only [Bool.not_eq_true'] at h1
            intro h2
            rw [h2] at h1
            cases h1
          have hpl := placesM hC fields.toList hne
          obtain ⟨cells, h1, h2⟩ := buildSt_ok (place := ((fields.toList.map fun f => (f.offset, C.size f.type)).toArray[·]?)) (fun i o t hfi hn => by
              rw [← hf, List.getElem?_map, Option.map_eq_some_iff] at hfi
              obtain ⟨f, hfi, he⟩ := hfi
              simp only [Prod.mk.injEq] at he
              simp only [List.getElem?_toArray, List.getElem?_map, hfi, Option.map_some, he.1, he.2]) hb hp (hg g)
          refine ⟨rfl, .agg cells, run_build w t vs cells ?_, ⟨cells, rfl, h2⟩⟩
          unfold Program.built
          simp only [hi, hd, hiz, hpl]
          exact h1
        · cases h
      · cases h
    · cases h
  · rename_i n e' hu
    split at h
    · rename_i m T hT
      split at h
      · rename_i hc
        obtain ⟨rfl, hsz, hnz⟩ := hc
        split at h
        · rename_i l hl
          simp only [ok, Option.some.injEq, Prod.mk.injEq] at h
          obtain ⟨_, rfl, rfl⟩ := h
          have hd := hC.arr t _ _ hu
          obtain ⟨_, i, z, hi, _, _, _, hiz, hg⟩ := hC.ty t _ hT
          obtain ⟨ie, hie, hies, _⟩ := hC.size e' hnz
          obtain ⟨_, hel⟩ := hg g.fz
          obtain ⟨h0, cells, h1, h2⟩ := buildL_ok hs.bxs.w hs.fz hl hp hel
          refine ⟨rfl, .agg cells, run_build w t vs cells ?_, ⟨cells, rfl, by rw [h0, List.length_replicate], h2⟩⟩
          unfold Program.built
          simp only [hi, hd, hiz, hie, hies, ← hsz]
          exact h1
        · cases h
      · cases h
    · cases h
  · cases h

theorem run_buildSlice {w : World} {t len e : Nat} {vs : Array (Nat × Value)} {i : TypeInfo} {z : Value} (hd : P.underlying t = some (.slice e)) (hi : P.info? e = some i) (hz : i.zero = some z) (hl : len * i.size ≤ 16777216)
    (hzs : z.cells.size = i.size) {cells : Array Value} (hf : Instr.fill (fun k => some (k * i.size, i.size)) (List.replicate len z.cells.toList).flatten.toArray vs.toList = some cells) :
    (Instr.buildSlice t len vs).run P w = .ok (.slice (some ⟨w.heap.size, 0, none⟩) len len) (w.alloc (.cells cells e)) := by
  have hn : ¬ (16777216 < len * i.size) := by omega
  have e1 : ∀ z' : Array Value, (len * i.size = 0 ∨ z' = z.cells) → ((Array.range (len * i.size)).map (z'[· % z'.size]!)) = (List.replicate len z.cells.toList).flatten.toArray := by
    intro z' hz'
    rw [← range_copies, hzs]
    rcases hz' with h | rfl
    · simp [h]
    · apply Array.ext'
      simp only [Array.toList_map, Array.toList_range, hzs]
  by_cases h0 : len * i.size = 0
  · have e2 := e1 #[] (.inl h0)
    rw [← e2] at hf
    simp only [Array.size_empty] at hf
    simp [Instr.buildSlice, run_underlying hd, sizeOf, typeInfo, hi, h0, newRow] at hf ⊢
    simp [hf]
  · have e2 := e1 z.cells (.inr rfl)
    rw [← e2] at hf
    simp [Instr.buildSlice, run_underlying hd, sizeOf, typeInfo, zeroValue, hi, hz, hn, h0, newRow, hf]

theorem buildSliceV_ok (hC : CfgOK C P) {g : Gh} {s : St} {tm : Array Value} {tms : List (Array Value)} {w : World} (hs : StR g s tm tms w) {t len : Nat} {ps : List (Nat × AV)} {c : Bool} {v : AV} {e : Eff}
    (h : buildSliceV C s.bxs t len ps = some (c, v, e)) {vs : Array (Nat × Value)} (hp : PartsR g ps vs.toList) :
    e = .none ∧ ∃ z w' g', (Instr.buildSlice t len vs).run P w = .ok z w' ∧ VR g' v z ∧ StR g' s tm tms w' ∧ Tr g w g' w' := by
  unfold buildSliceV at h
  split at h
  · rename_i e' hu
    split at h
    · rename_i T hT
      split at h
      · rename_i hc
        split at h
        · rename_i l hl
          simp only [ok, Option.some.injEq, Prod.mk.injEq] at h
          obtain ⟨_, rfl, rfl⟩ := h
          have hd := hC.sl t _ hu
          obtain ⟨hts, i, z, hi, his, _, _, hiz, hg⟩ := hC.ty e' _ hT
          have hzs : z.cells.size = i.size := by rw [his, ← hts, ← (hg g.fz).length]; simp
          have hel : Elems (CR g.fz T) (List.replicate len T.dflt) (List.replicate len z.cells.toList).flatten.toArray.toList := elems_copies (hg g.fz) len
          obtain ⟨h0, cells, h1, h2⟩ := buildL_ok hs.bxs.w hs.fz hl hp hel
          rw [hts, ← his] at h1
          have hr := run_buildSlice (w := w) hd hi hiz (by rw [his]; exact hc.2) hzs h1
          obtain ⟨k1, k2, k3, k4⟩ := hs.lit cells.toList e'
          simp only [Array.toArray_toList] at k1 k2 k3
          refine ⟨rfl, _, _, _, hr, ?_, k1, k2⟩
          refine ⟨w.heap.size, 0, cells.toList, ?_, h2.mono (fun x cs h => h.mono k3.fz), k4⟩
          rw [h0, List.length_replicate]
        · cases h
      · cases h
    · cases h
  · cases h

/-- A new row of the call's own. -/
theorem fresh2_ok {g : Gh} {s : St} {tm : Array Value} {tms : List (Array Value)} {w w' : World} (hs : StR g s tm tms w) {key : Nat} (hk : find s.bxs key = none) {S : Ty} {L : List S.den} {cs rest : List Value}
    (hL : Elems (CR g.fz S) L cs) {cap : Nat} (hc : L.length ≤ cap) (hr : rest.length = (cap - L.length) * S.size) (hgr : w.grownBy w' none) (hb : BlkIs w' w.heap.size (cs ++ rest)) :
    let gb : Gb := ⟨true, true, some w.heap.size, 0, L.length, cap, S.size⟩
    VR (g.put key gb) (.row key .whole) (.slice (some ⟨w.heap.size, 0, none⟩) L.length cap) ∧ StR (g.put key gb) ((Eff.add key (.row S false L)).apply s) tm tms w' ∧ Tr g w (g.put key gb) w' := by
  intro gb
  have hlc := hL.length (fun x cs h => h.length)
  have hbx : BoxR g (.row S false L) gb w' := by
    refine ⟨rfl, rfl, rfl, hc, cs ++ rest, cs, hb, ?_, hL, ?_, fun _ o => hs.fz.noneAt (Nat.le_refl _) o, fun h => nomatch h⟩
    · rw [List.length_append, hlc, hr, ← Nat.add_mul]
      simp only [gb]
      rw [Nat.zero_add, Nat.add_sub_cancel' hc]
      exact Nat.le_refl _
    · intro j v e
      simp only [gb, Nat.zero_add]
      rw [List.getElem?_append_left (List.getElem?_eq_some_iff.1 e).1]
      exact e
  have hb := boxR_fzSame (g' := g.put key gb) rfl hbx
  obtain ⟨h1, h2, _⟩ := hs.add hk hgr (.row S false L) gb hb (fun blk e1 _ => by cases e1; exact Nat.le_refl _)
  exact ⟨⟨gb, _, Gh.put_same _ _ _, rfl, rfl, rfl⟩, h1, h2⟩

theorem makeSliceV_ok (hC : CfgOK C P) {g : Gh} {s : St} {tm : Array Value} {tms : List (Array Value)} {w : World} (hs : StR g s tm tms w) {key t : Nat} {n c v : AV} {e : Eff}
    (h : makeSliceV C key t n c = some (true, v, e)) (hk : find s.bxs key = none) {x y : Value} (hx : VR g n x) (hy : VR g c y) :
    ∃ z w' g', (Instr.makeSlice t x y).run P w = .ok z w' ∧ VR g' v z ∧ StR g' (e.apply s) tm tms w' ∧ Tr g w g' w' := by
  unfold makeSliceV at h
  split at h
  · rename_i e' n' c' hu hn hc
    split at h
    · rename_i T hT
      split at h
      · simp only [Option.some.injEq, Prod.mk.injEq] at h
        obtain ⟨hcond, rfl, rfl⟩ := h
        obtain ⟨kn, rfl⟩ := idx_ok hn hx
        obtain ⟨kc, rfl⟩ := idx_ok hc hy
        simp only [Bool.and_eq_true, decide_eq_true_eq] at hcond
        obtain ⟨⟨h0, h1⟩, h2'⟩ := hcond
        have h2 : c' ≤ 1073741824 := h2'
        have hd := hC.sl t _ hu
        obtain ⟨hts, i, z, hi, his, _, hbt, hiz, hg⟩ := hC.ty e' _ hT
        have hb' : (i.bytes : Int) * c' ≤ 281474976710656 := by
          have h3 : (i.bytes : Int) * c' ≤ (65536 : Int) * 1073741824 := Int.mul_le_mul (by omega) (by omega) (by omega) (by omega)
          omega
        have hr := run_make (P := P) w t e' i z hd hi hiz kn kc n' c' h0 h1 hb' (by omega)
        have hzs : z.cells.size = i.size := by rw [his, ← hts, ← (hg g.fz).length]; simp
        have hcells : (madeCells z.cells (c'.toNat * i.size)).toList = (List.replicate n'.toNat z.cells.toList).flatten ++ (List.replicate (c'.toNat - n'.toNat) z.cells.toList).flatten := by
          rw [← List.flatten_append, List.replicate_append_replicate, show n'.toNat + (c'.toNat - n'.toNat) = c'.toNat by omega, ← range_copies, hzs]
          simp only [madeCells, Array.toList_map, Array.toList_range, hzs]
        have hL : Elems (CR g.fz T) (List.replicate n'.toNat T.dflt) (List.replicate n'.toNat z.cells.toList).flatten := elems_copies (hg g.fz) _
        have hlen : (List.replicate (c'.toNat - n'.toNat) z.cells.toList).flatten.length = (c'.toNat - (List.replicate n'.toNat T.dflt).length) * T.size := by
          simp [hzs, his, hts]
        have hblk : BlkIs (w.alloc (.cells (madeCells z.cells (c'.toNat * i.size)) e')) w.heap.size ((List.replicate n'.toNat z.cells.toList).flatten ++ (List.replicate (c'.toNat - n'.toNat) z.cells.toList).flatten) := by
          rw [← hcells]
          have := blkIs_alloc w (madeCells z.cells (c'.toNat * i.size)).toList e'
          simpa using this
        obtain ⟨k1, k2, k3⟩ := fresh2_ok hs hk (cap := c'.toNat) hL (by simp; omega) hlen (World.grownBy_alloc w _ none) hblk
        refine ⟨_, _, _, hr, ?_, k2, k3⟩
        simpa using k1
      · cases h
    · cases h
  · cases h

end
end Go.V
