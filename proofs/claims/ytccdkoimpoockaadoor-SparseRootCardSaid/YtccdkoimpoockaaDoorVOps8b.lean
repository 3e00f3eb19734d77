/- A row that grows: in new memory, in place, or not at all. -/
import Derived.Test.YtccdkoimpoockaaDoorVOps8
set_option linter.all false
set_option linter.unusedVariables false
set_option linter.unusedSectionVars false
set_option linter.unusedSimpArgs false
namespace Go.V
variable [Codes]
section

theorem FzOK.noneAt {g : Gh} {w : World} (h : FzOK g w) {b : Nat} (hb : w.heap.size ≤ b) (o : Nat) : g.fz b o = none := by
  cases e : g.fz b o with
  | none => rfl
  | some v => have := h.lt (b := b) (o := o) (by rw [e]; simp); omega

/-- In new memory. -/
theorem appOut {g : Gh} {s : St} {tm : Array Value} {tms : List (Array Value)} {w : World} (hs : StR g s tm tms w) {k : Nat} {gb : Gb} (hg : g.bx k = some gb) (hr : gb.isRow = true) {S : Ty} {L : List S.den} {cs rest : List Value} {e : TypeId}
    (hL : Elems (CR g.fz S) L cs) {cap : Nat} (hc : L.length ≤ cap) (hrl : rest.length = (cap - L.length) * S.size) (fz : Bool) :
    ∃ g', VR g' (.row k .whole) (.slice (some ⟨w.heap.size, 0, none⟩) L.length cap) ∧ StR g' ((Eff.app k (.row S fz L)).apply s) tm tms (w.drew.alloc (.cells (cs ++ rest).toArray e)) ∧ Tr g w g' (w.drew.alloc (.cells (cs ++ rest).toArray e)) := by
  have hblk : BlkIs (w.drew.alloc (.cells (cs ++ rest).toArray e)) w.heap.size (cs ++ rest) := blkIs_new _ _
  have hn := fun o => hs.fz.noneAt (Nat.le_refl w.heap.size) o
  have hlc := hL.length (fun x cs h => h.length)
  let fz' := if fz = true then fzPut g.fz w.heap.size 0 cs else g.fz
  let gb' : Gb := ⟨true, true, some w.heap.size, 0, L.length, cap, S.size⟩
  have hmono : ∀ b o v, g.fz b o = some v → fz' b o = some v := by
    intro b o v e
    show (if fz = true then fzPut g.fz w.heap.size 0 cs else g.fz) b o = some v
    split
    · exact fzPut_old (fun o _ _ => hn o) e
    · exact e
  have hh : ∀ b, b < w.heap.size → (w.drew.alloc (.cells (cs ++ rest).toArray e)).heap[b]? = w.heap[b]? := fun b hb => (grownBy_drew_alloc w _).block b hb (by simp)
  have hsome : ∀ b o, fz' b o ≠ none → g.fz b o ≠ none ∨ b = w.heap.size := by
    intro b o h
    have h' : (if fz = true then fzPut g.fz w.heap.size 0 cs else g.fz) b o ≠ none := h
    split at h'
    · exact fzPut_some h'
    · exact .inl h'
  have hok : FzOK ⟨fz', fun j => if j = k then some gb' else g.bx j⟩ (w.drew.alloc (.cells (cs ++ rest).toArray e)) := by
    intro b o v h
    have h' : (if fz = true then fzPut g.fz w.heap.size 0 cs else g.fz) b o = some v := h
    split at h'
    · unfold fzPut at h'
      split at h'
      · rename_i hc
        obtain ⟨rfl, _, h3⟩ := hc
        rw [hblk.cell, List.getElem?_append_left (by omega)]
        simpa using h'
      · exact hs.fz.grow hh b o v h'
    · exact hs.fz.grow hh b o v h'
  have hbox : BoxR ⟨fz', fun j => if j = k then some gb' else g.bx j⟩ (.row S fz L) gb' (w.drew.alloc (.cells (cs ++ rest).toArray e)) := by
    refine ⟨rfl, rfl, rfl, hc, cs ++ rest, cs, hblk, ?_, hL.mono (fun x cs h => h.mono hmono), ?_, ?_, ?_⟩
    · rw [List.length_append, hlc, hrl, ← Nat.add_mul]
      show 0 + cap * S.size ≤ _
      rw [Nat.zero_add, Nat.add_sub_cancel' hc]
      exact Nat.le_refl _
    · intro j v e
      show (cs ++ rest)[0 + j]? = some v
      rw [Nat.zero_add, List.getElem?_append_left (List.getElem?_eq_some_iff.1 e).1]
      exact e
    · intro hf o
      show (if fz = true then fzPut g.fz w.heap.size 0 cs else g.fz) w.heap.size o = none
      rw [if_neg (by rw [hf]; decide)]
      exact hn o
    · intro hf
      refine ⟨?_, ?_⟩
      · show Fz (if fz = true then fzPut g.fz w.heap.size 0 cs else g.fz) w.heap.size 0 cs
        rw [if_pos hf]
        exact fzPut_new
      · intro o ho
        show (if fz = true then fzPut g.fz w.heap.size 0 cs else g.fz) w.heap.size o = none
        rw [if_pos hf]
        exact fzPut_none (hn o) ho
  obtain ⟨h1, h2, _⟩ := hs.app hg hr fz' gb' hmono (fun b o h => by
      rcases hsome b o h with h | h
      · exact .inl h
      · exact .inr (.inl (by omega))) hok rfl rfl rfl (by simp) (fun b _ hb => hh b hb) (fun blk e1 _ => .inl (by cases e1; exact Nat.le_refl _)) (.row S fz L) hbox
  exact ⟨_, ⟨gb', _, if_pos rfl, rfl, rfl, rfl⟩, h1, h2⟩

/-- Nothing is written. -/
theorem appSame {g : Gh} {s : St} {tm : Array Value} {tms : List (Array Value)} {w : World} (hs : StR g s tm tms w) {k : Nat} {gb : Gb} (hg : g.bx k = some gb) (hr : gb.isRow = true) {S : Ty} {L : List S.den} {fz : Bool} {gb' : Gb} {v : Value}
    (hb : BoxR g (.row S fz L) gb' w) (ho : ∀ blk, gb'.blk = some blk → gb'.own = true → gb.blk = some blk ∧ gb.own = true) (hv : WinR gb' .whole v) :
    ∃ g', VR g' (.row k .whole) v ∧ StR g' ((Eff.app k (.row S fz L)).apply s) tm tms w ∧ Tr g w g' w := by
  obtain ⟨h1, h2, _⟩ := hs.app hg hr g.fz gb' (fun _ _ _ h => h) (fun _ _ h => .inl h) (fun b o v h => hs.fz b o v h) rfl rfl rfl (Nat.le_refl _) (fun _ _ _ => rfl) (fun blk e1 e2 => .inr (ho blk e1 e2)) (.row S fz L)
    (by
      obtain ⟨h1, h2, h3, h4, h5⟩ := hb
      exact ⟨h1, h2, h3, h4, h5⟩)
  exact ⟨_, ⟨gb', v, if_pos rfl, hb.1, rfl, hv⟩, h1, h2⟩

/-- In place. -/
theorem appIn {g : Gh} {s : St} {tm : Array Value} {tms : List (Array Value)} {w w' : World} (hs : StR g s tm tms w) {k : Nat} {gb : Gb} (hg : g.bx k = some gb) (hr : gb.isRow = true) {blk : Nat} (hblk : gb.blk = some blk) (hown : gb.own = true)
    {S : Ty} {L m : List S.den} {olds news cells : List Value} {so cap : Nat} {fz : Bool} (hb : BlkIs w blk cells) (ho : Elems (CR g.fz S) L olds) (hn : Elems (CR g.fz S) m news) (hcells : ∀ j v, olds[j]? = some v → cells[so + j]? = some v)
    (hcap : L.length + m.length ≤ cap) (hfit : so + cap * S.size ≤ cells.length) (hw : StW w w' blk) (hb' : BlkIs w' blk (cells.take (so + olds.length) ++ news ++ cells.drop (so + olds.length + news.length)))
    (hff : fz = false → ∀ o, g.fz blk o = none) (hft : fz = true → Fz g.fz blk so olds ∧ ∀ o, so + olds.length ≤ o → g.fz blk o = none) :
    ∃ g', VR g' (.row k .whole) (.slice (some ⟨blk, so, none⟩) (L.length + m.length) cap) ∧ StR g' ((Eff.app k (.row S fz (L ++ m))).apply s) tm tms w' ∧ Tr g w g' w' := by
  have hT : ∀ (x : S.den) (cs : List Value), CR g.fz S x cs → cs.length = S.size := fun x cs h => h.length
  have hol := ho.length hT
  have hnl := hn.length hT
  have hle : so + olds.length + news.length ≤ cells.length := by
    have h1 := Nat.mul_le_mul_right S.size hcap
    rw [Nat.add_mul] at h1
    omega
  let fz' := if fz = true then fzPut g.fz blk (so + olds.length) news else g.fz
  let gb' : Gb := ⟨true, true, some blk, so, (L ++ m).length, cap, S.size⟩
  have hmono : ∀ b o v, g.fz b o = some v → fz' b o = some v := by
    intro b o v e
    show (if fz = true then fzPut g.fz blk (so + olds.length) news else g.fz) b o = some v
    split
    · rename_i hf
      exact fzPut_old (fun o h1 _ => (hft hf).2 o h1) e
    · exact e
  have hsome : ∀ b o, fz' b o ≠ none → g.fz b o ≠ none ∨ b = blk := by
    intro b o h
    have h' : (if fz = true then fzPut g.fz blk (so + olds.length) news else g.fz) b o ≠ none := h
    split at h'
    · exact fzPut_some h'
    · exact .inl h'
  have hcell : ∀ o, o < so + olds.length ∨ so + olds.length + news.length ≤ o → w'.cell? ⟨blk, o, none⟩ = w.cell? ⟨blk, o, none⟩ := by
    intro o h
    rw [hb'.cell, hb.cell, splice_get _ _ _ _ hle]
    rcases h with h | h
    · rw [if_pos h]
    · rw [if_neg (by omega), if_neg (by omega)]
  have hold : ∀ b o v, g.fz b o = some v → w'.cell? ⟨b, o, none⟩ = some v := by
    intro b o v e
    by_cases hbb : b = blk
    · subst hbb
      have h1 : fz = true := by
        cases hf : fz
        · rw [hff hf o] at e; cases e
        · rfl
      have h2 : o < so + olds.length := by
        by_cases h3 : o < so + olds.length
        · exact h3
        · rw [(hft h1).2 o (by omega)] at e; cases e
      rw [hcell o (.inl h2)]
      exact hs.fz _ _ _ e
    · rw [← hs.fz b o v e]
      exact World.cell?_of_block (hw.other b hbb)
  have hok : FzOK ⟨fz', fun j => if j = k then some gb' else g.bx j⟩ w' := by
    intro b o v h
    have h' : (if fz = true then fzPut g.fz blk (so + olds.length) news else g.fz) b o = some v := h
    split at h'
    · unfold fzPut at h'
      split at h'
      · rename_i hc
        obtain ⟨rfl, h2, h3⟩ := hc
        rw [hb'.cell, splice_get _ _ _ _ hle, if_neg (by omega), if_pos h3]
        exact h'
      · exact hold b o v h'
    · exact hold b o v h'
  have hbox : BoxR ⟨fz', fun j => if j = k then some gb' else g.bx j⟩ (.row S fz (L ++ m)) gb' w' := by
    refine ⟨rfl, rfl, rfl, by simp only [List.length_append, gb']; exact hcap, _, olds ++ news, hb', ?_, (ho.append hn).mono (fun x cs h => h.mono hmono), ?_, ?_, ?_⟩
    · simp only [List.length_append, List.length_take, List.length_drop]
      show so + cap * S.size ≤ _
      omega
    · intro j v e
      show (cells.take (so + olds.length) ++ news ++ cells.drop (so + olds.length + news.length))[so + j]? = some v
      rw [splice_get _ _ _ _ hle]
      by_cases hj : j < olds.length
      · rw [List.getElem?_append_left hj] at e
        rw [if_pos (by omega)]
        exact hcells j v e
      · rw [List.getElem?_append_right (by omega)] at e
        have := (List.getElem?_eq_some_iff.1 e).1
        rw [if_neg (by omega), if_pos (by omega), show so + j - (so + olds.length) = j - olds.length by omega]
        exact e
    · intro hf o
      show (if fz = true then fzPut g.fz blk (so + olds.length) news else g.fz) blk o = none
      rw [if_neg (by rw [hf]; decide)]
      exact hff hf o
    · intro hf
      refine ⟨?_, ?_⟩
      · show Fz (if fz = true then fzPut g.fz blk (so + olds.length) news else g.fz) blk so (olds ++ news)
        rw [if_pos hf]
        intro j v e
        by_cases hj : j < olds.length
        · rw [List.getElem?_append_left hj] at e
          exact fzPut_old (fun o h1 _ => (hft hf).2 o h1) ((hft hf).1 j v e)
        · rw [List.getElem?_append_right (by omega)] at e
          have := fzPut_new (fz := g.fz) (blk := blk) (from_ := so + olds.length) (cs := news) (j - olds.length) v e
          rwa [show so + olds.length + (j - olds.length) = so + j by omega] at this
      · intro o h
        show (if fz = true then fzPut g.fz blk (so + olds.length) news else g.fz) blk o = none
        rw [if_pos hf]
        have h2 : so + (olds ++ news).length ≤ o := h
        rw [List.length_append] at h2
        exact fzPut_none ((hft hf).2 o (by omega)) (by omega)
  obtain ⟨h1, h2, _⟩ := hs.app hg hr fz' gb' hmono (fun b o h => by
      rcases hsome b o h with h | h
      · exact .inl h
      · exact .inr (.inr (by rw [h]; exact ⟨hblk, hown⟩))) hok hw.os hw.tape hw.output (by rw [hw.size]; exact Nat.le_refl _) (fun b h1 _ => hw.other b (fun e => h1 (by rw [e]; exact ⟨hblk, hown⟩)))
      (fun blk' e1 _ => .inr (by cases e1; exact ⟨hblk, hown⟩)) (.row S fz (L ++ m)) hbox
  exact ⟨_, ⟨gb', _, if_pos rfl, rfl, rfl, by simp only [WinR, gb', List.length_append]⟩, h1, h2⟩

end
end Go.V
