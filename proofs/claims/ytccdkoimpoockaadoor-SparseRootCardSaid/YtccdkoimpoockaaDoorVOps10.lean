/- Structs, arrays and slices that are built; conversions; make; len. -/
import Derived.Test.YtccdkoimpoockaaDoorVOps9
import Derived.Lib.ConvBytes
import Derived.Laws.BytesArg
set_option linter.all false
set_option linter.unusedVariables false
set_option linter.unusedSectionVars false
set_option linter.unusedSimpArgs false
namespace Go.V
variable [Codes]
section
variable {C : Cfg} {P : Program}

theorem foldl_splice (off : Nat) : ∀ (vs : List Value) (k : Nat) (cs : Array Value), off + k + vs.length ≤ cs.size →
    ((vs.zipIdx k).foldl (fun cs (x : Value × Nat) => cs.setIfInBounds (off + x.2) x.1) cs).toList = cs.toList.take (off + k) ++ vs ++ cs.toList.drop (off + k + vs.length)
  | [], k, cs, h => by simp
  | v :: vs, k, cs, h => by
    simp only [List.length_cons] at h
    simp only [List.zipIdx_cons, List.foldl_cons]
    rw [foldl_splice off vs (k + 1) _ (by rw [Array.size_setIfInBounds]; omega)]
    simp only [Array.toList_setIfInBounds]
    have e1 : (cs.toList.set (off + k) v).drop (off + (k + 1) + vs.length) = cs.toList.drop (off + k + (v :: vs).length) := by
      rw [List.drop_set_of_lt (show off + k < off + (k + 1) + vs.length by omega)]
      congr 1
      simp only [List.length_cons]
      omega
    have e2 : (cs.toList.set (off + k) v).take (off + (k + 1)) = cs.toList.take (off + k) ++ [v] := by
      rw [show off + (k + 1) = (off + k) + 1 by omega, List.take_succ_eq_append_getElem (show off + k < (cs.toList.set (off + k) v).length by simp; omega), List.take_set_of_le (Nat.le_refl _)]
      simp
    rw [e1, e2]
    simp

/-- One part is filled in. -/
theorem fill_cons {place : Nat → Option (Nat × Nat)} {cells : Array Value} {i : Nat} {v : Value} {ps : List (Nat × Value)} {off size : Nat} (hp : place i = some (off, size)) (hs : v.cells.size = size) (hl : off + size ≤ cells.size) :
    ∃ cells' : Array Value, Instr.fill place cells ((i, v) :: ps) = Instr.fill place cells' ps ∧ cells'.toList = cells.toList.take off ++ v.cells.toList ++ cells.toList.drop (off + v.cells.toList.length) := by
  refine ⟨v.cells.zipIdx.foldl (fun cs (c, j) => cs.setIfInBounds (off + j) c) cells, ?_, ?_⟩
  · have h : ¬ ((v.cells.size ≠ size || off + v.cells.size > cells.size) = true) := by simp; omega
    simp only [Instr.fill, hp]
    rw [if_neg h]
  · have := foldl_splice off v.cells.toList 0 cells (by simp; omega)
    rw [← Array.foldl_toList]
    simpa using this

theorem norm_some {bxs : Bxs} {T : Ty} {v : AV} {x : T.den} (h : norm bxs T v = some x) : T.rd bxs v.gs = some (x, []) ∧ v.isAgg = T.isAgg := by
  unfold norm at h
  split at h
  · rename_i y hy
    cases hb : v.isAgg == T.isAgg
    · simp [hb] at h
    · simp only [hb, cond_true, Option.some.injEq] at h
      subst h
      exact ⟨hy, by simpa using hb⟩
  · cases h

theorem norm_ok {g : Gh} {bxs : Bxs} {w : World} (hb : BxW g bxs w) (hf : FzOK g w) {T : Ty} {v : AV} {x : T.den} (h : norm bxs T v = some x) {cs : List Value} (hg : GsR g v.gs cs) : CR g.fz T x cs :=
  rd_all hb hf (norm_some h).1 hg

/-- Values of parts. -/
def PartsR (g : Gh) : List (Nat × AV) → List (Nat × Value) → Prop
  | [], [] => True
  | (i, v) :: l, (j, c) :: r => i = j ∧ VR g v c ∧ PartsR g l r
  | _, _ => False

theorem buildSt_ok {g : Gh} {place : Nat → Option (Nat × Nat)} {fs : List (Nat × Nat)} (hpl : ∀ i o t, fs[i]? = some (o, t) → C.size t ≠ 0 → place i = some (o, C.size t)) : ∀ {ps : List (Nat × AV)} {vs : List (Nat × Value)} {gs gs' : List AV} {cells : Array Value},
    buildSt C fs ps gs = some gs' → PartsR g ps vs → GsR g gs cells.toList → ∃ cells', Instr.fill place cells vs = some cells' ∧ GsR g gs' cells'.toList
  | [], [], gs, gs', cells, h, _, hg => by
    simp only [buildSt, Option.some.injEq] at h
    subst h
    exact ⟨cells, rfl, hg⟩
  | [], _ :: _, _, _, _, _, hp, _ => hp.elim
  | _ :: _, [], _, _, _, _, hp, _ => hp.elim
  | (i, v) :: ps, (j, c) :: vs, gs, gs', cells, h, ⟨hij, hv, hp⟩, hg => by
    subst hij
    simp only [buildSt] at h
    split at h
    · rename_i o t hf
      split at h
      · rename_i hc
        split at h
        · rename_i gs1 hput
          have hgs := hv.gs hc.1
          obtain ⟨h1, h2⟩ := putGs_rel hgs hput hg
          have hsz : c.cells.size = C.size t := by rw [← hc.2.1, ← hgs.length]; simp
          obtain ⟨cells', h3, h4⟩ := fill_cons (ps := vs) (v := c) (cells := cells) (hpl i o t hf hc.2.2) hsz (by rw [← hsz]; simpa using h1)
          rw [← h4] at h2
          obtain ⟨cells2, h5, h6⟩ := buildSt_ok hpl h hp h2
          exact ⟨cells2, by rw [h3]; exact h5, h6⟩
        · cases h
      · cases h
    · cases h

theorem buildL_ok {g : Gh} {bxs : Bxs} {w : World} (hb : BxW g bxs w) (hf : FzOK g w) {T : Ty} : ∀ {ps : List (Nat × AV)} {vs : List (Nat × Value)} {l l' : List T.den} {cells : Array Value},
    buildL bxs T ps l = some l' → PartsR g ps vs → Elems (CR g.fz T) l cells.toList → l'.length = l.length ∧ ∃ cells', Instr.fill (fun i => some (i * T.size, T.size)) cells vs = some cells' ∧ Elems (CR g.fz T) l' cells'.toList
  | [], [], l, l', cells, h, _, hg => by
    simp only [buildL, Option.some.injEq] at h
    subst h
    exact ⟨rfl, cells, rfl, hg⟩
  | [], _ :: _, _, _, _, _, hp, _ => hp.elim
  | _ :: _, [], _, _, _, _, hp, _ => hp.elim
  | (i, v) :: ps, (j, c) :: vs, l, l', cells, h, ⟨hij, hv, hp⟩, hg => by
    subst hij
    simp only [buildL] at h
    split at h
    · rename_i hc
      split at h
      · rename_i x hx
        have hT : ∀ (x : T.den) (cs : List Value), CR g.fz T x cs → cs.length = T.size := fun x cs h => h.length
        have hcr := norm_ok hb hf hx (hv.gs hc.1)
        obtain ⟨a, b, c0, ea, ha, h0, hset⟩ := hg.set hT i hc.2 hcr
        have hsz : c.cells.size = T.size := by rw [← hcr.length]; simp
        have hlen := hg.length hT
        have hle : i * T.size + T.size ≤ cells.size := by
          have h1 : (i + 1) * T.size ≤ l.length * T.size := Nat.mul_le_mul_right _ hc.2
          rw [Nat.succ_mul] at h1
          rw [← Array.length_toList, hlen]
          exact h1
        obtain ⟨cells', h3, h4⟩ := fill_cons (ps := vs) (v := c) (cells := cells) (place := fun i => some (i * T.size, T.size)) rfl hsz hle
        have hc0 : c0.length = c.cells.toList.length := by rw [hT _ _ h0]; simp [hsz]
        have h5 : cells'.toList = a ++ (c.cells.toList ++ b) := by
          rw [h4, ea, ← ha, List.take_left, ← hc0, ← List.append_assoc a c0 b, ← List.length_append, List.drop_left, List.append_assoc]
        rw [← h5] at hset
        obtain ⟨h6, cells2, h7, h8⟩ := buildL_ok hb hf h hp hset
        exact ⟨by rw [h6, List.length_set], cells2, by rw [h3]; exact h7, h8⟩
      · cases h
    · cases h

/-- Copies of a zero value. -/
theorem range_copies (z : Array Value) : ∀ n, ((List.range (n * z.size)).map fun k => z[k % z.size]!) = (List.replicate n z.toList).flatten
  | 0 => by simp
  | n + 1 => by
    by_cases hz : z.size = 0
    · have : z.toList = [] := List.eq_nil_of_length_eq_zero (by simpa using hz)
      simp [hz, this]
    · rw [Nat.succ_mul, Nat.add_comm, List.range_add, List.map_append, List.replicate_succ, List.flatten_cons, List.map_map]
      congr 1
      · apply List.ext_getElem
        · simp
        · intro i h1 h2
          have hi : i < z.size := by simpa using h2
          simp [Nat.mod_eq_of_lt hi, hi]
      · rw [← range_copies z n]
        apply List.map_congr_left
        intro k _
        simp

theorem elems_copies {α : Type} {R : α → List Value → Prop} {x : α} {cs : List Value} (h : R x cs) : ∀ n, Elems R (List.replicate n x) (List.replicate n cs).flatten
  | 0 => rfl
  | n + 1 => ⟨cs, (List.replicate n cs).flatten, rfl, h, elems_copies h n⟩

end
end Go.V
