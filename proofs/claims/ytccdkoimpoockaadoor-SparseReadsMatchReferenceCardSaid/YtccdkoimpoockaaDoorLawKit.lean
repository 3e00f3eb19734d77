/- What all laws of the seat lean on: the table that the program lays; a world that meets what the statements ask. -/
import Derived.Test.YtccdkoimpoockaaDoorVEntry
import Derived.Test.YtccdkoimpoockaaDoorCf
import Derived.LaidHandle
import Derived.Test.YtccdkoimpoockaaDoorCards
import Derived.Test.YtccdkoimpoockaaDoorTie
set_option linter.all false
set_option linter.unusedVariables false
set_option linter.unusedSectionVars false
set_option linter.unusedSimpArgs false
namespace Go.Proofs.YtccdkoimpoockaaDoor
open Go Go.V Go.ChangeShapes

/-- The numbers in a list of data. -/
def litInt {H : Type} : DataW H → Int
  | .lit (.int _ n) => n
  | _ => 0
def litsOf {H : Type} : DataW H → List Int
  | .agg l => l.map litInt
  | _ => []

theorem laid_table : litsOf (Rows.laid_clearway_digest_round : DataW Unit) = roundTable := by kernel_rfl

theorem arr_words {H : Type} {enc : TypeId × Value → H} {P : Program} {w : World} {sp : Nat → Bool} {held : Bool} {t e : TypeId} {n fuel : Nat} {k : IntKind} {cs : List Value} {x : DataW H × List MemPlace}
    (ht : P.underlying t = some (.array n e)) (he : P.underlying e = some (.int k)) (h1 : P.cellsOf e = 1) (ht1 : P.cellsOf t = n) (h : DataW.trod enc P w 0 sp held fuel t cs = some x) :
    cs = (litsOf x.1).map (Value.int k) ∧ (litsOf x.1).length = n := by
  obtain ⟨xs, m, _, rfl, hl, hxs, hi⟩ := DataW.trod_array ht h
  rw [h1] at hi
  have hlen : cs.length = n := by rw [hl, ht1]
  have key : ∀ i, i < n → cs[i]? = ((xs.map (·.1)).map (fun d => Value.int k (litInt d)))[i]? := by
    intro i hn
    have := hi i hn
    rw [Nat.mul_one, List.getElem?_eq_getElem (by omega)] at this
    have hc : (cs.drop i).take 1 = [cs[i]'(by omega)] := by
      rw [List.drop_eq_getElem_cons (by omega)]
      rfl
    rw [hc] at this
    obtain ⟨v, e1, e2, _⟩ := DataW.trod_int he this
    simp only [List.cons.injEq, and_true] at e1
    rw [List.getElem?_map, List.getElem?_map, List.getElem?_eq_getElem (by omega), List.getElem?_eq_getElem (by omega), Option.map_some, Option.map_some, e2, e1]
    rfl
  refine ⟨?_, by simp [litsOf, hxs]⟩
  apply List.ext_getElem?
  intro i
  by_cases hi : i < n
  · rw [key i hi]
    simp only [litsOf, List.getElem?_map, Option.map_map]
    rfl
  · rw [List.getElem?_eq_none (by omega), List.getElem?_eq_none (by simp [litsOf, hxs]; omega)]

theorem elems_words {fz : Nat → Nat → Option Value} {k : IntKind} : ∀ (l : List Int), Elems (CR fz (.int k)) l (l.map (Value.int k))
  | [] => rfl
  | x :: l => ⟨[.int k x], l.map (Value.int k), rfl, rfl, elems_words l⟩

theorem glob_of_laid {W : World} (h : laidMetH Tryd.prog [("clearway/digest.round", Rows.laid_clearway_digest_round)] W) : GlobOK cfg (allFz W) := by
  have h' : laidMet Tryd.prog [("clearway/digest.round", Rows.laid_clearway_digest_round)] W := h
  obtain ⟨ps, ⟨g, t, cs, fuel, p, q, e1, e2, e3, e4, _, _⟩, _, _⟩ := h'
  have hg : (Tryd.prog.globalNamed "clearway/digest.round") = some 0 := by kernel_rfl
  rw [hg] at e1
  obtain rfl := Option.some.inj e1
  have ht : (Tryd.prog.globals[0]?).map (·.type) = some 117 := by kernel_rfl
  rw [ht] at e2
  obtain rfl := Option.some.inj e2
  obtain ⟨k1, k2⟩ := arr_words (show Tryd.prog.underlying 117 = some (.array 64 93) by kernel_rfl) (show Tryd.prog.underlying 93 = some (.int .u32) by kernel_rfl) (by kernel_rfl) (by kernel_rfl) e4
  have hl : litsOf (Rows.laid_clearway_digest_round : DataW Unit) = roundTable := laid_table
  simp only at k1 k2
  rw [hl] at k1 k2
  intro n v hv
  have hv' : (bif Nat.beq n 0 then some (AV.eptr [.val (.arr 64 (.int .u32)) roundTable]) else none) = some v := hv
  cases hn : Nat.beq n 0 with
  | false => rw [hn] at hv'; cases hv'
  | true =>
    rw [hn] at hv'
    simp only [cond_true, Option.some.injEq] at hv'
    subst hv'
    have := Nat.eq_of_beq_eq_true hn
    subst this
    refine ⟨_, roundTable.map (Value.int .u32), rfl, ⟨roundTable.map (Value.int .u32), [], by simp, ⟨k2, elems_words _⟩, rfl⟩, ?_⟩
    intro j v e
    show W.cell? ⟨0, 0 + j, none⟩ = some v
    rw [Nat.zero_add, World.var?_cell hg e3 j, ← Array.getElem?_toList, k1]
    exact e

theorem trodAll_len {H : Type} {enc : TypeId × Value → H} {P : Program} {w : World} {base : Nat} {sp : Nat → Bool} {held : Bool} : ∀ {ts : List TypeId} {vs : List Value} {ds : List (DataW H)} {p : List MemPlace}, DataW.TrodAll enc P w base sp held ts vs ds p → ds.length = ts.length
  | [], [], [], _, _ => rfl
  | _ :: _, _ :: _, _ :: _, _, ⟨_, _, _, h, _⟩ => by simp [trodAll_len h]
  | [], [], _ :: _, _, h => h.elim
  | [], _ :: _, _, _, h => h.elim
  | _ :: _, [], _, _, h => h.elim
  | _ :: _, _ :: _, [], _, h => h.elim

theorem seatOwn : ownKnob Tryd.prog.godebug = none := by kernel_rfl
theorem seatLaidOut : laidOutB Tryd.prog = true := by kernel_rfl
theorem seatSlices : ∀ t e, t < Tryd.prog.types.size → Tryd.prog.underlying t = some (.slice e) → 0 < Tryd.prog.cellsOf e := slices_full_of Tryd.prog (by kernel_rfl)
theorem seatMaps : mapsRowed Tryd.prog = true := by kernel_rfl

/-- A world that meets the statements' condition: the variable's cells laid. -/
noncomputable def laidWorld (os : Os) : World :=
  let w0 := World.holding Tryd.prog os ⟨#[], #[], []⟩
  { w0 with heap := w0.heap.modify 0 fun
      | .cells _ t frozen => .cells (roundTable.map (Value.int .u32)).toArray t frozen
      | o => o }

theorem laidWorld_met (os : Os) (args : Array Value) : laidMetH Tryd.prog [("clearway/digest.round", Rows.laid_clearway_digest_round)] ((laidWorld os).forCall (fun _ _ => 0) ⟨#[], args, []⟩).memory :=
  show laidMet _ _ _ from laidMet_of_run' 8 (by kernel_rfl) (by kernel_rfl)
end Go.Proofs.YtccdkoimpoockaaDoor
