/- Part of the proof. -/
import Derived.Sort.Grow
import Derived.Sort.Row
import Derived.Shelf.Sort.Plain
import Derived.Ground.Names2Prog
import Derived.Shelf.Slices.In.SortNone
import Derived.Shelf.SlGeneric
import Derived.Shelf.SlSortCmp.WholeK
import Derived.Ground.SlsfProg
import Derived.WalkKit
import Derived.KernelRfl
import Derived.Test.YtfjpfjcdejjkeaaGreatDoorA3
set_option linter.all false
set_option linter.unusedVariables false
set_option linter.unusedSectionVars false
set_option linter.unusedSimpArgs false
namespace Go.V
open Go.Sort
variable [Codes]
theorem putCells_get {off : Nat} {vals c : Array Value} {k : Nat} (hk : k < c.size) : (putCells id off vals c)[k]? = some (if off ≤ k ∧ k < off + vals.size then vals[k - off]! else c[k]) := by
 unfold putCells
 rw [Array.getElem?_mapIdx, Array.getElem?_eq_getElem hk]
 rfl
theorem row_put {g : Gh} {s : St} {tm : Array Value} {tms : List (Array Value)} {w : World} (hs : StR g s tm tms w) {b blk : Nat} {T : Ty} {l y : List T.den} {gb : Gb} (hb : find s.bxs b = some (.row T false l)) (hg : g.bx b = some gb) (hbk : gb.blk = some blk) (ho : gb.own = true)
  (n : Nat) {vals : Array Value} (hel : Elems (CR g.fz T) y vals.toList) (hlen : y.length = l.length) (os : Array Obj) :
  StR g { s with bxs := setB s.bxs b (.row T false y) } tm tms (grow (putRow id (Go.Sort.ahead w n) blk gb.off vals) os) ∧ Tr g w g (grow (putRow id (Go.Sort.ahead w n) blk gb.off vals) os) := by
 obtain ⟨gb', e1, e2⟩ := hs.bxs.box _ _ hb
 rw [hg] at e1
 cases e1
 obtain ⟨k1, k2, k3, k4, k5⟩ := e2
 simp only [hbk, ho] at k5
 obtain ⟨cells, cs, c1, c2, c3, c4, c5, _⟩ := k5
 have hno := c5 trivial
 obtain ⟨el, lo, hi, h1, h2⟩ := c1
 have hblk : blk < w.heap.size := (Array.getElem?_eq_some_iff.1 h1).1
 have hT : ∀ (x : T.den) (cs : List Value), CR g.fz T x cs → cs.length = T.size := fun x cs h => h.length
 have hvl : vals.size = l.length * T.size := by
  have := hel.length hT
  rw [Array.length_toList, hlen] at this
  exact this
 let w1 := putRow id (Go.Sort.ahead w n) blk gb.off vals
 have hheap : ∀ j, w1.heap[j]? = if blk = j then (w.heap[j]?).map (onCells (putCells id gb.off vals)) else w.heap[j]? := by
  intro j
  show ((Go.Sort.ahead w n).heap.modify blk _)[j]? = _
  rw [Array.getElem?_modify]
  rfl
 have hsize : w1.heap.size = w.heap.size := by
  show ((Go.Sort.ahead w n).heap.modify blk _).size = _
  rw [Array.size_modify]
  rfl
 have hnew : w1.heap[blk]? = some (.cells (putCells id gb.off vals cells.toArray) el (lo, hi)) := by
  rw [hheap blk, if_pos rfl, h1]
  rfl
 have hcs : (putCells id gb.off vals cells.toArray).size = cells.length := by unfold putCells; simp
 have hup := hs.upd (w' := w1) hg hbk ho hno rfl rfl rfl (by rw [hsize]; exact Nat.le_refl _) (fun j hj _ => by rw [hheap j, if_neg (Ne.symm hj)]) (.row T false y) (by
  refine ⟨k1, k2, by rw [hlen]; exact k3, k4, ?_⟩
  simp only [hbk, ho]
  refine ⟨(putCells id gb.off vals cells.toArray).toList, vals.toList, ⟨el, lo, hi, by simpa using hnew, fun o ho' => h2 o (by rw [Array.length_toList, hcs] at ho'; exact ho')⟩, by rw [Array.length_toList, hcs]; exact c2, hel, ?_, fun _ => hno, fun h => nomatch h⟩
  intro j v e
  have hj : j < vals.size := by
   have := (List.getElem?_eq_some_iff.1 e).1
   rwa [Array.length_toList] at this
  have hcap : l.length * T.size ≤ gb.cap * T.size := Nat.mul_le_mul_right _ (by omega)
  rw [Array.getElem?_toList] at e ⊢
  rw [putCells_get (by simp; omega), if_pos ⟨by omega, by omega⟩, Nat.add_sub_cancel_left]
  rw [getElem!_pos vals j hj]
  rw [Array.getElem?_eq_getElem hj] at e
  exact e)
 have hgrow : ∀ j, j < w1.heap.size → (grow w1 os).heap[j]? = w1.heap[j]? := by
  intro j hj
  show (w1.heap ++ os)[j]? = _
  rw [Array.getElem?_append_left hj]
 refine ⟨hup.1.grow hgrow, hup.2.trans ⟨rfl, rfl, rfl, ?_, fun _ _ _ h => h, fun _ _ h => .inl h, fun _ h => .inl h, fun j hj _ => hgrow j hj⟩⟩
 show w1.heap.size ≤ (w1.heap ++ os).size
 rw [Array.size_append]
 omega
theorem putRow_map {α : Type} [Inhabited α] (enc : α → Value) (w : World) (blk off : Nat) (d : Array α) : putRow enc w blk off d = putRow id w blk off (d.map enc) := by
 unfold putRow
 congr 1
 funext c
 unfold putCells
 congr 1
 funext k x
 rw [Array.size_map]
 split
 ·rename_i h
  rw [getElem!_pos d (k - off) (by omega), id, getElem!_pos (d.map enc) (k - off) (by rw [Array.size_map]; omega), Array.getElem_map]
 ·rfl
theorem row_arg {g : Gh} {s : St} {tm : Array Value} {tms : List (Array Value)} {w : World} (hs : StR g s tm tms w) {b : Nat} {T : Ty} {l : List T.den} (hb : find s.bxs b = some (.row T false l)) {v : Value} (hv : VR g (.row b .whole) v) :
  (l = [] ∧ ∃ p cap, v = .slice p 0 cap) ∨ ∃ gb blk cells cs, g.bx b = some gb ∧ gb.blk = some blk ∧ gb.own = true ∧ v = .slice (some ⟨blk, gb.off, none⟩) l.length gb.cap ∧ BlkIs w blk cells ∧ gb.off + gb.cap * T.size ≤ cells.length ∧ l.length ≤ gb.cap ∧
   Elems (CR g.fz T) l cs ∧ (∀ j v, cs[j]? = some v → cells[gb.off + j]? = some v) ∧ blk < w.heap.size := by
 obtain ⟨gb, v0, e1, e2, e3, hw⟩ := hv
 simp only [List.cons.injEq, and_true] at e3
 subst e3
 obtain ⟨gb', f1, f2⟩ := hs.bxs.box _ _ hb
 rw [e1] at f1
 cases f1
 obtain ⟨k1, k2, k3, k4, k5⟩ := f2
 cases hbk : gb.blk with
 | none =>
  simp only [hbk] at k5
  simp only [WinR, hbk] at hw
  exact .inl ⟨k5.1, none, 0, hw.1⟩
 | some blk =>
  simp only [WinR, hbk] at hw
  cases ho : gb.own with
  | false =>
   simp only [hbk, ho] at k5
   rcases k5.1 with h | h
   ·cases h
   ·refine .inl ⟨h, some ⟨blk, gb.off, none⟩, gb.cap, ?_⟩
    rw [hw, k3, h]
    rfl
  | true =>
   simp only [hbk, ho] at k5
   obtain ⟨cells, cs, c1, c2, c3, c4, c5, _⟩ := k5
   have hlt : blk < w.heap.size := by
    obtain ⟨_, _, _, h, _⟩ := c1
    exact (Array.getElem?_eq_some_iff.1 h).1
   exact .inr ⟨gb, blk, cells, cs, e1, hbk, ho, by rw [hw, k3], c1, c2, by omega, c3, c4, hlt⟩
theorem vsR_one {g : Gh} {v : AV} {l : List AV} {vals : Array Value} (h : VsR g (v :: l) vals.toList) : ∃ c cs, vals = #[c] ++ cs ∧ VR g v c ∧ VsR g l cs.toList := by
 obtain ⟨vs⟩ := vals
 cases vs with
 | nil => exact h.elim
 | cons c vs => exact ⟨c, vs.toArray, by simp, h.1, h.2⟩
theorem blkIs_holds {w : World} {blk off : Nat} {cells : List Value} (h : BlkIs w blk cells) {vals : List Value} (hv : ∀ j v, vals[j]? = some v → cells[off + j]? = some v) : Holds id w blk off vals.toArray := by
 intro j hj
 have hj' : j < vals.length := by simpa using hj
 have he : vals[j]? = some vals[j] := List.getElem?_eq_getElem hj'
 have hc := hv j _ he
 obtain ⟨el, lo, hi, h1, h2⟩ := h
 have hlt : off + j < cells.length := (List.getElem?_eq_some_iff.1 hc).1
 refine ⟨?_, ?_⟩
 ·have hB : BlkIs w blk cells := ⟨el, lo, hi, h1, h2⟩
  rw [hB.cell (off + j), hc, id, getElem!_pos vals.toArray j hj]
  rfl
 ·have h3 := h2 (off + j) hlt
  simp only [World.frozen?, h1]
  simpa using h3
end Go.V
namespace Go.Proofs
open Go.Shelf
def Tryz.lays189_ren : Go.Shelf.Ren := ⟨fun | 189 => 71 | 125 => 124 | 257 => 123 | 128 => 184 | 129 => 185 | 294 => 175 | 295 => 176 | 296 => 177 | 297 => 178 | 298 => 179 | 299 => 180 | 216 => 181 | 300 => 182 | 301 => 183 | 328 => 215 | 329 => 216 | 330 => 217 | 331 => 218 | 332 => 219 | 215 => 220 | 343 => 232 | n => n, fun | 28 => 24 | 3 => 3 | 46 => 164 | 0 => 0 | 51 => 178 | 53 => 206 | 4 => 4 | 183 => 210 | 182 => 209 | 131 => 185 | 5 => 5 | 9 => 9 | 218 => 240 | 222 => 194 | 228 => 257 | 229 => 258 | n => n, fun | n => n⟩
theorem Tryz.lays189 : Go.Proofs.Lays.n189 Tryz.prog Tryz.lays189_ren := {
 mixed := by kernel_rfl
 f125 := Tryz.func124.trans (congrArg some (by kernel_rfl))
 f128 := Tryz.func184.trans (congrArg some (by kernel_rfl))
 f129 := Tryz.func185.trans (congrArg some (by kernel_rfl))
 f189 := Tryz.func71.trans (congrArg some (by kernel_rfl))
 f215 := Tryz.func220.trans (congrArg some (by kernel_rfl))
 f216 := Tryz.func181.trans (congrArg some (by kernel_rfl))
 f257 := Tryz.func123.trans (congrArg some (by kernel_rfl))
 f294 := Tryz.func175.trans (congrArg some (by kernel_rfl))
 f295 := Tryz.func176.trans (congrArg some (by kernel_rfl))
 f296 := Tryz.func177.trans (congrArg some (by kernel_rfl))
 f297 := Tryz.func178.trans (congrArg some (by kernel_rfl))
 f298 := Tryz.func179.trans (congrArg some (by kernel_rfl))
 f299 := Tryz.func180.trans (congrArg some (by kernel_rfl))
 f300 := Tryz.func182.trans (congrArg some (by kernel_rfl))
 f301 := Tryz.func183.trans (congrArg some (by kernel_rfl))
 f328 := Tryz.func215.trans (congrArg some (by kernel_rfl))
 f329 := Tryz.func216.trans (congrArg some (by kernel_rfl))
 f330 := Tryz.func217.trans (congrArg some (by kernel_rfl))
 f331 := Tryz.func218.trans (congrArg some (by kernel_rfl))
 f332 := Tryz.func219.trans (congrArg some (by kernel_rfl))
 f343 := Tryz.func232.trans (congrArg some (by kernel_rfl))
 t0 := Tryz.underlying0
 a0 := Tryz.isAgg0
 z0 := Tryz.sizeOf0
 v0 := Tryz.zeroValue0
 t3 := Tryz.underlying3
 a3 := Tryz.isAgg3
 z3 := Tryz.sizeOf3
 v3 := Tryz.zeroValue3
 t4 := Tryz.underlying4
 a4 := Tryz.isAgg4
 z4 := Tryz.sizeOf4
 v4 := Tryz.zeroValue4
 t5 := Tryz.underlying5
 a5 := Tryz.isAgg5
 z5 := Tryz.sizeOf5
 v5 := Tryz.zeroValue5
 t9 := Tryz.underlying9
 a9 := Tryz.isAgg9
 z9 := Tryz.sizeOf9
 v9 := Tryz.zeroValue9
 t28 := Tryz.underlying24
 a28 := Tryz.isAgg24
 z28 := Tryz.sizeOf24
 v28 := Tryz.zeroValue24
 t46 := Tryz.underlying164
 a46 := Tryz.isAgg164
 z46 := Tryz.sizeOf164
 v46 := Tryz.zeroValue164
 t51 := Tryz.underlying178
 a51 := Tryz.isAgg178
 z51 := Tryz.sizeOf178
 v51 := Tryz.zeroValue178
 t53 := Tryz.underlying206
 a53 := Tryz.isAgg206
 z53 := Tryz.sizeOf206
 v53 := Tryz.zeroValue206
 t131 := Tryz.underlying185
 a131 := Tryz.isAgg185
 z131 := Tryz.sizeOf185
 v131 := Tryz.zeroValue185
 t182 := Tryz.underlying209
 a182 := Tryz.isAgg209
 z182 := Tryz.sizeOf209
 v182 := Tryz.zeroValue209
 t183 := Tryz.underlying210
 a183 := Tryz.isAgg210
 z183 := Tryz.sizeOf210
 v183 := Tryz.zeroValue210
 t218 := Tryz.underlying240
 a218 := Tryz.isAgg240
 z218 := Tryz.sizeOf240
 v218 := Tryz.zeroValue240
 t222 := Tryz.underlying194
 a222 := Tryz.isAgg194
 z222 := Tryz.sizeOf194
 v222 := Tryz.zeroValue194
 t228 := Tryz.underlying257
 a228 := Tryz.isAgg257
 z228 := Tryz.sizeOf257
 v228 := Tryz.zeroValue257
 t229 := Tryz.underlying258
 a229 := Tryz.isAgg258
 z229 := Tryz.sizeOf258
 v229 := Tryz.zeroValue258 }
end Go.Proofs
namespace Go.V.G
open Go.Proofs Go.Sort
def sortInts (l : List Int) : Option (List Int) := bif decide (l.length ≤ 1073741824) then some (l.mergeSort fun x y => decide (x ≤ y)) else none
def sortInts_spec : ISpec := { T := .int .i64, rest := [], fn := sortInts }
theorem elems_ints {fz : Nat → Nat → Option Value} : ∀ (l : List Int), Elems (CR fz (.int .i64)) l (l.map (Value.int .i64))
 | [] => rfl
 | x :: l => ⟨[.int .i64 x], l.map (Value.int .i64), rfl, rfl, elems_ints l⟩
theorem elems_ints_eq {fz : Nat → Nat → Option Value} : ∀ {l : List Int} {cs : List Value}, Elems (CR fz (.int .i64)) l cs → cs = l.map (Value.int .i64)
 | [], _, h => h
 | x :: l, _, ⟨c1, c2, e, h1, h2⟩ => by
  have h1' : c1 = [.int .i64 x] := h1
  rw [e, h1', elems_ints_eq h2]
  rfl
theorem sortInts_inpl : InOK Go.Proofs.Tryz.prog cfg 71 sortInts_spec := by
 intro g s tm tms w b (l : List Int) (y : List Int) vals hs hG (hb : find s.bxs b = some (.row (.int .i64) false l)) (hy : sortInts l = some y) (hv : VsR g [.row b .whole] vals.toList)
 show Calls Go.Proofs.Tryz.prog 71 vals w fun e w' => ∃ g', e = .returned (.tuple #[]) ∧ StR g' { s with bxs := setB s.bxs b (.row (.int .i64) false y) } tm tms w' ∧ Tr g w g' w'
 obtain ⟨c, cs0, rfl, hc, hr⟩ := vsR_one hv
 have hcs : cs0 = #[] := by
  obtain ⟨l0⟩ := cs0
  cases l0 with
  | nil => rfl
  | cons a l0 => exact hr.elim
 subst hcs
 rw [Array.append_empty]
 unfold sortInts at hy
 cases hlim : decide (l.length ≤ 1073741824) with
 | false => rw [hlim] at hy; cases hy
 | true =>
  rw [hlim, cond_true, Option.some.injEq] at hy
  have hlim' := of_decide_eq_true hlim
  rcases row_arg hs hb hc with ⟨rfl, p, cap, rfl⟩ | ⟨gb, blk, cells, cs, e1, e2, e3, rfl, e4, e5, e6, e7, e8, e9⟩
  ·refine Calls.mono (Any.slices_Sort_int_none Tryz.lays189 p cap w) ?_
   rintro e w' ⟨rfl, rfl⟩
   have hy0 : y = [] := by rw [← hy]; simp
   subst hy0
   exact ⟨g, rfl, hs.bxSame hb, Tr.refl _ _⟩
  ·have hcs := elems_ints_eq e7
   subst hcs
   have hH : Holds (Value.int .i64) w blk gb.off l.toArray := by
    have h := blkIs_holds e4 e8
    intro j hj
    have hj' : j < (List.map (Value.int .i64) l).toArray.size := by simpa using hj
    obtain ⟨h1, h2⟩ := h j hj'
    refine ⟨?_, h2⟩
    rw [h1, id, getElem!_pos _ j hj', getElem!_pos _ j hj]
    simp
   refine Calls.mono (Any.slices_Sort_int Tryz.lays189 blk gb.off gb.cap l w hH e9 (by omega)) ?_
   rintro e w' ⟨rfl, n, os, rfl⟩
   rw [putRow_map]
   refine ⟨g, rfl, ?_⟩
   have hlen : y.length = l.length := by rw [← hy]; exact List.length_mergeSort l
   refine row_put hs hb e1 e2 e3 n ?_ hlen os
   rw [hy]
   have : (Array.map (Value.int .i64) y.toArray).toList = y.map (Value.int .i64) := by simp
   rw [this]
   exact elems_ints y
theorem sortInts_enter : Enterable Go.Proofs.Tryz.prog 71 := enter_fun Go.Proofs.Tryz.func71 (by kernel_rfl)
end Go.V.G
namespace Go.Proofs
open Go.Shelf Go.RowKit Go.Lib Go.Sort
def Tryz.laysV_ren : Go.Shelf.Ren := ⟨fun | 6 => 120 | 15 => 124 | 14 => 174 | 28 => 184 | 29 => 185 | 20 => 207 | 21 => 208 | 22 => 209 | 23 => 210 | 24 => 211 | 25 => 212 | 26 => 213 | 27 => 214 | 46 => 229 | 47 => 216 | 48 => 217 | 49 => 230 | 50 => 231 | 57 => 238 | n => n, fun | 22 => 22 | 24 => 51 | 25 => 161 | 3 => 3 | 39 => 164 | 0 => 0 | 53 => 178 | 55 => 206 | 4 => 4 | 46 => 210 | 45 => 209 | 50 => 185 | 5 => 5 | 9 => 9 | 66 => 240 | 70 => 194 | 76 => 257 | 77 => 258 | n => n, fun | n => n⟩
theorem Tryz.laysV : Go.Proofs.SlLaysF0.n6 Tryz.prog Tryz.laysV_ren := {
 mixed := by kernel_rfl
 f6 := ⟨Tryz.f120.name, by decide, Tryz.func120.trans (congrArg some (by kernel_rfl))⟩
 f14 := ⟨Tryz.f174.name, by decide, Tryz.func174.trans (congrArg some (by kernel_rfl))⟩
 f15 := Tryz.func124.trans (congrArg some (by kernel_rfl))
 f20 := ⟨Tryz.f207.name, by decide, Tryz.func207.trans (congrArg some (by kernel_rfl))⟩
 f21 := ⟨Tryz.f208.name, by decide, Tryz.func208.trans (congrArg some (by kernel_rfl))⟩
 f22 := ⟨Tryz.f209.name, by decide, Tryz.func209.trans (congrArg some (by kernel_rfl))⟩
 f23 := ⟨Tryz.f210.name, by decide, Tryz.func210.trans (congrArg some (by kernel_rfl))⟩
 f24 := ⟨Tryz.f211.name, by decide, Tryz.func211.trans (congrArg some (by kernel_rfl))⟩
 f25 := ⟨Tryz.f212.name, by decide, Tryz.func212.trans (congrArg some (by kernel_rfl))⟩
 f26 := ⟨Tryz.f213.name, by decide, Tryz.func213.trans (congrArg some (by kernel_rfl))⟩
 f27 := ⟨Tryz.f214.name, by decide, Tryz.func214.trans (congrArg some (by kernel_rfl))⟩
 f28 := Tryz.func184.trans (congrArg some (by kernel_rfl))
 f29 := Tryz.func185.trans (congrArg some (by kernel_rfl))
 f46 := ⟨Tryz.f229.name, by decide, Tryz.func229.trans (congrArg some (by kernel_rfl))⟩
 f47 := Tryz.func216.trans (congrArg some (by kernel_rfl))
 f48 := Tryz.func217.trans (congrArg some (by kernel_rfl))
 f49 := ⟨Tryz.f230.name, by decide, Tryz.func230.trans (congrArg some (by kernel_rfl))⟩
 f50 := ⟨Tryz.f231.name, by decide, Tryz.func231.trans (congrArg some (by kernel_rfl))⟩
 f57 := ⟨Tryz.f238.name, by decide, Tryz.func238.trans (congrArg some (by kernel_rfl))⟩
 t0 := Tryz.underlying0
 a0 := Tryz.isAgg0
 z0 := Tryz.sizeOf0
 v0 := Tryz.zeroValue0
 t3 := Tryz.underlying3
 a3 := Tryz.isAgg3
 z3 := Tryz.sizeOf3
 v3 := Tryz.zeroValue3
 t4 := Tryz.underlying4
 a4 := Tryz.isAgg4
 z4 := Tryz.sizeOf4
 v4 := Tryz.zeroValue4
 t5 := Tryz.underlying5
 a5 := Tryz.isAgg5
 z5 := Tryz.sizeOf5
 v5 := Tryz.zeroValue5
 t9 := Tryz.underlying9
 a9 := Tryz.isAgg9
 z9 := Tryz.sizeOf9
 v9 := Tryz.zeroValue9
 t22 := Tryz.underlying22
 a22 := Tryz.isAgg22
 z22 := Tryz.sizeOf22
 v22 := Tryz.zeroValue22
 t25 := Tryz.underlying161
 a25 := Tryz.isAgg161
 z25 := Tryz.sizeOf161
 v25 := Tryz.zeroValue161
 t39 := Tryz.underlying164
 a39 := Tryz.isAgg164
 z39 := Tryz.sizeOf164
 v39 := Tryz.zeroValue164
 t45 := Tryz.underlying209
 a45 := Tryz.isAgg209
 z45 := Tryz.sizeOf209
 v45 := Tryz.zeroValue209
 t46 := Tryz.underlying210
 a46 := Tryz.isAgg210
 z46 := Tryz.sizeOf210
 v46 := Tryz.zeroValue210
 t50 := Tryz.underlying185
 a50 := Tryz.isAgg185
 z50 := Tryz.sizeOf185
 v50 := Tryz.zeroValue185
 t53 := Tryz.underlying178
 a53 := Tryz.isAgg178
 z53 := Tryz.sizeOf178
 v53 := Tryz.zeroValue178
 t55 := Tryz.underlying206
 a55 := Tryz.isAgg206
 z55 := Tryz.sizeOf206
 v55 := Tryz.zeroValue206
 t66 := Tryz.underlying240
 a66 := Tryz.isAgg240
 z66 := Tryz.sizeOf240
 v66 := Tryz.zeroValue240
 t70 := Tryz.underlying194
 a70 := Tryz.isAgg194
 z70 := Tryz.sizeOf194
 v70 := Tryz.zeroValue194
 t76 := Tryz.underlying257
 a76 := Tryz.isAgg257
 z76 := Tryz.sizeOf257
 v76 := Tryz.zeroValue257
 t77 := Tryz.underlying258
 a77 := Tryz.isAgg258
 z77 := Tryz.sizeOf258
 v77 := Tryz.zeroValue258 }
set_option maxHeartbeats 2000000 in
theorem cmp_walk (a sa b sb : Int) (W : World) (h : IntKind.i64.wrap (a - b) = a - b) :
  Calls Tryz.prog 121 #[.agg #[.int .i64 a, .int .i64 sa], .agg #[.int .i64 b, .int .i64 sb]] W fun e w' => e = .returned (.int .i64 (a - b)) ∧ ∃ q os', w' = grow (W.drewN q) os' := by
 go_enter Tryz.func121, Tryz.ntmps121
 go_wp2
 go_ret
 refine ⟨rfl, 0, #[.cells #[.int .i64 a, .int .i64 sa] 51, .cells #[.int .i64 b, .int .i64 sb] 51], ?_⟩
 rw [alloc_eq_grow, alloc_eq_grow, grow_grow]
 rfl
end Go.Proofs
namespace Go.V.G
open Go.Proofs Go.Sort
abbrev VX := Int × Int × Unit
def leV (x y : VX) : Bool := decide (x.1 ≤ y.1)
def distinctV : List VX → Bool
 | [] => true
 | x :: l => l.all (fun y => !decide (x.1 = y.1)) && distinctV l
def smallV (l : List VX) : Bool := l.all fun x => decide (-4611686018427387904 ≤ x.1) && decide (x.1 ≤ 4611686018427387903)
def sortV (l : List VX) : Option (List VX) := bif !l.isEmpty && distinctV l && smallV l && decide (l.length ≤ 1073741824) then some (l.mergeSort leV) else none
def sortV_spec : ISpec := { T := .pair (.int .i64) (.pair (.int .i64) .unit), rest := [.fn 121 []], fn := sortV }
abbrev SV := { x : VX // -4611686018427387904 ≤ x.1 ∧ x.1 ≤ 4611686018427387903 }
instance : Inhabited SV := ⟨⟨(0, 0, ()), by decide⟩⟩
def encV2 (x : SV) : List Value := [.int .i64 x.1.1, .int .i64 x.1.2.1]
def cfV (x y : SV) : Int := x.1.1 - y.1.1
theorem lt_iff (x y : SV) : ltOf cfV x y = true ↔ x.1.1 < y.1.1 := by
 unfold ltOf cfV
 rw [decide_eq_true_eq]
 omega
theorem lt_iffF (x y : SV) : ltOf cfV x y = false ↔ y.1.1 ≤ x.1.1 := by
 rw [← Bool.not_eq_true, lt_iff]
 omega
theorem swoV : SWO (ltOf cfV) where
 irrefl := fun x => by rw [lt_iffF]; exact Int.le_refl _
 trans := fun x y z h1 h2 => by rw [lt_iff] at *; omega
 ntrans := fun x y z h1 h2 => by rw [lt_iffF] at *; omega
theorem cmpV (W : World) (blk off size : Nat) : CmpLays Tryz.prog 121 #[] encV2 2 cfV blk off size W := by
 intro m os dk _ x y
 have h : IntKind.i64.wrap (x.1.1 - y.1.1) = x.1.1 - y.1.1 := by
  obtain ⟨⟨a, _⟩, h1, h2⟩ := x
  obtain ⟨⟨b, _⟩, h3, h4⟩ := y
  simp only at h1 h2 h3 h4 ⊢
  simp [IntKind.wrap, IntKind.bits, IntKind.signed]
  omega
 exact cmp_walk x.1.1 x.1.2.1 y.1.1 y.1.2.1 _ h
theorem elemsV {fz : Nat → Nat → Option Value} : ∀ (l : List VX), Elems (CR fz (.pair (.int .i64) (.pair (.int .i64) .unit))) l (l.flatMap fun x => [.int .i64 x.1, .int .i64 x.2.1])
 | [] => rfl
 | x :: l => ⟨[.int .i64 x.1, .int .i64 x.2.1], _, rfl, ⟨[.int .i64 x.1], [.int .i64 x.2.1], rfl, rfl, ⟨[.int .i64 x.2.1], [], rfl, rfl, rfl⟩⟩, elemsV l⟩
theorem elemsV_eq {fz : Nat → Nat → Option Value} : ∀ {l : List VX} {cs : List Value}, Elems (CR fz (.pair (.int .i64) (.pair (.int .i64) .unit))) l cs → cs = l.flatMap fun x => [.int .i64 x.1, .int .i64 x.2.1]
 | [], _, h => h
 | x :: l, _, ⟨c1, c2, e, ⟨d1, d2, e1, h1, ⟨d3, d4, e2, h2, h3⟩⟩, h4⟩ => by
  have g1 : d1 = [.int .i64 x.1] := h1
  have g2 : d3 = [.int .i64 x.2.1] := h2
  have g3 : d4 = [] := h3
  rw [e, e1, e2, g1, g2, g3, elemsV_eq h4]
  rfl
theorem flatMap_two (l : List VX) (t : Nat) (h : t < 2 * l.length) : (l.flatMap fun x => [Value.int .i64 x.1, Value.int .i64 x.2.1])[t]? = some (if t % 2 = 0 then Value.int .i64 (l[t / 2]'(by omega)).1 else Value.int .i64 (l[t / 2]'(by omega)).2.1) := by
 induction l generalizing t with
 | nil => simp at h
 | cons x l ih =>
  match t, h with
  | 0, _ => rfl
  | 1, _ => rfl
  | t + 2, h =>
   have e1 : (t + 2) / 2 = t / 2 + 1 := by omega
   have e2 : (t + 2) % 2 = t % 2 := by omega
   have := ih t (by simp at h; omega)
   simp only [List.flatMap_cons, List.cons_append, List.nil_append, List.getElem?_cons_succ, this, e1, e2, List.getElem_cons_succ]
theorem flatMap_len (l : List VX) : (l.flatMap fun x => [Value.int .i64 x.1, Value.int .i64 x.2.1]).length = 2 * l.length := by
 induction l with
 | nil => rfl
 | cons x l ih => simp only [List.flatMap_cons, List.length_append, ih, List.length_cons, List.length_nil]; omega
theorem flatV (d : Array SV) : (flatK encV2 2 d).toList = (d.toList.map (·.1)).flatMap fun x => [.int .i64 x.1, .int .i64 x.2.1] := by
 apply List.ext_getElem?
 intro t
 by_cases ht : t < d.size * 2
 ·rw [flatMap_two _ t (by simp; omega), Array.getElem?_toList]
  have hsz : t < (flatK encV2 2 d).size := by rw [size_flatK]; exact ht
  rw [Array.getElem?_eq_getElem hsz, ← getElem!_pos (flatK encV2 2 d) t hsz, get_flatK _ _ _ _ ht]
  have hq : t / 2 < d.size := by omega
  rw [getElem!_pos d (t / 2) hq]
  simp only [List.getElem_map, Array.getElem_toList]
  have hm : t % 2 = 0 ∨ t % 2 = 1 := by omega
  rcases hm with hm | hm <;> rw [hm] <;> rfl
 ·rw [List.getElem?_eq_none (by rw [Array.length_toList, size_flatK]; omega), List.getElem?_eq_none (by rw [flatMap_len]; simp; omega)]
theorem distinct_ne : ∀ {l : List VX}, distinctV l = true → ∀ x ∈ l, ∀ y ∈ l, x.1 = y.1 → x = y
 | [], _, x, hx, _, _, _ => nomatch hx
 | z :: l, h, x, hx, y, hy, e => by
  simp only [distinctV, Bool.and_eq_true, List.all_eq_true, Bool.not_eq_true', decide_eq_false_iff_not] at h
  rcases List.mem_cons.1 hx with h1 | h1 <;> rcases List.mem_cons.1 hy with h2 | h2
  ·rw [h1, h2]
  ·exact absurd (by rw [← h1, e]) (h.1 y h2)
  ·exact absurd (by rw [← h2, e]) (h.1 x h1)
  ·exact distinct_ne h.2 x h1 y h2 e
theorem sortV_inpl : InOK Go.Proofs.Tryz.prog cfg 120 sortV_spec := by
 intro g s tm tms w b (l : List VX) (y : List VX) vals hs hG (hb : find s.bxs b = some (.row (.pair (.int .i64) (.pair (.int .i64) .unit)) false l)) (hy : sortV l = some y) (hv : VsR g [.row b .whole, .fn 121 []] vals.toList)
 show Calls Go.Proofs.Tryz.prog 120 vals w fun e w' => ∃ g', e = .returned (.tuple #[]) ∧ StR g' { s with bxs := setB s.bxs b (.row (.pair (.int .i64) (.pair (.int .i64) .unit)) false y) } tm tms w' ∧ Tr g w g' w'
 obtain ⟨c, cs0, rfl, hc, hr⟩ := vsR_one hv
 obtain ⟨c2, cs1, rfl, hc2, hr2⟩ := vsR_one hr
 have hcs : cs1 = #[] := by
  obtain ⟨l0⟩ := cs1
  cases l0 with
  | nil => rfl
  | cons a l0 => exact hr2.elim
 subst hcs
 have hf : c2 = .func (.func 121) #[] #[] := by
  obtain ⟨vs, e1, e2⟩ := hc2
  simp only [List.cons.injEq, and_true] at e1
  have : vs = #[] := by
   obtain ⟨l0⟩ := vs
   cases l0 with
   | nil => rfl
   | cons a l0 => exact e2.elim
  rw [e1, this]
 subst hf
 show Calls Go.Proofs.Tryz.prog 120 #[c, .func (.func 121) #[] #[]] w _
 unfold sortV at hy
 cases hlim : !l.isEmpty && distinctV l && smallV l && decide (l.length ≤ 1073741824) with
 | false => rw [hlim] at hy; cases hy
 | true =>
  rw [hlim, cond_true, Option.some.injEq] at hy
  simp only [Bool.and_eq_true, decide_eq_true_eq] at hlim
  obtain ⟨⟨⟨hne, hdis⟩, hsm⟩, hlim⟩ := hlim
  have hsm' : ∀ x ∈ l, -4611686018427387904 ≤ x.1 ∧ x.1 ≤ 4611686018427387903 := by
   intro x hx
   have := List.all_eq_true.1 hsm x hx
   simpa using this
  let d : Array SV := (l.attach.map fun x => ⟨x.1, hsm' x.1 x.2⟩).toArray
  have hd : d.toList.map (·.1) = l := by
   show (l.attach.map _).map _ = l
   rw [List.map_map]
   exact List.attach_map_subtype_val l
  have hds : d.size = l.length := by rw [← hd]; simp
  have eg : ∀ args w, (callFunc 121 args).run Go.Proofs.Tryz.prog w = .ok (.enter 121 args) w := fun args w => run_callFunc (enter_fun Go.Proofs.Tryz.func121 (by kernel_rfl)) args w
  have aE : ∀ w, (isAgg (Tryz.laysV_ren.t 24)).run Go.Proofs.Tryz.prog w = .ok true w := fun w => Tryz.isAgg51 w
  have zE : ∀ w, (Go.sizeOf (Tryz.laysV_ren.t 24)).run Go.Proofs.Tryz.prog w = .ok 2 w := fun w => Tryz.sizeOf51 w
  have h1 : ∀ x, ∀ v ∈ encV2 x, v.oneCell' = true := by
   intro x v hv
   simp only [encV2, List.mem_cons, List.not_mem_nil, or_false] at hv
   rcases hv with rfl | rfl <;> rfl
  rcases row_arg hs hb hc with ⟨rfl, p, cap, rfl⟩ | ⟨gb, blk, cells, cs, e1, e2, e3, rfl, e4, e5, e6, e7, e8, e9⟩
  ·cases hne
  ·have hcs := elemsV_eq e7
   have hfl : (flatK encV2 2 d).toList = cs := by rw [flatV, hd, hcs]
   have hH : HoldsK encV2 2 w blk gb.off d := by
    have h := blkIs_holds (vals := (flatK encV2 2 d).toList) e4 (by rw [hfl]; exact e8)
    have h2 : Holds id w blk gb.off (flatK encV2 2 d) := by simpa using h
    exact h2
   have hcall := AnyQ.slices_SortFunc Tryz.laysV 2 aE zE encV2 (fun _ => rfl) h1 cfV swoV 121 #[] blk gb.off gb.cap d w eg (cmpV w blk gb.off d.size) hH e9 (by rw [hds]; omega)
   rw [hds] at hcall
   refine Calls.mono hcall ?_
   rintro e w' ⟨rfl, d', n, os, hp, hso, rfl⟩
   refine ⟨g, rfl, ?_⟩
   have hsize : d'.size = d.size := hp.1
   have hperm : d'.toList.Perm d.toList := by
    have := hp.2.2
    rw [← hds] at this
    rwa [Array.extract_size, ← hsize, Array.extract_size] at this
   have hyy : d'.toList.map (·.1) = y := by
    rw [← hy]
    have hpm : (d'.toList.map (·.1)).Perm l := by rw [← hd]; exact hperm.map _
    refine List.Perm.eq_of_pairwise (le := fun x y : VX => leV x y = true) ?_ ?_ ?_ ?_
    ·intro a b ha hb' h3 h4
     simp only [leV, decide_eq_true_eq] at h3 h4
     exact distinct_ne hdis a (hpm.subset ha) b ((List.mergeSort_perm l leV).subset hb') (by omega)
    ·rw [List.pairwise_iff_getElem]
     intro i j hi hj hij
     simp only [List.length_map, Array.length_toList] at hi hj
     have := hso i j (Nat.zero_le _) hij (by rw [← hds, ← hsize]; exact hj)
     rw [getElem!_pos d' j hj, getElem!_pos d' i hi] at this
     rw [lt_iffF] at this
     simp only [List.getElem_map, Array.getElem_toList, leV, decide_eq_true_eq]
     omega
    ·exact List.pairwise_mergeSort (le := leV) (fun a b c h1 h2 => by simp only [leV, decide_eq_true_eq] at *; omega) (fun a b => by simp only [leV, Bool.or_eq_true, decide_eq_true_eq]; omega) l
    ·exact hpm.trans (List.mergeSort_perm l leV).symm
   have hlen : y.length = l.length := by rw [← hy]; exact List.length_mergeSort l
   refine row_put hs hb e1 e2 e3 n (vals := flatK encV2 2 d') ?_ hlen os
   rw [flatV, hyy]
   exact elemsV y
theorem sortV_enter : Enterable Go.Proofs.Tryz.prog 120 := enter_fun Go.Proofs.Tryz.func120 (by kernel_rfl)
end Go.V.G

namespace Go.V.G
def f98_l2_head : Ann := { env := [(0, .ty (.sl tV)), (1, .cst (.fn 99 [])), (5, TI)], stk := [[]], bxs := [] }
def f98_l2_outs : List (Ex × Ann) := [((.exit 0), { env := [], stk := [[]], bxs := [] }), (.ret, { env := [(4, .ty .bool)], stk := [[]], bxs := [] })]
def f98_l2 (t0 : (List Vx)) : Nat → Int → Option (outDen f98_l2_outs)
 | 0, _ => none
 | k + 1, t5 =>
  bif (decide (t5 < (t0.length : Int))) then
   bif (inR (IntKind.wrap .i64 (t5 - (1 : Int))) t0.length) then
    let v1 : Int := (at_ tV t0 (IntKind.wrap .i64 (t5 - (1 : Int)))).1
    bif (inR t5 t0.length) then
     let v2 : Int := (at_ tV t0 t5).1
     bif (decide (v1 ≥ v2)) then
      some (.inr ((false, ()), ((), ()), ()))
     else
      f98_l2 t0 k (IntKind.wrap .i64 (t5 + (1 : Int)))
    else none
   else none
  else
   some (.inl ((), ((), ()), ()))
def f98_l2_n (n : Nat) (x : f98_l2_head.den) := f98_l2 x.1.1 n x.1.2.1
def f98_l2_spec : LSpec := { thaws := [], head := f98_l2_head, outs := f98_l2_outs, fn := fun x => f98_l2_n (((x.1.1.length : Int) - x.1.2.1).toNat + 1) x }
abbrev f98_res : List Sh := [.ty .bool]
abbrev f98_outs : List (Nat × BSh) := []
def f98 (t0 : (List Vx)) : Option (shDen f98_res × bxsDen f98_outs) :=
 (f98_l2 t0 (((t0.length : Int) - (1 : Int)).toNat + 1) (1 : Int)).bind fun o3 =>
 Sum.elim (fun o4 =>
  some ((true, ()), ())) (fun o5 =>
  let u6 : Bool := o5.1.1
  some ((u6, ()), ())) o3
def f98_spec : CSpec := { thaws := [], args := [(0, .ty (.sl tV)), (1, .cst (.fn 99 []))], ins := [], res := f98_res, outs := f98_outs, fn := fun x => f98 x.1.1 }
noncomputable def f98_code : Code := Go.Proofs.Tryz.f98.body.getD .skip
noncomputable def f98_env : Env0 := { C := cfg, P := [], L := [(⟨12, 0, 98, 2⟩, f98_l2_spec)], F := [(98, Go.Proofs.Tryz.f98), (99, Go.Proofs.Tryz.f99)], S := [], R := [], I := [], tot := [(98, [4])] }
theorem f98_l2_ok : LoopOK f98_env 12 98 0 (loopAt f98_code 2) f98_l2_spec :=
 loopOK_of (by kernel_rfl) f98_l2_n (fun x o h => ⟨_, h⟩) (fun x => by kernel_rfl) (fun n x => by kernel_rfl)
theorem f98_run (x : envDen (f98_spec).args × bxsDen (f98_spec).ins) : runS f98_env 98 Go.Proofs.Tryz.f98 f98_code (f98_spec) x = (f98_spec).fn x := by kernel_rfl
theorem f98_enter : Enterable Go.Proofs.Tryz.prog 98 := enter_fun Go.Proofs.Tryz.func98 (by kernel_rfl)
theorem f98_envOK : EnvOK Go.Proofs.Tryz.prog f98_env := envOK_of cds (by kernel_rfl) cfg_ok trivial trivial ⟨⟨Go.Proofs.Tryz.func98, by kernel_rfl⟩, ⟨Go.Proofs.Tryz.func99, by kernel_rfl⟩, trivial⟩ ⟨⟨Go.Proofs.Tryz.f98, f98_code, rfl, rfl, f98_l2_ok⟩, trivial⟩ trivial trivial
theorem f98_call : CallOK Go.Proofs.Tryz.prog cfg 98 f98_spec := call_of_run f98_envOK (fn := Go.Proofs.Tryz.f98) (c := f98_code) rfl rfl f98_spec (by kernel_rfl) (fun x _ h => (f98_run x).trans h)
def f100_l2_head : Ann := { env := [(0, .ty (.sl tE)), (1, .cst (.fn 101 [])), (5, TI)], stk := [[]], bxs := [] }
def f100_l2_outs : List (Ex × Ann) := [((.exit 0), { env := [], stk := [[]], bxs := [] }), (.ret, { env := [(4, .ty .bool)], stk := [[]], bxs := [] })]
def f100_l2 (t0 : (List Ed)) : Nat → Int → Option (outDen f100_l2_outs)
 | 0, _ => none
 | k + 1, t5 =>
  bif (decide (t5 < (t0.length : Int))) then
   bif (inR (IntKind.wrap .i64 (t5 - (1 : Int))) t0.length) then
    let v1 : Int := (at_ tE t0 (IntKind.wrap .i64 (t5 - (1 : Int)))).1
    bif (inR t5 t0.length) then
     let v2 : Int := (at_ tE t0 t5).1
     bif (decide (v1 ≥ v2)) then
      some (.inr ((false, ()), ((), ()), ()))
     else
      f100_l2 t0 k (IntKind.wrap .i64 (t5 + (1 : Int)))
    else none
   else none
  else
   some (.inl ((), ((), ()), ()))
def f100_l2_n (n : Nat) (x : f100_l2_head.den) := f100_l2 x.1.1 n x.1.2.1
def f100_l2_spec : LSpec := { thaws := [], head := f100_l2_head, outs := f100_l2_outs, fn := fun x => f100_l2_n (((x.1.1.length : Int) - x.1.2.1).toNat + 1) x }
abbrev f100_res : List Sh := [.ty .bool]
abbrev f100_outs : List (Nat × BSh) := []
def f100 (t0 : (List Ed)) : Option (shDen f100_res × bxsDen f100_outs) :=
 (f100_l2 t0 (((t0.length : Int) - (1 : Int)).toNat + 1) (1 : Int)).bind fun o3 =>
 Sum.elim (fun o4 =>
  some ((true, ()), ())) (fun o5 =>
  let u6 : Bool := o5.1.1
  some ((u6, ()), ())) o3
def f100_spec : CSpec := { thaws := [], args := [(0, .ty (.sl tE)), (1, .cst (.fn 101 []))], ins := [], res := f100_res, outs := f100_outs, fn := fun x => f100 x.1.1 }
noncomputable def f100_code : Code := Go.Proofs.Tryz.f100.body.getD .skip
noncomputable def f100_env : Env0 := { C := cfg, P := [], L := [(⟨12, 0, 100, 2⟩, f100_l2_spec)], F := [(100, Go.Proofs.Tryz.f100), (101, Go.Proofs.Tryz.f101)], S := [], R := [], I := [], tot := [(100, [4])] }
theorem f100_l2_ok : LoopOK f100_env 12 100 0 (loopAt f100_code 2) f100_l2_spec :=
 loopOK_of (by kernel_rfl) f100_l2_n (fun x o h => ⟨_, h⟩) (fun x => by kernel_rfl) (fun n x => by kernel_rfl)
theorem f100_run (x : envDen (f100_spec).args × bxsDen (f100_spec).ins) : runS f100_env 100 Go.Proofs.Tryz.f100 f100_code (f100_spec) x = (f100_spec).fn x := by kernel_rfl
theorem f100_enter : Enterable Go.Proofs.Tryz.prog 100 := enter_fun Go.Proofs.Tryz.func100 (by kernel_rfl)
theorem f100_envOK : EnvOK Go.Proofs.Tryz.prog f100_env := envOK_of cds (by kernel_rfl) cfg_ok trivial trivial ⟨⟨Go.Proofs.Tryz.func100, by kernel_rfl⟩, ⟨Go.Proofs.Tryz.func101, by kernel_rfl⟩, trivial⟩ ⟨⟨Go.Proofs.Tryz.f100, f100_code, rfl, rfl, f100_l2_ok⟩, trivial⟩ trivial trivial
theorem f100_call : CallOK Go.Proofs.Tryz.prog cfg 100 f100_spec := call_of_run f100_envOK (fn := Go.Proofs.Tryz.f100) (c := f100_code) rfl rfl f100_spec (by kernel_rfl) (fun x _ h => (f100_run x).trans h)
def f199 (a0 : Int) (a1 : Int) : Option (Int × Unit) :=
 bif (decide (a0 ≠ a0)) then
  bif (decide (a1 ≠ a1)) then
   some ((0 : Int), ())
  else
   some ((-1 : Int), ())
 else
  bif (decide (a1 ≠ a1)) then
   some ((1 : Int), ())
  else
   bif (decide (a0 < a1)) then
    some ((-1 : Int), ())
   else
    bif (decide (a0 > a1)) then
     some ((1 : Int), ())
    else
     some ((0 : Int), ())
def f199_spec : PSpec := { args := [tI, tI], res := [tI], fn := fun x => f199 x.1 x.2.1 }
noncomputable def f199_code : Code := Go.Proofs.Tryz.f199.body.getD .skip
noncomputable def f199_env : Env0 := { C := cfg, P := [], L := [], F := [(199, Go.Proofs.Tryz.f199), (220, Go.Proofs.Tryz.f220)], S := [], R := [], I := [], tot := [] }
theorem f199_run (x : tysDen (f199_spec).args) : runF f199_env 199 Go.Proofs.Tryz.f199 f199_code (f199_spec).args (f199_spec).res x = f199_spec.fn x := by kernel_rfl
theorem f199_enter : Enterable Go.Proofs.Tryz.prog 199 := enter_fun Go.Proofs.Tryz.func199 (by kernel_rfl)
theorem f199_envOK : EnvOK Go.Proofs.Tryz.prog f199_env := envOK_of cds (by kernel_rfl) cfg_ok trivial trivial ⟨⟨Go.Proofs.Tryz.func199, by kernel_rfl⟩, ⟨Go.Proofs.Tryz.func220, by kernel_rfl⟩, trivial⟩ trivial trivial trivial
theorem f199_pure : PureOK Go.Proofs.Tryz.prog cfg 199 f199_spec := pure_of_run f199_envOK (fn := Go.Proofs.Tryz.f199) (c := f199_code) rfl rfl f199_spec (fun x _ h => (f199_run x).trans h)
def f202_l3_b10012000_head : Ann := { env := [(0, .ty (.sl tV)), (1, TI), (2, .cst (.fn 203 [])), (8, TI), (9, TI), (10, TI)], stk := [[(4, TI), (5, .ty .bool)], [(4, .ty .bool)], [(0, cP 17)]], bxs := [(17, .var [.ty (.sl tV), .ty (.sl tE), .ty (.sl tI)])] }
def f202_l3_b10012000_outs : List (Ex × Ann) := [((.exit 0), { env := [(0, .ty (.sl tV)), (1, TI), (2, .cst (.fn 203 [])), (8, TI), (9, TI)], stk := [[(4, TI), (5, .ty .bool)], [(4, .ty .bool)], [(0, cP 17)]], bxs := [(17, .var [.ty (.sl tV), .ty (.sl tE), .ty (.sl tI)])] })]
def f202_l3_b10012000 (t0 : (List Vx)) (t1 : Int) (t8 : Int) (k0t4 : Int) (k0t5 : Bool) (k1t4 : Bool) (b17g0 : (List Vx)) (b17g1 : (List Ed)) (b17g2 : (List Int)) : Nat → Int → Int → Option (outDen f202_l3_b10012000_outs)
 | 0, _, _ => none
 | k + 1, t9, t10 =>
  bif (decide (t9 < t10)) then
   let v1 : Int := (IntKind.wrap .u64 (IntKind.wrap .i64 (t9 + t10)))
   let v2 : Int := (IntKind.wrap .i64 (shrV .u64 v1 (1 : Int)))
   bif (inR v2 t0.length) then
    let v3 : Int := (at_ tV t0 v2).1
    (f199 v3 t1).bind fun y4 =>
    bif (decide (y4.1 < (0 : Int))) then
     f202_l3_b10012000 t0 t1 t8 k0t4 k0t5 k1t4 b17g0 b17g1 b17g2 k (IntKind.wrap .i64 (v2 + (1 : Int))) t10
    else
     f202_l3_b10012000 t0 t1 t8 k0t4 k0t5 k1t4 b17g0 b17g1 b17g2 k t9 v2
   else none
  else
   some ((t0, t1, t8, t9, ()), ((k0t4, k0t5, ()), (k1t4, ()), (), ()), ((b17g0, b17g1, b17g2, ()), ()))
def f202_l3_b10012000_n (n : Nat) (x : f202_l3_b10012000_head.den) := f202_l3_b10012000 x.1.1 x.1.2.1 x.1.2.2.1 x.2.1.1.1 x.2.1.1.2.1 x.2.1.2.1.1 x.2.2.1.1 x.2.2.1.2.1 x.2.2.1.2.2.1 n x.1.2.2.2.1 x.1.2.2.2.2.1
def f202_l3_b10012000_spec : LSpec := { thaws := [], head := f202_l3_b10012000_head, outs := f202_l3_b10012000_outs, fn := fun x => f202_l3_b10012000_n ((x.1.2.2.2.2.1 - x.1.2.2.2.1).toNat + 1) x }
abbrev f104_res : List Sh := [.ty .bool]
abbrev f104_outs : List (Nat × BSh) := [(17, .var [.ty (.sl tV), .ty (.sl tE), .ty (.sl tI)])]
def f104 (t1 : Int) (b17g0 : (List Vx)) (b17g1 : (List Ed)) (b17g2 : (List Int)) : Option (shDen f104_res × bxsDen f104_outs) :=
 (f202_l3_b10012000 b17g0 t1 (b17g0.length : Int) (0 : Int) false false b17g0 b17g1 b17g2 (((b17g0.length : Int) - (0 : Int)).toNat + 1) (0 : Int) (b17g0.length : Int)).bind fun o5 =>
 let u6 : (List Vx) := o5.1.1
 let u7 : Int := o5.1.2.1
 let u8 : Int := o5.1.2.2.1
 let u9 : Int := o5.1.2.2.2.1
 let u13 : (List Vx) := o5.2.2.1.1
 let u14 : (List Ed) := o5.2.2.1.2.1
 let u15 : (List Int) := o5.2.2.1.2.2.1
 bif (decide (u9 < u8)) then
  bif (inR u9 u6.length) then
   let v16 : Int := (at_ tV u6 u9).1
   (f199 v16 u7).bind fun y17 =>
   some (((decide (y17.1 = (0 : Int))), ()), ((u13, u14, u15, ()), ()))
  else none
 else
  some ((false, ()), ((u13, u14, u15, ()), ()))
def f104_spec : CSpec := { thaws := [], args := [(0, cP 17), (1, TI)], ins := [(17, .var [.ty (.sl tV), .ty (.sl tE), .ty (.sl tI)])], res := f104_res, outs := f104_outs, fn := fun x => f104 x.1.1 x.2.1.1 x.2.1.2.1 x.2.1.2.2.1 }
noncomputable def f104_code : Code := Go.Proofs.Tryz.f104.body.getD .skip
noncomputable def f104_code_202 : Code := Go.Proofs.Tryz.f202.body.getD .skip
noncomputable def f104_env : Env0 := { C := cfg, P := [(199, f199_spec)], L := [(⟨10, 10012000, 202, 3⟩, f202_l3_b10012000_spec)], F := [(104, Go.Proofs.Tryz.f104), (164, Go.Proofs.Tryz.f164), (202, Go.Proofs.Tryz.f202), (203, Go.Proofs.Tryz.f203)], S := [], R := [], I := [], tot := [] }
theorem f202_l3_b10012000_ok : LoopOK f104_env 10 202 10012000 (loopAt f104_code_202 3) f202_l3_b10012000_spec :=
 loopOK_of (by kernel_rfl) f202_l3_b10012000_n (fun x o h => ⟨_, h⟩) (fun x => by kernel_rfl) (fun n x => by kernel_rfl)
theorem f104_run (x : envDen (f104_spec).args × bxsDen (f104_spec).ins) : runS f104_env 104 Go.Proofs.Tryz.f104 f104_code (f104_spec) x = (f104_spec).fn x := by kernel_rfl
theorem f104_enter : Enterable Go.Proofs.Tryz.prog 104 := enter_fun Go.Proofs.Tryz.func104 (by kernel_rfl)
theorem f104_envOK : EnvOK Go.Proofs.Tryz.prog f104_env := envOK_of cds (by kernel_rfl) cfg_ok ⟨⟨f199_pure, f199_enter⟩, trivial⟩ trivial ⟨⟨Go.Proofs.Tryz.func104, by kernel_rfl⟩, ⟨Go.Proofs.Tryz.func164, by kernel_rfl⟩, ⟨Go.Proofs.Tryz.func202, by kernel_rfl⟩, ⟨Go.Proofs.Tryz.func203, by kernel_rfl⟩, trivial⟩ ⟨⟨Go.Proofs.Tryz.f202, f104_code_202, rfl, rfl, f202_l3_b10012000_ok⟩, trivial⟩ trivial trivial
theorem f104_call : CallOK Go.Proofs.Tryz.prog cfg 104 f104_spec := call_of_run f104_envOK (fn := Go.Proofs.Tryz.f104) (c := f104_code) rfl rfl f104_spec (by kernel_rfl) (fun x _ h => (f104_run x).trans h)
def f115_l2_b7000_head : Ann := { env := [(0, .ty (.sl tV)), (1, .cst (.fn 106 [])), (7, TI), (8, TI)], stk := [[(4, .ty .bool)], []], bxs := [] }
def f115_l2_b7000_outs : List (Ex × Ann) := [((.exit 0), { env := [], stk := [[(4, .ty .bool)], []], bxs := [] }), (.ret, { env := [(4, TI)], stk := [[(4, .ty .bool)], []], bxs := [] })]
def f115_l2_b7000 (t0 : (List Vx)) (t7 : Int) (k0t4 : Bool) : Nat → Int → Option (outDen f115_l2_b7000_outs)
 | 0, _ => none
 | k + 1, t8 =>
  bif (decide (t8 < t7)) then
   bif (inR t8 t0.length) then
    let v1 : Int := (at_ tV t0 t8).1
    bif (decide ((0 : Int) ≤ v1)) then
     bif (decide (v1 ≤ (23 : Int))) then
      let v2 : Int := (at_ tV t0 t8).2.1
      bif (decide ((0 : Int) ≤ v2)) then
       bif (!(decide (v2 ≤ (3 : Int)))) then
        some (.inr ((t8, ()), ((k0t4, ()), (), ()), ()))
       else
        f115_l2_b7000 t0 t7 k0t4 k (IntKind.wrap .i64 (t8 + (1 : Int)))
      else
       some (.inr ((t8, ()), ((k0t4, ()), (), ()), ()))
     else
      some (.inr ((t8, ()), ((k0t4, ()), (), ()), ()))
    else
     some (.inr ((t8, ()), ((k0t4, ()), (), ()), ()))
   else none
  else
   some (.inl ((), ((k0t4, ()), (), ()), ()))
def f115_l2_b7000_n (n : Nat) (x : f115_l2_b7000_head.den) := f115_l2_b7000 x.1.1 x.1.2.1 x.2.1.1.1 n x.1.2.2.1
def f115_l2_b7000_spec : LSpec := { thaws := [], head := f115_l2_b7000_head, outs := f115_l2_b7000_outs, fn := fun x => f115_l2_b7000_n ((x.1.2.1 - x.1.2.2.1).toNat + 1) x }
abbrev f105_res : List Sh := [.ty .bool]
abbrev f105_outs : List (Nat × BSh) := []
def f105 (t0 : (List Vx)) : Option (shDen f105_res × bxsDen f105_outs) :=
 (f115_l2_b7000 t0 (t0.length : Int) false (((t0.length : Int) - (0 : Int)).toNat + 1) (0 : Int)).bind fun o3 =>
 Sum.elim (fun o4 =>
  some ((false, ()), ())) (fun o5 =>
  let u7 : Int := o5.1.1
  some (((decide (u7 ≥ (0 : Int))), ()), ())) o3
def f105_spec : CSpec := { thaws := [], args := [(0, .ty (.sl tV)), (1, .cst (.fn 106 []))], ins := [], res := f105_res, outs := f105_outs, fn := fun x => f105 x.1.1 }
noncomputable def f105_code : Code := Go.Proofs.Tryz.f105.body.getD .skip
noncomputable def f105_code_115 : Code := Go.Proofs.Tryz.f115.body.getD .skip
noncomputable def f105_env : Env0 := { C := cfg, P := [], L := [(⟨11, 7000, 115, 2⟩, f115_l2_b7000_spec)], F := [(105, Go.Proofs.Tryz.f105), (106, Go.Proofs.Tryz.f106), (107, Go.Proofs.Tryz.f107), (115, Go.Proofs.Tryz.f115), (155, Go.Proofs.Tryz.f155)], S := [], R := [], I := [], tot := [] }
theorem f115_l2_b7000_ok : LoopOK f105_env 11 115 7000 (loopAt f105_code_115 2) f115_l2_b7000_spec :=
 loopOK_of (by kernel_rfl) f115_l2_b7000_n (fun x o h => ⟨_, h⟩) (fun x => by kernel_rfl) (fun n x => by kernel_rfl)
theorem f105_run (x : envDen (f105_spec).args × bxsDen (f105_spec).ins) : runS f105_env 105 Go.Proofs.Tryz.f105 f105_code (f105_spec) x = (f105_spec).fn x := by kernel_rfl
theorem f105_enter : Enterable Go.Proofs.Tryz.prog 105 := enter_fun Go.Proofs.Tryz.func105 (by kernel_rfl)
theorem f105_envOK : EnvOK Go.Proofs.Tryz.prog f105_env := envOK_of cds (by kernel_rfl) cfg_ok trivial trivial ⟨⟨Go.Proofs.Tryz.func105, by kernel_rfl⟩, ⟨Go.Proofs.Tryz.func106, by kernel_rfl⟩, ⟨Go.Proofs.Tryz.func107, by kernel_rfl⟩, ⟨Go.Proofs.Tryz.func115, by kernel_rfl⟩, ⟨Go.Proofs.Tryz.func155, by kernel_rfl⟩, trivial⟩ ⟨⟨Go.Proofs.Tryz.f115, f105_code_115, rfl, rfl, f115_l2_b7000_ok⟩, trivial⟩ trivial trivial
theorem f105_call : CallOK Go.Proofs.Tryz.prog cfg 105 f105_spec := call_of_run f105_envOK (fn := Go.Proofs.Tryz.f105) (c := f105_code) rfl rfl f105_spec (by kernel_rfl) (fun x _ h => (f105_run x).trans h)
def f161_l2_head : Ann := { env := [(0, .ty (.sl tI)), (1, .cst (.fn 162 [])), (5, TI)], stk := [[]], bxs := [] }
def f161_l2_outs : List (Ex × Ann) := [((.exit 0), { env := [], stk := [[]], bxs := [] }), (.ret, { env := [(4, .ty .bool)], stk := [[]], bxs := [] })]
def f161_l2 (t0 : (List Int)) : Nat → Int → Option (outDen f161_l2_outs)
 | 0, _ => none
 | k + 1, t5 =>
  bif (decide (t5 < (t0.length : Int))) then
   bif (inR (IntKind.wrap .i64 (t5 - (1 : Int))) t0.length) then
    let v1 : Int := (at_ tI t0 (IntKind.wrap .i64 (t5 - (1 : Int))))
    bif (inR t5 t0.length) then
     bif (decide (v1 ≥ (at_ tI t0 t5))) then
      some (.inr ((false, ()), ((), ()), ()))
     else
      f161_l2 t0 k (IntKind.wrap .i64 (t5 + (1 : Int)))
    else none
   else none
  else
   some (.inl ((), ((), ()), ()))
def f161_l2_n (n : Nat) (x : f161_l2_head.den) := f161_l2 x.1.1 n x.1.2.1
def f161_l2_spec : LSpec := { thaws := [], head := f161_l2_head, outs := f161_l2_outs, fn := fun x => f161_l2_n (((x.1.1.length : Int) - x.1.2.1).toNat + 1) x }
abbrev f161_res : List Sh := [.ty .bool]
abbrev f161_outs : List (Nat × BSh) := []
def f161 (t0 : (List Int)) : Option (shDen f161_res × bxsDen f161_outs) :=
 (f161_l2 t0 (((t0.length : Int) - (1 : Int)).toNat + 1) (1 : Int)).bind fun o2 =>
 Sum.elim (fun o3 =>
  some ((true, ()), ())) (fun o4 =>
  let u5 : Bool := o4.1.1
  some ((u5, ()), ())) o2
def f161_spec : CSpec := { thaws := [], args := [(0, .ty (.sl tI)), (1, .cst (.fn 162 []))], ins := [], res := f161_res, outs := f161_outs, fn := fun x => f161 x.1.1 }
noncomputable def f161_code : Code := Go.Proofs.Tryz.f161.body.getD .skip
noncomputable def f161_env : Env0 := { C := cfg, P := [], L := [(⟨12, 0, 161, 2⟩, f161_l2_spec)], F := [(161, Go.Proofs.Tryz.f161), (162, Go.Proofs.Tryz.f162)], S := [], R := [], I := [], tot := [(161, [4])] }
theorem f161_l2_ok : LoopOK f161_env 12 161 0 (loopAt f161_code 2) f161_l2_spec :=
 loopOK_of (by kernel_rfl) f161_l2_n (fun x o h => ⟨_, h⟩) (fun x => by kernel_rfl) (fun n x => by kernel_rfl)
theorem f161_run (x : envDen (f161_spec).args × bxsDen (f161_spec).ins) : runS f161_env 161 Go.Proofs.Tryz.f161 f161_code (f161_spec) x = (f161_spec).fn x := by kernel_rfl
theorem f161_enter : Enterable Go.Proofs.Tryz.prog 161 := enter_fun Go.Proofs.Tryz.func161 (by kernel_rfl)
theorem f161_envOK : EnvOK Go.Proofs.Tryz.prog f161_env := envOK_of cds (by kernel_rfl) cfg_ok trivial trivial ⟨⟨Go.Proofs.Tryz.func161, by kernel_rfl⟩, ⟨Go.Proofs.Tryz.func162, by kernel_rfl⟩, trivial⟩ ⟨⟨Go.Proofs.Tryz.f161, f161_code, rfl, rfl, f161_l2_ok⟩, trivial⟩ trivial trivial
theorem f161_call : CallOK Go.Proofs.Tryz.prog cfg 161 f161_spec := call_of_run f161_envOK (fn := Go.Proofs.Tryz.f161) (c := f161_code) rfl rfl f161_spec (by kernel_rfl) (fun x _ h => (f161_run x).trans h)
def f125_l2_b25007000_head : Ann := { env := [(0, .ty (.sl tI)), (1, .cst (.fn 167 [(.ptr 1 0 [])])), (7, TI), (8, TI)], stk := [[(4, .ty .bool)], [(2, .ty .bool), (18, .ty .bool)], [(0, cP 17)]], bxs := [(1, .var [cP 17]), (17, .var [.ty (.sl tV), .ty (.sl tE), .ty (.sl tI)])] }
def f125_l2_b25007000_outs : List (Ex × Ann) := [((.exit 0), { env := [], stk := [[(4, .ty .bool)], [(2, .ty .bool), (18, .ty .bool)], [(0, cP 17)]], bxs := [(17, .var [.ty (.sl tV), .ty (.sl tE), .ty (.sl tI)])] }), (.ret, { env := [(4, TI)], stk := [[(4, .ty .bool)], [(2, .ty .bool), (18, .ty .bool)], [(0, cP 17)]], bxs := [(17, .var [.ty (.sl tV), .ty (.sl tE), .ty (.sl tI)])] })]
def f125_l2_b25007000 (t0 : (List Int)) (t7 : Int) (k0t4 : Bool) (k1t2 : Bool) (k1t18 : Bool) : Nat → Int → (List Vx) → (List Ed) → (List Int) → Option (outDen f125_l2_b25007000_outs)
 | 0, _, _, _, _ => none
 | k + 1, t8, b17g0, b17g1, b17g2 =>
  bif (decide (t8 < t7)) then
   bif (inR t8 t0.length) then
    (f104 (at_ tI t0 t8) b17g0 b17g1 b17g2).bind fun y4 =>
    let u5 : Bool := y4.1.1
    let u6 : (List Vx) := y4.2.1.1
    let u7 : (List Ed) := y4.2.1.2.1
    let u8 : (List Int) := y4.2.1.2.2.1
    bif (!u5) then
     some (.inr ((t8, ()), ((k0t4, ()), (k1t2, k1t18, ()), (), ()), ((u6, u7, u8, ()), ())))
    else
     f125_l2_b25007000 t0 t7 k0t4 k1t2 k1t18 k (IntKind.wrap .i64 (t8 + (1 : Int))) u6 u7 u8
   else none
  else
   some (.inl ((), ((k0t4, ()), (k1t2, k1t18, ()), (), ()), ((b17g0, b17g1, b17g2, ()), ())))
def f125_l2_b25007000_n (n : Nat) (x : f125_l2_b25007000_head.den) := f125_l2_b25007000 x.1.1 x.1.2.1 x.2.1.1.1 x.2.1.2.1.1 x.2.1.2.1.2.1 n x.1.2.2.1 x.2.2.2.1.1 x.2.2.2.1.2.1 x.2.2.2.1.2.2.1
def f125_l2_b25007000_spec : LSpec := { thaws := [], head := f125_l2_b25007000_head, outs := f125_l2_b25007000_outs, fn := fun x => f125_l2_b25007000_n ((x.1.2.1 - x.1.2.2.1).toNat + 1) x }
abbrev f108_res : List Sh := [.ty .bool]
abbrev f108_outs : List (Nat × BSh) := [(17, .var [.ty (.sl tV), .ty (.sl tE), .ty (.sl tI)])]
def f108 (b17g0 : (List Vx)) (b17g1 : (List Ed)) (b17g2 : (List Int)) : Option (shDen f108_res × bxsDen f108_outs) :=
 let v1 : Bool := (decide ((b17g2.length : Int) ≤ (3 : Int)))
 bif v1 then
  (f161 b17g2).bind fun y2 =>
  let u3 : Bool := y2.1.1
  bif u3 then
   (f125_l2_b25007000 b17g2 (b17g2.length : Int) false false true (((b17g2.length : Int) - (0 : Int)).toNat + 1) (0 : Int) b17g0 b17g1 b17g2).bind fun o9 =>
   Sum.elim (fun o10 =>
    let u14 : Bool := o10.2.1.2.1.2.1
    let u15 : (List Vx) := o10.2.2.1.1
    let u16 : (List Ed) := o10.2.2.1.2.1
    let u17 : (List Int) := o10.2.2.1.2.2.1
    bif u14 then
     some ((true, ()), ((u15, u16, u17, ()), ()))
    else
     some ((false, ()), ((u15, u16, u17, ()), ()))) (fun o11 =>
    let u18 : Int := o11.1.1
    let u21 : Bool := o11.2.1.2.1.2.1
    let u22 : (List Vx) := o11.2.2.1.1
    let u23 : (List Ed) := o11.2.2.1.2.1
    let u24 : (List Int) := o11.2.2.1.2.2.1
    bif u21 then
     some (((!(decide (u18 ≥ (0 : Int)))), ()), ((u22, u23, u24, ()), ()))
    else
     some ((false, ()), ((u22, u23, u24, ()), ()))) o9
  else
   some ((false, ()), ((b17g0, b17g1, b17g2, ()), ()))
 else
  some ((false, ()), ((b17g0, b17g1, b17g2, ()), ()))
def f108_spec : CSpec := { thaws := [], args := [(0, cP 17)], ins := [(17, .var [.ty (.sl tV), .ty (.sl tE), .ty (.sl tI)])], res := f108_res, outs := f108_outs, fn := fun x => f108 x.2.1.1 x.2.1.2.1 x.2.1.2.2.1 }
noncomputable def f108_code : Code := Go.Proofs.Tryz.f108.body.getD .skip
noncomputable def f108_code_125 : Code := Go.Proofs.Tryz.f125.body.getD .skip
noncomputable def f108_env : Env0 := { C := cfg, P := [], L := [(⟨10, 25007000, 125, 2⟩, f125_l2_b25007000_spec)], F := [(108, Go.Proofs.Tryz.f108), (125, Go.Proofs.Tryz.f125), (166, Go.Proofs.Tryz.f166), (167, Go.Proofs.Tryz.f167)], S := [(104, f104_spec), (161, f161_spec)], R := [], I := [], tot := [] }
theorem f125_l2_b25007000_ok : LoopOK f108_env 10 125 25007000 (loopAt f108_code_125 2) f125_l2_b25007000_spec :=
 loopOK_of (by kernel_rfl) f125_l2_b25007000_n (fun x o h => ⟨_, h⟩) (fun x => by kernel_rfl) (fun n x => by kernel_rfl)
theorem f108_run (x : envDen (f108_spec).args × bxsDen (f108_spec).ins) : runS f108_env 108 Go.Proofs.Tryz.f108 f108_code (f108_spec) x = (f108_spec).fn x := by kernel_rfl
theorem f108_enter : Enterable Go.Proofs.Tryz.prog 108 := enter_fun Go.Proofs.Tryz.func108 (by kernel_rfl)
theorem f108_envOK : EnvOK Go.Proofs.Tryz.prog f108_env := envOK_of cds (by kernel_rfl) cfg_ok trivial ⟨⟨f104_call, by kernel_rfl, f104_enter⟩, ⟨f161_call, by kernel_rfl, f161_enter⟩, trivial⟩ ⟨⟨Go.Proofs.Tryz.func108, by kernel_rfl⟩, ⟨Go.Proofs.Tryz.func125, by kernel_rfl⟩, ⟨Go.Proofs.Tryz.func166, by kernel_rfl⟩, ⟨Go.Proofs.Tryz.func167, by kernel_rfl⟩, trivial⟩ ⟨⟨Go.Proofs.Tryz.f125, f108_code_125, rfl, rfl, f125_l2_b25007000_ok⟩, trivial⟩ trivial trivial
theorem f108_call : CallOK Go.Proofs.Tryz.prog cfg 108 f108_spec := call_of_run f108_envOK (fn := Go.Proofs.Tryz.f108) (c := f108_code) rfl rfl f108_spec (by kernel_rfl) (fun x _ h => (f108_run x).trans h)
def f119_l2_b27007000_head : Ann := { env := [(0, .ty (.sl tE)), (1, .cst (.fn 102 [(.ptr 3 0 [])])), (7, TI), (8, TI)], stk := [[(4, .ty .bool)], [(2, .ty .bool), (3, cP 3), (23, .ty .bool)]], bxs := [(3, .var [cP 17]), (17, .var [.ty (.sl tV), .ty (.sl tE), .ty (.sl tI)])] }
def f119_l2_b27007000_outs : List (Ex × Ann) := [((.exit 0), { env := [], stk := [[(4, .ty .bool)], [(2, .ty .bool), (3, cP 3), (23, .ty .bool)]], bxs := [(3, .var [cP 17]), (17, .var [.ty (.sl tV), .ty (.sl tE), .ty (.sl tI)])] }), (.ret, { env := [(4, TI)], stk := [[(4, .ty .bool)], [(2, .ty .bool), (3, cP 3), (23, .ty .bool)]], bxs := [(3, .var [cP 17]), (17, .var [.ty (.sl tV), .ty (.sl tE), .ty (.sl tI)])] })]
def f119_l2_b27007000 (t0 : (List Ed)) (t7 : Int) (k0t4 : Bool) (k1t2 : Bool) (k1t23 : Bool) : Nat → Int → (List Vx) → (List Ed) → (List Int) → Option (outDen f119_l2_b27007000_outs)
 | 0, _, _, _, _ => none
 | k + 1, t8, b17g0, b17g1, b17g2 =>
  bif (decide (t8 < t7)) then
   bif (inR t8 t0.length) then
    let v7 : Int := (at_ tE t0 t8).1
    bif (decide ((0 : Int) ≤ v7)) then
     bif (decide (v7 ≤ (39 : Int))) then
      let v8 : Int := (at_ tE t0 t8).2.1
      bif (decide ((0 : Int) ≤ v8)) then
       bif (decide (v8 ≤ (23 : Int))) then
        let v9 : Int := (at_ tE t0 t8).2.2.1
        bif (decide ((0 : Int) ≤ v9)) then
         bif (decide (v9 ≤ (23 : Int))) then
          let v10 : Int := (at_ tE t0 t8).2.2.2.2.1
          bif (decide ((-1000 : Int) ≤ v10)) then
           bif (decide (v10 ≤ (1000 : Int))) then
            let v11 : Int := (at_ tE t0 t8).2.2.2.2.2.1
            bif (decide ((0 : Int) ≤ v11)) then
             bif (!(decide (v11 ≤ (1000 : Int)))) then
              some (.inr ((t8, ()), ((k0t4, ()), (k1t2, k1t23, ()), ()), ((), (b17g0, b17g1, b17g2, ()), ())))
             else
              let v12 : Int := (at_ tE t0 t8).2.1
              (f104 v12 b17g0 b17g1 b17g2).bind fun y13 =>
              let u14 : Bool := y13.1.1
              let u15 : (List Vx) := y13.2.1.1
              let u16 : (List Ed) := y13.2.1.2.1
              let u17 : (List Int) := y13.2.1.2.2.1
              bif (!u14) then
               some (.inr ((t8, ()), ((k0t4, ()), (k1t2, k1t23, ()), ()), ((), (u15, u16, u17, ()), ())))
              else
               let v18 : Int := (at_ tE t0 t8).2.2.1
               (f104 v18 u15 u16 u17).bind fun y19 =>
               let u20 : Bool := y19.1.1
               let u21 : (List Vx) := y19.2.1.1
               let u22 : (List Ed) := y19.2.1.2.1
               let u23 : (List Int) := y19.2.1.2.2.1
               bif (!u20) then
                some (.inr ((t8, ()), ((k0t4, ()), (k1t2, k1t23, ()), ()), ((), (u21, u22, u23, ()), ())))
               else
                f119_l2_b27007000 t0 t7 k0t4 k1t2 k1t23 k (IntKind.wrap .i64 (t8 + (1 : Int))) u21 u22 u23
            else
             some (.inr ((t8, ()), ((k0t4, ()), (k1t2, k1t23, ()), ()), ((), (b17g0, b17g1, b17g2, ()), ())))
           else
            some (.inr ((t8, ()), ((k0t4, ()), (k1t2, k1t23, ()), ()), ((), (b17g0, b17g1, b17g2, ()), ())))
          else
           some (.inr ((t8, ()), ((k0t4, ()), (k1t2, k1t23, ()), ()), ((), (b17g0, b17g1, b17g2, ()), ())))
         else
          some (.inr ((t8, ()), ((k0t4, ()), (k1t2, k1t23, ()), ()), ((), (b17g0, b17g1, b17g2, ()), ())))
        else
         some (.inr ((t8, ()), ((k0t4, ()), (k1t2, k1t23, ()), ()), ((), (b17g0, b17g1, b17g2, ()), ())))
       else
        some (.inr ((t8, ()), ((k0t4, ()), (k1t2, k1t23, ()), ()), ((), (b17g0, b17g1, b17g2, ()), ())))
      else
       some (.inr ((t8, ()), ((k0t4, ()), (k1t2, k1t23, ()), ()), ((), (b17g0, b17g1, b17g2, ()), ())))
     else
      some (.inr ((t8, ()), ((k0t4, ()), (k1t2, k1t23, ()), ()), ((), (b17g0, b17g1, b17g2, ()), ())))
    else
     some (.inr ((t8, ()), ((k0t4, ()), (k1t2, k1t23, ()), ()), ((), (b17g0, b17g1, b17g2, ()), ())))
   else none
  else
   some (.inl ((), ((k0t4, ()), (k1t2, k1t23, ()), ()), ((), (b17g0, b17g1, b17g2, ()), ())))
def f119_l2_b27007000_n (n : Nat) (x : f119_l2_b27007000_head.den) := f119_l2_b27007000 x.1.1 x.1.2.1 x.2.1.1.1 x.2.1.2.1.1 x.2.1.2.1.2.1 n x.1.2.2.1 x.2.2.2.1.1 x.2.2.2.1.2.1 x.2.2.2.1.2.2.1
def f119_l2_b27007000_spec : LSpec := { thaws := [], head := f119_l2_b27007000_head, outs := f119_l2_b27007000_outs, fn := fun x => f119_l2_b27007000_n ((x.1.2.1 - x.1.2.2.1).toNat + 1) x }
def f46 (a0 : Gr) : Option (Bool × Unit) :=
 (f98 a0.1).bind fun y1 =>
 let u2 : Bool := y1.1.1
 bif (!u2) then
  some (false, ())
 else
  (f100 a0.2.1).bind fun y3 =>
  let u4 : Bool := y3.1.1
  bif (!u4) then
   some (false, ())
  else
   (f105 a0.1).bind fun y5 =>
   let u6 : Bool := y5.1.1
   bif (!u6) then
    (f119_l2_b27007000 a0.2.1 (a0.2.1.length : Int) false false true (((a0.2.1.length : Int) - (0 : Int)).toNat + 1) (0 : Int) a0.1 a0.2.1 a0.2.2.1).bind fun o24 =>
    Sum.elim (fun o25 =>
     let u29 : Bool := o25.2.1.2.1.2.1
     let u30 : (List Vx) := o25.2.2.2.1.1
     let u31 : (List Ed) := o25.2.2.2.1.2.1
     let u32 : (List Int) := o25.2.2.2.1.2.2.1
     bif u29 then
      (f108 u30 u31 u32).bind fun y33 =>
      let u34 : Bool := y33.1.1
      let u35 : (List Vx) := y33.2.1.1
      let u36 : (List Ed) := y33.2.1.2.1
      let u37 : (List Int) := y33.2.1.2.2.1
      some (u34, ())
     else
      some (false, ())) (fun o26 =>
     let u38 : Int := o26.1.1
     let u41 : Bool := o26.2.1.2.1.2.1
     let u42 : (List Vx) := o26.2.2.2.1.1
     let u43 : (List Ed) := o26.2.2.2.1.2.1
     let u44 : (List Int) := o26.2.2.2.1.2.2.1
     bif u41 then
      bif (!(decide (u38 ≥ (0 : Int)))) then
       (f108 u42 u43 u44).bind fun y45 =>
       let u46 : Bool := y45.1.1
       let u47 : (List Vx) := y45.2.1.1
       let u48 : (List Ed) := y45.2.1.2.1
       let u49 : (List Int) := y45.2.1.2.2.1
       some (u46, ())
      else
       some (false, ())
     else
      some (false, ())) o24
   else
    some (false, ())
def f46_spec : PSpec := { args := [tG], res := [.bool], fn := fun x => f46 x.1 }
noncomputable def f46_code : Code := Go.Proofs.Tryz.f46.body.getD .skip
noncomputable def f46_code_119 : Code := Go.Proofs.Tryz.f119.body.getD .skip
noncomputable def f46_env : Env0 := { C := cfg, P := [], L := [(⟨10, 27007000, 119, 2⟩, f119_l2_b27007000_spec)], F := [(46, Go.Proofs.Tryz.f46), (66, Go.Proofs.Tryz.f66), (102, Go.Proofs.Tryz.f102), (103, Go.Proofs.Tryz.f103), (119, Go.Proofs.Tryz.f119), (155, Go.Proofs.Tryz.f155)], S := [(98, f98_spec), (100, f100_spec), (104, f104_spec), (105, f105_spec), (108, f108_spec)], R := [], I := [], tot := [] }
theorem f119_l2_b27007000_ok : LoopOK f46_env 10 119 27007000 (loopAt f46_code_119 2) f119_l2_b27007000_spec :=
 loopOK_of (by kernel_rfl) f119_l2_b27007000_n (fun x o h => ⟨_, h⟩) (fun x => by kernel_rfl) (fun n x => by kernel_rfl)
theorem f46_run (x : tysDen (f46_spec).args) : runF f46_env 46 Go.Proofs.Tryz.f46 f46_code (f46_spec).args (f46_spec).res x = f46_spec.fn x := by kernel_rfl
theorem f46_enter : Enterable Go.Proofs.Tryz.prog 46 := enter_fun Go.Proofs.Tryz.func46 (by kernel_rfl)
theorem f46_envOK : EnvOK Go.Proofs.Tryz.prog f46_env := envOK_of cds (by kernel_rfl) cfg_ok trivial ⟨⟨f98_call, by kernel_rfl, f98_enter⟩, ⟨f100_call, by kernel_rfl, f100_enter⟩, ⟨f104_call, by kernel_rfl, f104_enter⟩, ⟨f105_call, by kernel_rfl, f105_enter⟩, ⟨f108_call, by kernel_rfl, f108_enter⟩, trivial⟩ ⟨⟨Go.Proofs.Tryz.func46, by kernel_rfl⟩, ⟨Go.Proofs.Tryz.func66, by kernel_rfl⟩, ⟨Go.Proofs.Tryz.func102, by kernel_rfl⟩, ⟨Go.Proofs.Tryz.func103, by kernel_rfl⟩, ⟨Go.Proofs.Tryz.func119, by kernel_rfl⟩, ⟨Go.Proofs.Tryz.func155, by kernel_rfl⟩, trivial⟩ ⟨⟨Go.Proofs.Tryz.f119, f46_code_119, rfl, rfl, f119_l2_b27007000_ok⟩, trivial⟩ trivial trivial
theorem f46_pure : PureOK Go.Proofs.Tryz.prog cfg 46 f46_spec := pure_of_run f46_envOK (fn := Go.Proofs.Tryz.f46) (c := f46_code) rfl rfl f46_spec (fun x _ h => (f46_run x).trans h)
def f79_l2_head : Ann := { env := [(1, TI), (4, .cst (.row 27 .whole)), (8, .ty (.sl tE)), (9, TI), (10, TI)], stk := [], bxs := [(27, .row tE false)] }
def f79_l2_outs : List (Ex × Ann) := [((.exit 0), { env := [(4, .cst (.row 27 .whole))], stk := [], bxs := [(27, .row tE false)] })]
def f79_l2 (t1 : Int) (t8 : (List Ed)) (t9 : Int) : Nat → Int → (List Ed) → Option (outDen f79_l2_outs)
 | 0, _, _ => none
 | k + 1, t10, r27 =>
  bif (decide (t10 < t9)) then
   bif (inR t10 t8.length) then
    let v1 : Int := (at_ tE t8 t10).2.1
    bif (decide (v1 = t1)) then
     bif (decide (r27.length + ([(at_ tE t8 t10)] : List Ed).length ≤ appLim)) then f79_l2 t1 t8 t9 k (IntKind.wrap .i64 (t10 + (1 : Int))) (r27 ++ ([(at_ tE t8 t10)] : List Ed)) else none
    else
     let v2 : Int := (at_ tE t8 t10).2.2.1
     bif (decide (v2 = t1)) then
      bif (decide (r27.length + ([(at_ tE t8 t10)] : List Ed).length ≤ appLim)) then f79_l2 t1 t8 t9 k (IntKind.wrap .i64 (t10 + (1 : Int))) (r27 ++ ([(at_ tE t8 t10)] : List Ed)) else none
     else
      f79_l2 t1 t8 t9 k (IntKind.wrap .i64 (t10 + (1 : Int))) r27
   else none
  else
   some ((), (), (r27, ()))
def f79_l2_n (n : Nat) (x : f79_l2_head.den) := f79_l2 x.1.1 x.1.2.1 x.1.2.2.1 n x.1.2.2.2.1 x.2.2.1
def f79_l2_spec : LSpec := { thaws := [.slot 4 27 tE], head := f79_l2_head, outs := f79_l2_outs, fn := fun x => f79_l2_n ((x.1.2.2.1 - x.1.2.2.2.1).toNat + 1) x }
def f79 (a0 : Gr) (a1 : Int) : Option ((List Ed) × Unit) :=
 (f79_l2 a1 a0.2.1 (a0.2.1.length : Int) (((a0.2.1.length : Int) - (0 : Int)).toNat + 1) (0 : Int) []).bind fun o3 =>
 let u4 : (List Ed) := o3.2.2.1
 some (u4, ())
def f79_spec : PSpec := { args := [tG, tI], res := [(.sl tE)], fn := fun x => f79 x.1 x.2.1 }
noncomputable def f79_code : Code := Go.Proofs.Tryz.f79.body.getD .skip
noncomputable def f79_env : Env0 := { C := cfg, P := [], L := [(⟨12, 0, 79, 2⟩, f79_l2_spec)], F := [(79, Go.Proofs.Tryz.f79)], S := [], R := [], I := [], tot := [] }
theorem f79_l2_ok : LoopOK f79_env 12 79 0 (loopAt f79_code 2) f79_l2_spec :=
 loopOK_of (by kernel_rfl) f79_l2_n (fun x o h => ⟨_, h⟩) (fun x => by kernel_rfl) (fun n x => by kernel_rfl)
theorem f79_run (x : tysDen (f79_spec).args) : runF f79_env 79 Go.Proofs.Tryz.f79 f79_code (f79_spec).args (f79_spec).res x = f79_spec.fn x := by kernel_rfl
theorem f79_enter : Enterable Go.Proofs.Tryz.prog 79 := enter_fun Go.Proofs.Tryz.func79 (by kernel_rfl)
theorem f79_envOK : EnvOK Go.Proofs.Tryz.prog f79_env := envOK_of cds (by kernel_rfl) cfg_ok trivial trivial ⟨⟨Go.Proofs.Tryz.func79, by kernel_rfl⟩, trivial⟩ ⟨⟨Go.Proofs.Tryz.f79, f79_code, rfl, rfl, f79_l2_ok⟩, trivial⟩ trivial trivial
theorem f79_pure : PureOK Go.Proofs.Tryz.prog cfg 79 f79_spec := pure_of_run f79_envOK (fn := Go.Proofs.Tryz.f79) (c := f79_code) rfl rfl f79_spec (fun x _ h => (f79_run x).trans h)
def f54_l4_head : Ann := { env := [(6, .ty .str), (22, .ty (.sl tE)), (23, TI), (24, TI)], stk := [], bxs := [] }
def f54_l4_outs : List (Ex × Ann) := [((.exit 0), { env := [(6, .ty .str)], stk := [], bxs := [] })]
def f54_l4 (t22 : (List Ed)) (t23 : Int) : Nat → ByteArray → Int → Option (outDen f54_l4_outs)
 | 0, _, _ => none
 | k + 1, t6, t24 =>
  bif (decide (t24 < t23)) then
   bif (inR t24 t22.length) then
    let v3 : Bool := (at_ tE t22 t24).2.2.2.1
    bif v3 then
     let v4 : Int := (at_ tE t22 t24).1
     let v5 : Int := (at_ tE t22 t24).2.1
     let v6 : Int := (at_ tE t22 t24).2.2.1
     let v7 : Int := (at_ tE t22 t24).2.2.2.2.1
     let v8 : Int := (at_ tE t22 t24).2.2.2.2.2.1
     (f110 ([v4, v5, v6, (1 : Int), v7, v8] : List Int)).bind fun y9 =>
     bif (catOk t6 y9.1) then f54_l4 t22 t23 k (t6 ++ y9.1) (IntKind.wrap .i64 (t24 + (1 : Int))) else none
    else
     let v10 : Int := (at_ tE t22 t24).1
     let v11 : Int := (at_ tE t22 t24).2.1
     let v12 : Int := (at_ tE t22 t24).2.2.1
     let v13 : Int := (at_ tE t22 t24).2.2.2.2.1
     let v14 : Int := (at_ tE t22 t24).2.2.2.2.2.1
     (f110 ([v10, v11, v12, (0 : Int), v13, v14] : List Int)).bind fun y15 =>
     bif (catOk t6 y15.1) then f54_l4 t22 t23 k (t6 ++ y15.1) (IntKind.wrap .i64 (t24 + (1 : Int))) else none
   else none
  else
   some ((t6, ()), (), ())
def f54_l4_n (n : Nat) (x : f54_l4_head.den) := f54_l4 x.1.2.1 x.1.2.2.1 n x.1.1 x.1.2.2.2.1
def f54_l4_spec : LSpec := { thaws := [], head := f54_l4_head, outs := f54_l4_outs, fn := fun x => f54_l4_n ((x.1.2.2.1 - x.1.2.2.2.1).toNat + 1) x }
def f54 (a0 : Gr) (a1 : Vx) : Option (ByteArray × Unit) :=
 (f79 a0 a1.1).bind fun y1 =>
 (f110 ([a1.1, a1.2.1, (y1.1.length : Int)] : List Int)).bind fun y2 =>
 (f54_l4 y1.1 (y1.1.length : Int) (((y1.1.length : Int) - (0 : Int)).toNat + 1) y2.1 (0 : Int)).bind fun o16 =>
 let u17 : ByteArray := o16.1.1
 some (u17, ())
def f54_spec : PSpec := { args := [tG, tV], res := [.str], fn := fun x => f54 x.1 x.2.1 }
noncomputable def f54_code : Code := Go.Proofs.Tryz.f54.body.getD .skip
noncomputable def f54_env : Env0 := { C := cfg, P := [(79, f79_spec), (110, f110_spec)], L := [(⟨12, 0, 54, 4⟩, f54_l4_spec)], F := [(54, Go.Proofs.Tryz.f54)], S := [], R := [], I := [], tot := [] }
theorem f54_l4_ok : LoopOK f54_env 12 54 0 (loopAt f54_code 4) f54_l4_spec :=
 loopOK_of (by kernel_rfl) f54_l4_n (fun x o h => ⟨_, h⟩) (fun x => by kernel_rfl) (fun n x => by kernel_rfl)
theorem f54_run (x : tysDen (f54_spec).args) : runF f54_env 54 Go.Proofs.Tryz.f54 f54_code (f54_spec).args (f54_spec).res x = f54_spec.fn x := by kernel_rfl
theorem f54_enter : Enterable Go.Proofs.Tryz.prog 54 := enter_fun Go.Proofs.Tryz.func54 (by kernel_rfl)
theorem f54_envOK : EnvOK Go.Proofs.Tryz.prog f54_env := envOK_of cds (by kernel_rfl) cfg_ok ⟨⟨f79_pure, f79_enter⟩, ⟨f110_pure, f110_enter⟩, trivial⟩ trivial ⟨⟨Go.Proofs.Tryz.func54, by kernel_rfl⟩, trivial⟩ ⟨⟨Go.Proofs.Tryz.f54, f54_code, rfl, rfl, f54_l4_ok⟩, trivial⟩ trivial trivial
theorem f54_pure : PureOK Go.Proofs.Tryz.prog cfg 54 f54_spec := pure_of_run f54_envOK (fn := Go.Proofs.Tryz.f54) (c := f54_code) rfl rfl f54_spec (fun x _ h => (f54_run x).trans h)
def f109_l1_b905000_head : Ann := { env := [(0, .cst (.yld 905)), (1, cP 10001), (9, .ty (.sl tV)), (10, TI), (11, TI)], stk := [[(0, .cst (.yld 905))], [(2, .cst .nils), (3, TI), (4, cP 4)]], bxs := [(905, .loop false 13 5 [(4, cP 4)]), (10001, .var [.ty (.sl tV), .ty (.sl tE), .ty (.sl tI)]), (4, .var [.cst (.row 905022015 .whole)]), (905022015, .row tN false)] }
def f109_l1_b905000_outs : List (Ex × Ann) := [((.exit 0), { env := [(0, .cst (.yld 905)), (1, cP 10001)], stk := [[(0, .cst (.yld 905))], [(2, .cst .nils), (3, TI), (4, cP 4)]], bxs := [(905, .loop false 13 5 [(4, cP 4)]), (10001, .var [.ty (.sl tV), .ty (.sl tE), .ty (.sl tI)]), (4, .var [.cst (.row 905022015 .whole)]), (905022015, .row tN false)] })]
def f109_l1_b905000 (t9 : (List Vx)) (t10 : Int) (k1t3 : Int) (b10001g0 : (List Vx)) (b10001g1 : (List Ed)) (b10001g2 : (List Int)) : Nat → Int → (List En) → Option (outDen f109_l1_b905000_outs)
 | 0, _, _ => none
 | k + 1, t11, r905022015 =>
  bif (decide (t11 < t10)) then
   bif (inR t11 t9.length) then
    let v2 : Int := (at_ tV t9 t11).1
    (f54 (b10001g0, (b10001g1, (b10001g2, ()))) (at_ tV t9 t11)).bind fun y3 =>
    bif (decide (r905022015.length + ([(v2, (y3.1, ()))] : List En).length ≤ appLim)) then f109_l1_b905000 t9 t10 k1t3 b10001g0 b10001g1 b10001g2 k (IntKind.wrap .i64 (t11 + (1 : Int))) (r905022015 ++ ([(v2, (y3.1, ()))] : List En)) else none
   else none
  else
   some ((), ((), (k1t3, ()), ()), ((), (b10001g0, b10001g1, b10001g2, ()), (), r905022015, ()))
def f109_l1_b905000_n (n : Nat) (x : f109_l1_b905000_head.den) := f109_l1_b905000 x.1.1 x.1.2.1 x.2.1.2.1.1 x.2.2.2.1.1 x.2.2.2.1.2.1 x.2.2.2.1.2.2.1 n x.1.2.2.1 x.2.2.2.2.2.1
def f109_l1_b905000_spec : LSpec := { thaws := [.cell 4 0 905022015 tN], head := f109_l1_b905000_head, outs := f109_l1_b905000_outs, fn := fun x => f109_l1_b905000_n ((x.1.2.1 - x.1.2.2.1).toNat + 1) x }
def f109_l7_b905000_head : Ann := { env := [(0, .cst (.yld 905)), (1, cP 10001), (5, TI), (26, .ty (.sl tE)), (27, TI), (28, TI)], stk := [[(0, .cst (.yld 905))], [(2, .cst .nils), (3, TI), (4, cP 4)]], bxs := [(905, .loop false 13 5 [(4, cP 4)]), (10001, .var [.ty (.sl tV), .ty (.sl tE), .ty (.sl tI)]), (4, .var [.cst (.row 905022015 .whole)]), (905022015, .row tN false)] }
def f109_l7_b905000_outs : List (Ex × Ann) := [((.exit 2), { env := [(0, .cst (.yld 905)), (1, cP 10001), (5, TI)], stk := [[(0, .cst (.yld 905))], [(2, .cst .nils), (3, TI), (4, cP 4)]], bxs := [(905, .loop false 13 5 [(4, cP 4)]), (10001, .var [.ty (.sl tV), .ty (.sl tE), .ty (.sl tI)]), (4, .var [.cst (.row 905022015 .whole)]), (905022015, .row tN false)] })]
def f109_l7_b905000 (t26 : (List Ed)) (t27 : Int) (k1t3 : Int) (b10001g0 : (List Vx)) (b10001g1 : (List Ed)) (b10001g2 : (List Int)) (r905022015 : (List En)) : Nat → Int → Int → Option (outDen f109_l7_b905000_outs)
 | 0, _, _ => none
 | k + 1, t5, t28 =>
  bif (decide (t28 < t27)) then
   bif (inR t28 t26.length) then
    let v10 : Int := (at_ tE t26 t28).1
    bif (decide (0 ≤ v10)) then f109_l7_b905000 t26 t27 k1t3 b10001g0 b10001g1 b10001g2 r905022015 k (orV .i64 t5 (shlV .i64 (1 : Int) v10)) (IntKind.wrap .i64 (t28 + (1 : Int))) else none
   else none
  else
   some ((t5, ()), ((), (k1t3, ()), ()), ((), (b10001g0, b10001g1, b10001g2, ()), (), r905022015, ()))
def f109_l7_b905000_n (n : Nat) (x : f109_l7_b905000_head.den) := f109_l7_b905000 x.1.2.1 x.1.2.2.1 x.2.1.2.1.1 x.2.2.2.1.1 x.2.2.2.1.2.1 x.2.2.2.1.2.2.1 x.2.2.2.2.2.1 n x.1.1 x.1.2.2.2.1
def f109_l7_b905000_spec : LSpec := { thaws := [], head := f109_l7_b905000_head, outs := f109_l7_b905000_outs, fn := fun x => f109_l7_b905000_n ((x.1.2.2.1 - x.1.2.2.2.1).toNat + 1) x }
def f13 (a0 : Gr) : Option ((List En) × Int × Unit) :=
 (f46 a0).bind fun y1 =>
 bif (!y1.1) then
  some ([], (60 : Int), ())
 else
  (f109_l1_b905000 a0.1 (a0.1.length : Int) (0 : Int) a0.1 a0.2.1 a0.2.2.1 (((a0.1.length : Int) - (0 : Int)).toNat + 1) (0 : Int) []).bind fun o4 =>
  let u5 : Int := o4.2.1.2.1.1
  let u6 : (List Vx) := o4.2.2.2.1.1
  let u7 : (List Ed) := o4.2.2.2.1.2.1
  let u8 : (List Int) := o4.2.2.2.1.2.2.1
  let u9 : (List En) := o4.2.2.2.2.2.1
  (f109_l7_b905000 u7 (u7.length : Int) u5 u6 u7 u8 u9 (((u7.length : Int) - (0 : Int)).toNat + 1) (0 : Int) (0 : Int)).bind fun o11 =>
  let u12 : Int := o11.1.1
  let u16 : (List Int) := o11.2.2.2.1.2.2.1
  let u17 : (List En) := o11.2.2.2.2.2.1
  (f110 ([(u16.length : Int)] : List Int)).bind fun y18 =>
  (f110 u16).bind fun y19 =>
  bif (catOk y18.1 y19.1) then
   (f110 ([u12] : List Int)).bind fun y20 =>
   bif (catOk (y18.1 ++ y19.1) y20.1) then bif (decide (u17.length + ([((63 : Int), (((y18.1 ++ y19.1) ++ y20.1), ()))] : List En).length ≤ appLim)) then some ((u17 ++ ([((63 : Int), (((y18.1 ++ y19.1) ++ y20.1), ()))] : List En)), (0 : Int), ()) else none else none
  else none
def f13_spec : PSpec := { args := [tG], res := [(.sl tN), tI], fn := fun x => f13 x.1 }
noncomputable def f13_code : Code := Go.Proofs.Tryz.f13.body.getD .skip
noncomputable def f13_code_109 : Code := Go.Proofs.Tryz.f109.body.getD .skip
noncomputable def f13_env : Env0 := { C := cfg, P := [(46, f46_spec), (54, f54_spec), (110, f110_spec)], L := [(⟨11, 905000, 109, 1⟩, f109_l1_b905000_spec), (⟨11, 905000, 109, 7⟩, f109_l7_b905000_spec)], F := [(13, Go.Proofs.Tryz.f13), (47, Go.Proofs.Tryz.f47), (109, Go.Proofs.Tryz.f109)], S := [], R := [], I := [], tot := [] }
theorem f109_l1_b905000_ok : LoopOK f13_env 11 109 905000 (loopAt f13_code_109 1) f109_l1_b905000_spec :=
 loopOK_of (by kernel_rfl) f109_l1_b905000_n (fun x o h => ⟨_, h⟩) (fun x => by kernel_rfl) (fun n x => by kernel_rfl)
theorem f109_l7_b905000_ok : LoopOK f13_env 11 109 905000 (loopAt f13_code_109 7) f109_l7_b905000_spec :=
 loopOK_of (by kernel_rfl) f109_l7_b905000_n (fun x o h => ⟨_, h⟩) (fun x => by kernel_rfl) (fun n x => by kernel_rfl)
theorem f13_run (x : tysDen (f13_spec).args) : runF f13_env 13 Go.Proofs.Tryz.f13 f13_code (f13_spec).args (f13_spec).res x = f13_spec.fn x := by kernel_rfl
theorem f13_enter : Enterable Go.Proofs.Tryz.prog 13 := enter_fun Go.Proofs.Tryz.func13 (by kernel_rfl)
theorem f13_envOK : EnvOK Go.Proofs.Tryz.prog f13_env := envOK_of cds (by kernel_rfl) cfg_ok ⟨⟨f46_pure, f46_enter⟩, ⟨f54_pure, f54_enter⟩, ⟨f110_pure, f110_enter⟩, trivial⟩ trivial ⟨⟨Go.Proofs.Tryz.func13, by kernel_rfl⟩, ⟨Go.Proofs.Tryz.func47, by kernel_rfl⟩, ⟨Go.Proofs.Tryz.func109, by kernel_rfl⟩, trivial⟩ ⟨⟨Go.Proofs.Tryz.f109, f13_code_109, rfl, rfl, f109_l1_b905000_ok⟩, ⟨Go.Proofs.Tryz.f109, f13_code_109, rfl, rfl, f109_l7_b905000_ok⟩, trivial⟩ trivial trivial
theorem f13_pure : PureOK Go.Proofs.Tryz.prog cfg 13 f13_spec := pure_of_run f13_envOK (fn := Go.Proofs.Tryz.f13) (c := f13_code) rfl rfl f13_spec (fun x _ h => (f13_run x).trans h)
def f130 (a0 : En) : Option (Bool × Unit) :=
 let v1 : Bool := (decide ((a0.2.1.size : Int) = (0 : Int)))
 bif v1 then
  some (true, ())
 else
  let v2 : Bool := (decide ((a0.2.1.size : Int) > (65536 : Int)))
  some (v2, ())
def f130_spec : PSpec := { args := [tN], res := [.bool], fn := fun x => f130 x.1 }
noncomputable def f130_code : Code := Go.Proofs.Tryz.f130.body.getD .skip
noncomputable def f130_env : Env0 := { C := cfg, P := [], L := [], F := [(130, Go.Proofs.Tryz.f130)], S := [], R := [], I := [], tot := [] }
theorem f130_run (x : tysDen (f130_spec).args) : runF f130_env 130 Go.Proofs.Tryz.f130 f130_code (f130_spec).args (f130_spec).res x = f130_spec.fn x := by kernel_rfl
theorem f130_enter : Enterable Go.Proofs.Tryz.prog 130 := enter_fun Go.Proofs.Tryz.func130 (by kernel_rfl)
theorem f130_envOK : EnvOK Go.Proofs.Tryz.prog f130_env := envOK_of cds (by kernel_rfl) cfg_ok trivial trivial ⟨⟨Go.Proofs.Tryz.func130, by kernel_rfl⟩, trivial⟩ trivial trivial trivial
theorem f130_pure : PureOK Go.Proofs.Tryz.prog cfg 130 f130_spec := pure_of_run f130_envOK (fn := Go.Proofs.Tryz.f130) (c := f130_code) rfl rfl f130_spec (fun x _ h => (f130_run x).trans h)
def f131_l2_head : Ann := { env := [(0, .ty (.sl tI)), (5, .ty (.sl tI)), (6, TI), (7, TI)], stk := [], bxs := [] }
def f131_l2_outs : List (Ex × Ann) := [((.exit 0), { env := [], stk := [], bxs := [] }), (.ret, { env := [(2, .ty .bool)], stk := [], bxs := [] })]
def f131_l2 (t0 : (List Int)) (t5 : (List Int)) (t6 : Int) : Nat → Int → Option (outDen f131_l2_outs)
 | 0, _ => none
 | k + 1, t7 =>
  bif (decide (t7 < t6)) then
   bif (inR t7 t5.length) then
    let v1 : Bool := (decide ((at_ tI t5 t7) < (0 : Int)))
    bif v1 then
     some (.inr ((false, ()), (), ()))
    else
     let v2 : Bool := (decide ((at_ tI t5 t7) ≥ (64 : Int)))
     bif v2 then
      some (.inr ((false, ()), (), ()))
     else
      bif (decide (t7 > (0 : Int))) then
       bif (inR (IntKind.wrap .i64 (t7 - (1 : Int))) t0.length) then
        let v3 : Int := (at_ tI t0 (IntKind.wrap .i64 (t7 - (1 : Int))))
        bif (decide ((at_ tI t5 t7) ≤ v3)) then
         some (.inr ((false, ()), (), ()))
        else
         f131_l2 t0 t5 t6 k (IntKind.wrap .i64 (t7 + (1 : Int)))
       else none
      else
       f131_l2 t0 t5 t6 k (IntKind.wrap .i64 (t7 + (1 : Int)))
   else none
  else
   some (.inl ((), (), ()))
def f131_l2_n (n : Nat) (x : f131_l2_head.den) := f131_l2 x.1.1 x.1.2.1 x.1.2.2.1 n x.1.2.2.2.1
def f131_l2_spec : LSpec := { thaws := [], head := f131_l2_head, outs := f131_l2_outs, fn := fun x => f131_l2_n ((x.1.2.2.1 - x.1.2.2.2.1).toNat + 1) x }
def f131 (a0 : (List Int)) : Option (Bool × Unit) :=
 (f131_l2 a0 a0 (a0.length : Int) (((a0.length : Int) - (0 : Int)).toNat + 1) (0 : Int)).bind fun o4 =>
 Sum.elim (fun o5 =>
  some (true, ())) (fun o6 =>
  let u7 : Bool := o6.1.1
  some (u7, ())) o4
def f131_spec : PSpec := { args := [(.sl tI)], res := [.bool], fn := fun x => f131 x.1 }
noncomputable def f131_code : Code := Go.Proofs.Tryz.f131.body.getD .skip
noncomputable def f131_env : Env0 := { C := cfg, P := [], L := [(⟨12, 0, 131, 2⟩, f131_l2_spec)], F := [(131, Go.Proofs.Tryz.f131)], S := [], R := [], I := [], tot := [] }
theorem f131_l2_ok : LoopOK f131_env 12 131 0 (loopAt f131_code 2) f131_l2_spec :=
 loopOK_of (by kernel_rfl) f131_l2_n (fun x o h => ⟨_, h⟩) (fun x => by kernel_rfl) (fun n x => by kernel_rfl)
theorem f131_run (x : tysDen (f131_spec).args) : runF f131_env 131 Go.Proofs.Tryz.f131 f131_code (f131_spec).args (f131_spec).res x = f131_spec.fn x := by kernel_rfl
theorem f131_enter : Enterable Go.Proofs.Tryz.prog 131 := enter_fun Go.Proofs.Tryz.func131 (by kernel_rfl)
theorem f131_envOK : EnvOK Go.Proofs.Tryz.prog f131_env := envOK_of cds (by kernel_rfl) cfg_ok trivial trivial ⟨⟨Go.Proofs.Tryz.func131, by kernel_rfl⟩, trivial⟩ ⟨⟨Go.Proofs.Tryz.f131, f131_code, rfl, rfl, f131_l2_ok⟩, trivial⟩ trivial trivial
theorem f131_pure : PureOK Go.Proofs.Tryz.prog cfg 131 f131_spec := pure_of_run f131_envOK (fn := Go.Proofs.Tryz.f131) (c := f131_code) rfl rfl f131_spec (fun x _ h => (f131_run x).trans h)
def f133 (a0 : En) : Option (Int × Unit) :=
 some (a0.1, ())
def f133_spec : PSpec := { args := [tN], res := [tI], fn := fun x => f133 x.1 }
noncomputable def f133_code : Code := Go.Proofs.Tryz.f133.body.getD .skip
noncomputable def f133_env : Env0 := { C := cfg, P := [], L := [], F := [(133, Go.Proofs.Tryz.f133)], S := [], R := [], I := [], tot := [] }
theorem f133_run (x : tysDen (f133_spec).args) : runF f133_env 133 Go.Proofs.Tryz.f133 f133_code (f133_spec).args (f133_spec).res x = f133_spec.fn x := by kernel_rfl
theorem f133_enter : Enterable Go.Proofs.Tryz.prog 133 := enter_fun Go.Proofs.Tryz.func133 (by kernel_rfl)
theorem f133_envOK : EnvOK Go.Proofs.Tryz.prog f133_env := envOK_of cds (by kernel_rfl) cfg_ok trivial trivial ⟨⟨Go.Proofs.Tryz.func133, by kernel_rfl⟩, trivial⟩ trivial trivial trivial
theorem f133_pure : PureOK Go.Proofs.Tryz.prog cfg 133 f133_spec := pure_of_run f133_envOK (fn := Go.Proofs.Tryz.f133) (c := f133_code) rfl rfl f133_spec (fun x _ h => (f133_run x).trans h)
def f132_l3_b5000_head : Ann := { env := [(1, .cst (.fn 133 [])), (5, .cst (.row 5019 .whole)), (8, .ty (.sl tN)), (9, TI), (10, TI)], stk := [[(0, .ty (.sl tN)), (2, .ty .bool), (3, .cst (.fn 130 []))]], bxs := [(5019, .row tI false)] }
def f132_l3_b5000_outs : List (Ex × Ann) := [((.exit 0), { env := [(5, .cst (.row 5019 .whole))], stk := [[(0, .ty (.sl tN)), (2, .ty .bool), (3, .cst (.fn 130 []))]], bxs := [(5019, .row tI false)] })]
def f132_l3_b5000 (t8 : (List En)) (t9 : Int) (k0t0 : (List En)) (k0t2 : Bool) : Nat → Int → (List Int) → Option (outDen f132_l3_b5000_outs)
 | 0, _, _ => none
 | k + 1, t10, r5019 =>
  bif (decide (t10 < t9)) then
   bif (inR t10 t8.length) then
    (f133 (at_ tN t8 t10)).bind fun y1 =>
    bif (decide (r5019.length + ([y1.1] : List Int).length ≤ appLim)) then f132_l3_b5000 t8 t9 k0t0 k0t2 k (IntKind.wrap .i64 (t10 + (1 : Int))) (r5019 ++ ([y1.1] : List Int)) else none
   else none
  else
   some ((), ((k0t0, k0t2, ()), ()), (r5019, ()))
def f132_l3_b5000_n (n : Nat) (x : f132_l3_b5000_head.den) := f132_l3_b5000 x.1.1 x.1.2.1 x.2.1.1.1 x.2.1.1.2.1 n x.1.2.2.1 x.2.2.1
def f132_l3_b5000_spec : LSpec := { thaws := [.slot 5 5019 tI], head := f132_l3_b5000_head, outs := f132_l3_b5000_outs, fn := fun x => f132_l3_b5000_n ((x.1.2.1 - x.1.2.2.1).toNat + 1) x }
def f190_l2_b10007000_head : Ann := { env := [(0, .ty (.sl tN)), (1, .cst (.fn 130 [])), (7, TI), (8, TI)], stk := [[(4, .ty .bool)], [(2, .ty .bool), (7, .ty .bool)]], bxs := [] }
def f190_l2_b10007000_outs : List (Ex × Ann) := [((.exit 0), { env := [], stk := [[(4, .ty .bool)], [(2, .ty .bool), (7, .ty .bool)]], bxs := [] }), (.ret, { env := [(4, TI)], stk := [[(4, .ty .bool)], [(2, .ty .bool), (7, .ty .bool)]], bxs := [] })]
def f190_l2_b10007000 (t0 : (List En)) (t7 : Int) (k0t4 : Bool) (k1t2 : Bool) (k1t7 : Bool) : Nat → Int → Option (outDen f190_l2_b10007000_outs)
 | 0, _ => none
 | k + 1, t8 =>
  bif (decide (t8 < t7)) then
   bif (inR t8 t0.length) then
    (f130 (at_ tN t0 t8)).bind fun y7 =>
    bif y7.1 then
     some (.inr ((t8, ()), ((k0t4, ()), (k1t2, k1t7, ()), ()), ()))
    else
     f190_l2_b10007000 t0 t7 k0t4 k1t2 k1t7 k (IntKind.wrap .i64 (t8 + (1 : Int)))
   else none
  else
   some (.inl ((), ((k0t4, ()), (k1t2, k1t7, ()), ()), ()))
def f190_l2_b10007000_n (n : Nat) (x : f190_l2_b10007000_head.den) := f190_l2_b10007000 x.1.1 x.1.2.1 x.2.1.1.1 x.2.1.2.1.1 x.2.1.2.1.2.1 n x.1.2.2.1
def f190_l2_b10007000_spec : LSpec := { thaws := [], head := f190_l2_b10007000_head, outs := f190_l2_b10007000_outs, fn := fun x => f190_l2_b10007000_n ((x.1.2.1 - x.1.2.2.1).toNat + 1) x }
def f87 (a0 : (List En)) : Option (Bool × Unit) :=
 (f132_l3_b5000 a0 (a0.length : Int) a0 false (((a0.length : Int) - (0 : Int)).toNat + 1) (0 : Int) []).bind fun o2 =>
 let u3 : (List En) := o2.2.1.1.1
 let u4 : Bool := o2.2.1.1.2.1
 let u5 : (List Int) := o2.2.2.1
 (f131 u5).bind fun y6 =>
 bif y6.1 then
  (f190_l2_b10007000 u3 (u3.length : Int) false u4 true (((u3.length : Int) - (0 : Int)).toNat + 1) (0 : Int)).bind fun o8 =>
  Sum.elim (fun o9 =>
   let u13 : Bool := o9.2.1.2.1.2.1
   bif u13 then
    some (true, ())
   else
    some (false, ())) (fun o10 =>
   let u14 : Int := o10.1.1
   let u17 : Bool := o10.2.1.2.1.2.1
   bif u17 then
    some ((!(decide (u14 ≥ (0 : Int)))), ())
   else
    some (false, ())) o8
 else
  some (false, ())
def f87_spec : PSpec := { args := [(.sl tN)], res := [.bool], fn := fun x => f87 x.1 }
noncomputable def f87_code : Code := Go.Proofs.Tryz.f87.body.getD .skip
noncomputable def f87_code_132 : Code := Go.Proofs.Tryz.f132.body.getD .skip
noncomputable def f87_code_190 : Code := Go.Proofs.Tryz.f190.body.getD .skip
noncomputable def f87_env : Env0 := { C := cfg, P := [(130, f130_spec), (131, f131_spec), (133, f133_spec)], L := [(⟨11, 5000, 132, 3⟩, f132_l3_b5000_spec), (⟨10, 10007000, 190, 2⟩, f190_l2_b10007000_spec)], F := [(87, Go.Proofs.Tryz.f87), (132, Go.Proofs.Tryz.f132), (134, Go.Proofs.Tryz.f134), (190, Go.Proofs.Tryz.f190)], S := [], R := [], I := [], tot := [] }
theorem f132_l3_b5000_ok : LoopOK f87_env 11 132 5000 (loopAt f87_code_132 3) f132_l3_b5000_spec :=
 loopOK_of (by kernel_rfl) f132_l3_b5000_n (fun x o h => ⟨_, h⟩) (fun x => by kernel_rfl) (fun n x => by kernel_rfl)
theorem f190_l2_b10007000_ok : LoopOK f87_env 10 190 10007000 (loopAt f87_code_190 2) f190_l2_b10007000_spec :=
 loopOK_of (by kernel_rfl) f190_l2_b10007000_n (fun x o h => ⟨_, h⟩) (fun x => by kernel_rfl) (fun n x => by kernel_rfl)
theorem f87_run (x : tysDen (f87_spec).args) : runF f87_env 87 Go.Proofs.Tryz.f87 f87_code (f87_spec).args (f87_spec).res x = f87_spec.fn x := by kernel_rfl
theorem f87_enter : Enterable Go.Proofs.Tryz.prog 87 := enter_fun Go.Proofs.Tryz.func87 (by kernel_rfl)
theorem f87_envOK : EnvOK Go.Proofs.Tryz.prog f87_env := envOK_of cds (by kernel_rfl) cfg_ok ⟨⟨f130_pure, f130_enter⟩, ⟨f131_pure, f131_enter⟩, ⟨f133_pure, f133_enter⟩, trivial⟩ trivial ⟨⟨Go.Proofs.Tryz.func87, by kernel_rfl⟩, ⟨Go.Proofs.Tryz.func132, by kernel_rfl⟩, ⟨Go.Proofs.Tryz.func134, by kernel_rfl⟩, ⟨Go.Proofs.Tryz.func190, by kernel_rfl⟩, trivial⟩ ⟨⟨Go.Proofs.Tryz.f132, f87_code_132, rfl, rfl, f132_l3_b5000_ok⟩, ⟨Go.Proofs.Tryz.f190, f87_code_190, rfl, rfl, f190_l2_b10007000_ok⟩, trivial⟩ trivial trivial
theorem f87_pure : PureOK Go.Proofs.Tryz.prog cfg 87 f87_spec := pure_of_run f87_envOK (fn := Go.Proofs.Tryz.f87) (c := f87_code) rfl rfl f87_spec (fun x _ h => (f87_run x).trans h)
def f135  : Option (ByteArray × Unit) :=
 bif (decide (0 ≤ (32 : Int)) && decide ((32 : Int) ≤ (32 : Int)) && decide ((32 : Int) ≤ (appLim : Int))) then
  let v1 : ByteArray := (ofBytes (List.replicate (Int.toNat (32 : Int)) (0 : Int)))
  some (v1, ())
 else none
def f135_spec : PSpec := { args := [], res := [.str], fn := fun x => f135  }
noncomputable def f135_code : Code := Go.Proofs.Tryz.f135.body.getD .skip
noncomputable def f135_env : Env0 := { C := cfg, P := [], L := [], F := [(135, Go.Proofs.Tryz.f135)], S := [], R := [], I := [], tot := [] }
theorem f135_run (x : tysDen (f135_spec).args) : runF f135_env 135 Go.Proofs.Tryz.f135 f135_code (f135_spec).args (f135_spec).res x = f135_spec.fn x := by kernel_rfl
theorem f135_enter : Enterable Go.Proofs.Tryz.prog 135 := enter_fun Go.Proofs.Tryz.func135 (by kernel_rfl)
theorem f135_envOK : EnvOK Go.Proofs.Tryz.prog f135_env := envOK_of cds (by kernel_rfl) cfg_ok trivial trivial ⟨⟨Go.Proofs.Tryz.func135, by kernel_rfl⟩, trivial⟩ trivial trivial trivial
theorem f135_pure : PureOK Go.Proofs.Tryz.prog cfg 135 f135_spec := pure_of_run f135_envOK (fn := Go.Proofs.Tryz.f135) (c := f135_code) rfl rfl f135_spec (fun x _ h => (f135_run x).trans h)
def f239 (a0 : Int) (a1 : Int) : Option (Int × Unit) :=
 let v1 : Int := (andV .u64 (IntKind.wrap .u64 a1) (31 : Int))
 bif (decide (0 ≤ v1)) then
  bif (decide (0 ≤ (IntKind.wrap .u64 ((32 : Int) - v1)))) then
   let v2 : Int := (shrV .u32 a0 (IntKind.wrap .u64 ((32 : Int) - v1)))
   some ((orV .u32 (shlV .u32 a0 v1) v2), ())
  else none
 else none
def f239_spec : PSpec := { args := [(.int .u32), tI], res := [(.int .u32)], fn := fun x => f239 x.1 x.2.1 }
noncomputable def f239_code : Code := Go.Proofs.Tryz.f239.body.getD .skip
noncomputable def f239_env : Env0 := { C := cfg, P := [], L := [], F := [(239, Go.Proofs.Tryz.f239)], S := [], R := [], I := [], tot := [] }
theorem f239_run (x : tysDen (f239_spec).args) : runF f239_env 239 Go.Proofs.Tryz.f239 f239_code (f239_spec).args (f239_spec).res x = f239_spec.fn x := by kernel_rfl
theorem f239_enter : Enterable Go.Proofs.Tryz.prog 239 := enter_fun Go.Proofs.Tryz.func239 (by kernel_rfl)
theorem f239_envOK : EnvOK Go.Proofs.Tryz.prog f239_env := envOK_of cds (by kernel_rfl) cfg_ok trivial trivial ⟨⟨Go.Proofs.Tryz.func239, by kernel_rfl⟩, trivial⟩ trivial trivial trivial
theorem f239_pure : PureOK Go.Proofs.Tryz.prog cfg 239 f239_spec := pure_of_run f239_envOK (fn := Go.Proofs.Tryz.f239) (c := f239_code) rfl rfl f239_spec (fun x _ h => (f239_run x).trans h)
def f235_l3_head : Ann := { env := [(0, .ty (.int .u32)), (5, .ty (.int .u32)), (8, .ty (.sl tI)), (9, TI), (10, TI)], stk := [], bxs := [] }
def f235_l3_outs : List (Ex × Ann) := [((.exit 0), { env := [(5, .ty (.int .u32))], stk := [], bxs := [] })]
def f235_l3 (t0 : Int) (t8 : (List Int)) (t9 : Int) : Nat → Int → Int → Option (outDen f235_l3_outs)
 | 0, _, _ => none
 | k + 1, t5, t10 =>
  bif (decide (t10 < t9)) then
   bif (inR t10 t8.length) then
    let v1 : Int := (IntKind.wrap .i64 (0 - (at_ tI t8 t10)))
    (f239 t0 v1).bind fun y2 =>
    f235_l3 t0 t8 t9 k (xorV .u32 t5 y2.1) (IntKind.wrap .i64 (t10 + (1 : Int)))
   else none
  else
   some ((t5, ()), (), ())
def f235_l3_n (n : Nat) (x : f235_l3_head.den) := f235_l3 x.1.1 x.1.2.2.1 x.1.2.2.2.1 n x.1.2.1 x.1.2.2.2.2.1
def f235_l3_spec : LSpec := { thaws := [], head := f235_l3_head, outs := f235_l3_outs, fn := fun x => f235_l3_n ((x.1.2.2.2.1 - x.1.2.2.2.2.1).toNat + 1) x }
def f235 (a0 : Int) (a1 : (List Int)) : Option (Int × Unit) :=
 (f235_l3 a0 a1 (a1.length : Int) (((a1.length : Int) - (0 : Int)).toNat + 1) (0 : Int) (0 : Int)).bind fun o3 =>
 let u4 : Int := o3.1.1
 some (u4, ())
def f235_spec : PSpec := { args := [(.int .u32), (.sl tI)], res := [(.int .u32)], fn := fun x => f235 x.1 x.2.1 }
noncomputable def f235_code : Code := Go.Proofs.Tryz.f235.body.getD .skip
noncomputable def f235_env : Env0 := { C := cfg, P := [(239, f239_spec)], L := [(⟨12, 0, 235, 3⟩, f235_l3_spec)], F := [(235, Go.Proofs.Tryz.f235)], S := [], R := [], I := [], tot := [] }
theorem f235_l3_ok : LoopOK f235_env 12 235 0 (loopAt f235_code 3) f235_l3_spec :=
 loopOK_of (by kernel_rfl) f235_l3_n (fun x o h => ⟨_, h⟩) (fun x => by kernel_rfl) (fun n x => by kernel_rfl)
theorem f235_run (x : tysDen (f235_spec).args) : runF f235_env 235 Go.Proofs.Tryz.f235 f235_code (f235_spec).args (f235_spec).res x = f235_spec.fn x := by kernel_rfl
theorem f235_enter : Enterable Go.Proofs.Tryz.prog 235 := enter_fun Go.Proofs.Tryz.func235 (by kernel_rfl)
theorem f235_envOK : EnvOK Go.Proofs.Tryz.prog f235_env := envOK_of cds (by kernel_rfl) cfg_ok ⟨⟨f239_pure, f239_enter⟩, trivial⟩ trivial ⟨⟨Go.Proofs.Tryz.func235, by kernel_rfl⟩, trivial⟩ ⟨⟨Go.Proofs.Tryz.f235, f235_code, rfl, rfl, f235_l3_ok⟩, trivial⟩ trivial trivial
theorem f235_pure : PureOK Go.Proofs.Tryz.prog cfg 235 f235_spec := pure_of_run f235_envOK (fn := Go.Proofs.Tryz.f235) (c := f235_code) rfl rfl f235_spec (fun x _ h => (f235_run x).trans h)
def f234_l2_head : Ann := { env := [(0, .ty (.sl (.int .u8))), (2, cP 2), (7, TI)], stk := [], bxs := [(2, .var [.ty (.arr 64 (.int .u32))])] }
def f234_l2_outs : List (Ex × Ann) := [((.exit 0), { env := [(2, cP 2)], stk := [], bxs := [(2, .var [.ty (.arr 64 (.int .u32))])] })]
def f234_l2 (t0 : (List Int)) : Nat → Int → (List Int) → Option (outDen f234_l2_outs)
 | 0, _, _ => none
 | k + 1, t7, b2g0 =>
  bif (decide (t7 < (16 : Int))) then
   bif (inR (IntKind.wrap .i64 ((4 : Int) * t7)) t0.length) then
    let v1 : Int := (at_ (.int .u8) t0 (IntKind.wrap .i64 ((4 : Int) * t7)))
    let v2 : Int := (shlV .u32 (IntKind.wrap .u32 v1) (24 : Int))
    let v3 : Int := (IntKind.wrap .i64 ((IntKind.wrap .i64 ((4 : Int) * t7)) + (1 : Int)))
    bif (inR v3 t0.length) then
     let v4 : Int := (IntKind.wrap .u32 (at_ (.int .u8) t0 v3))
     let v5 : Int := (IntKind.wrap .i64 ((IntKind.wrap .i64 ((4 : Int) * t7)) + (2 : Int)))
     bif (inR v5 t0.length) then
      let v6 : Int := (IntKind.wrap .u32 (at_ (.int .u8) t0 v5))
      let v7 : Int := (orV .u32 (orV .u32 v2 (shlV .u32 v4 (16 : Int))) (shlV .u32 v6 (8 : Int)))
      let v8 : Int := (IntKind.wrap .i64 ((IntKind.wrap .i64 ((4 : Int) * t7)) + (3 : Int)))
      bif (inR v8 t0.length) then
       let v9 : Int := (IntKind.wrap .u32 (at_ (.int .u8) t0 v8))
       bif (inR t7 64) then f234_l2 t0 k (IntKind.wrap .i64 (t7 + (1 : Int))) (b2g0.set (Int.toNat t7) (orV .u32 v7 v9)) else none
      else none
     else none
    else none
   else none
  else
   some ((), (), ((b2g0, ()), ()))
def f234_l2_n (n : Nat) (x : f234_l2_head.den) := f234_l2 x.1.1 n x.1.2.1 x.2.2.1.1
def f234_l2_spec : LSpec := { thaws := [], head := f234_l2_head, outs := f234_l2_outs, fn := fun x => f234_l2_n (((16 : Int) - x.1.2.1).toNat + 1) x }
def f234_l7_head : Ann := { env := [(2, cP 2), (4, TI)], stk := [], bxs := [(2, .var [.ty (.arr 64 (.int .u32))])] }
def f234_l7_outs : List (Ex × Ann) := [((.exit 2), { env := [(2, cP 2)], stk := [], bxs := [(2, .var [.ty (.arr 64 (.int .u32))])] })]
def f234_l7 : Nat → Int → (List Int) → Option (outDen f234_l7_outs)
 | 0, _, _ => none
 | k + 1, t4, b2g0 =>
  bif (decide (t4 < (64 : Int))) then
   bif (inR (IntKind.wrap .i64 (t4 - (15 : Int))) 64) then
    let v12 : Int := (at_ (.int .u32) b2g0 (IntKind.wrap .i64 (t4 - (15 : Int))))
    bif (inR (IntKind.wrap .i64 (t4 - (2 : Int))) 64) then
     let v13 : Int := (at_ (.int .u32) b2g0 (IntKind.wrap .i64 (t4 - (2 : Int))))
     bif (inR (IntKind.wrap .i64 (t4 - (16 : Int))) 64) then
      let v14 : Int := (at_ (.int .u32) b2g0 (IntKind.wrap .i64 (t4 - (16 : Int))))
      (f235 v12 ([(7 : Int), (18 : Int)] : List Int)).bind fun y15 =>
      let v16 : Int := (xorV .u32 y15.1 (shrV .u32 v12 (3 : Int)))
      bif (inR (IntKind.wrap .i64 (t4 - (7 : Int))) 64) then
       let v17 : Int := (at_ (.int .u32) b2g0 (IntKind.wrap .i64 (t4 - (7 : Int))))
       let v18 : Int := (IntKind.wrap .u32 ((IntKind.wrap .u32 (v14 + v16)) + v17))
       (f235 v13 ([(17 : Int), (19 : Int)] : List Int)).bind fun y19 =>
       let v20 : Int := (xorV .u32 y19.1 (shrV .u32 v13 (10 : Int)))
       bif (inR t4 64) then f234_l7 k (IntKind.wrap .i64 (t4 + (1 : Int))) (b2g0.set (Int.toNat t4) (IntKind.wrap .u32 (v18 + v20))) else none
      else none
     else none
    else none
   else none
  else
   some ((), (), ((b2g0, ()), ()))
def f234_l7_n (n : Nat) (x : f234_l7_head.den) := f234_l7 n x.1.1 x.2.2.1.1
def f234_l7_spec : LSpec := { thaws := [], head := f234_l7_head, outs := f234_l7_outs, fn := fun x => f234_l7_n (((64 : Int) - x.1.1).toNat + 1) x }
def f234 (a0 : (List Int)) : Option ((List Int) × Unit) :=
 (f234_l2 a0 (((16 : Int) - (0 : Int)).toNat + 1) (0 : Int) (List.replicate 64 (0 : Int))).bind fun o10 =>
 let u11 : (List Int) := o10.2.2.1.1
 (f234_l7 (((64 : Int) - (16 : Int)).toNat + 1) (16 : Int) u11).bind fun o21 =>
 let u22 : (List Int) := o21.2.2.1.1
 some (u22, ())
def f234_spec : PSpec := { args := [(.sl (.int .u8))], res := [(.arr 64 (.int .u32))], fn := fun x => f234 x.1 }
noncomputable def f234_code : Code := Go.Proofs.Tryz.f234.body.getD .skip
noncomputable def f234_env : Env0 := { C := cfg, P := [(235, f235_spec)], L := [(⟨12, 0, 234, 2⟩, f234_l2_spec), (⟨12, 0, 234, 7⟩, f234_l7_spec)], F := [(234, Go.Proofs.Tryz.f234)], S := [], R := [], I := [], tot := [] }
theorem f234_l2_ok : LoopOK f234_env 12 234 0 (loopAt f234_code 2) f234_l2_spec :=
 loopOK_of (by kernel_rfl) f234_l2_n (fun x o h => ⟨_, h⟩) (fun x => by kernel_rfl) (fun n x => by kernel_rfl)
theorem f234_l7_ok : LoopOK f234_env 12 234 0 (loopAt f234_code 7) f234_l7_spec :=
 loopOK_of (by kernel_rfl) f234_l7_n (fun x o h => ⟨_, h⟩) (fun x => by kernel_rfl) (fun n x => by kernel_rfl)
theorem f234_run (x : tysDen (f234_spec).args) : runF f234_env 234 Go.Proofs.Tryz.f234 f234_code (f234_spec).args (f234_spec).res x = f234_spec.fn x := by kernel_rfl
theorem f234_enter : Enterable Go.Proofs.Tryz.prog 234 := enter_fun Go.Proofs.Tryz.func234 (by kernel_rfl)
theorem f234_envOK : EnvOK Go.Proofs.Tryz.prog f234_env := envOK_of cds (by kernel_rfl) cfg_ok ⟨⟨f235_pure, f235_enter⟩, trivial⟩ trivial ⟨⟨Go.Proofs.Tryz.func234, by kernel_rfl⟩, trivial⟩ ⟨⟨Go.Proofs.Tryz.f234, f234_code, rfl, rfl, f234_l2_ok⟩, ⟨Go.Proofs.Tryz.f234, f234_code, rfl, rfl, f234_l7_ok⟩, trivial⟩ trivial trivial
theorem f234_pure : PureOK Go.Proofs.Tryz.prog cfg 234 f234_spec := pure_of_run f234_envOK (fn := Go.Proofs.Tryz.f234) (c := f234_code) rfl rfl f234_spec (fun x _ h => (f234_run x).trans h)
def f222_l3_head : Ann := { env := [(0, cP 3), (4, cP 4), (5, cP 5), (18, .ty (.arr 64 (.int .u32))), (19, TI)], stk := [[(0, cP 3)]], bxs := [(3, .var [.ty (.arr 8 (.int .u32))]), (4, .var [.ty (.arr 64 (.int .u32))]), (5, .var [.ty (.arr 8 (.int .u32))])] }
def f222_l3_outs : List (Ex × Ann) := [((.exit 0), { env := [(0, cP 3), (5, cP 5)], stk := [[(0, cP 3)]], bxs := [(3, .var [.ty (.arr 8 (.int .u32))]), (5, .var [.ty (.arr 8 (.int .u32))])] })]
def f222_l3 (t18 : (List Int)) (b3g0 : (List Int)) (b4g0 : (List Int)) : Nat → Int → (List Int) → Option (outDen f222_l3_outs)
 | 0, _, _ => none
 | k + 1, t19, b5g0 =>
  bif (decide (t19 < (64 : Int))) then
   bif (inR t19 64) then
    bif (inR (0 : Int) 8) then
     bif (inR (4 : Int) 8) then
      bif (inR (7 : Int) 8) then
       (f235 (at_ (.int .u32) b5g0 (4 : Int)) ([(6 : Int), (11 : Int), (25 : Int)] : List Int)).bind fun y2 =>
       let v3 : Int := (IntKind.wrap .u32 ((at_ (.int .u32) b5g0 (7 : Int)) + y2.1))
       bif (inR (5 : Int) 8) then
        let v4 : Int := (andV .u32 (at_ (.int .u32) b5g0 (4 : Int)) (at_ (.int .u32) b5g0 (5 : Int)))
        let v5 : Int := (xorV .u32 (if IntKind.signed .u32 then -1 else IntKind.max .u32) (at_ (.int .u32) b5g0 (4 : Int)))
        bif (inR (6 : Int) 8) then
         let v6 : Int := (andV .u32 v5 (at_ (.int .u32) b5g0 (6 : Int)))
         let v7 : Int := (IntKind.wrap .u32 (v3 + (xorV .u32 v4 v6)))
         let v8 : Int := (IntKind.wrap .u32 (v7 + (at_ (.int .u32) t18 t19)))
         bif (inR t19 64) then
          let v9 : Int := (IntKind.wrap .u32 (v8 + (at_ (.int .u32) b4g0 t19)))
          (f235 (at_ (.int .u32) b5g0 (0 : Int)) ([(2 : Int), (13 : Int), (22 : Int)] : List Int)).bind fun y10 =>
          bif (inR (1 : Int) 8) then
           let v11 : Int := (andV .u32 (at_ (.int .u32) b5g0 (0 : Int)) (at_ (.int .u32) b5g0 (1 : Int)))
           bif (inR (2 : Int) 8) then
            let v12 : Int := (andV .u32 (at_ (.int .u32) b5g0 (0 : Int)) (at_ (.int .u32) b5g0 (2 : Int)))
            bif (inR (1 : Int) 8) then
             bif (inR (2 : Int) 8) then
              let v13 : Int := (andV .u32 (at_ (.int .u32) b5g0 (1 : Int)) (at_ (.int .u32) b5g0 (2 : Int)))
              let v14 : Int := (IntKind.wrap .u32 (y10.1 + (xorV .u32 (xorV .u32 v11 v12) v13)))
              bif (cutOk 8 (some (1 : Int)) none) then
               bif (cutOk 8 none (some (7 : Int))) then
                let v15 : Int := (((((b5g0.drop 0).take (cutLen 8 none (some (7 : Int)))).take (cutLen 8 (some (1 : Int)) none)).length : Nat) : Int)
                bif (inR (4 : Int) 8) then
                 let v16 : Int := (at_ (.int .u32) (setRange b5g0 (Int.toNat (1 : Int)) (((b5g0.drop 0).take (cutLen 8 none (some (7 : Int)))).take (cutLen 8 (some (1 : Int)) none))) (4 : Int))
                 bif (inR (0 : Int) 8) then bif (inR (4 : Int) 8) then f222_l3 t18 b3g0 b4g0 k (IntKind.wrap .i64 (t19 + (1 : Int))) (((setRange b5g0 (Int.toNat (1 : Int)) (((b5g0.drop 0).take (cutLen 8 none (some (7 : Int)))).take (cutLen 8 (some (1 : Int)) none))).set (Int.toNat (0 : Int)) (IntKind.wrap .u32 (v9 + v14))).set (Int.toNat (4 : Int)) (IntKind.wrap .u32 (v16 + v9))) else none else none
                else none
               else none
              else none
             else none
            else none
           else none
          else none
         else none
        else none
       else none
      else none
     else none
    else none
   else none
  else
   some ((), ((), ()), ((b3g0, ()), (b5g0, ()), ()))
def f222_l3_n (n : Nat) (x : f222_l3_head.den) := f222_l3 x.1.1 x.2.2.1.1 x.2.2.2.1.1 n x.1.2.1 x.2.2.2.2.1.1
def f222_l3_spec : LSpec := { thaws := [], head := f222_l3_head, outs := f222_l3_outs, fn := fun x => f222_l3_n (((64 : Int) - x.1.2.1).toNat + 1) x }
def f222_l12_head : Ann := { env := [(0, cP 3), (5, cP 5), (82, TI)], stk := [[(0, cP 3)]], bxs := [(3, .var [.ty (.arr 8 (.int .u32))]), (5, .var [.ty (.arr 8 (.int .u32))])] }
def f222_l12_outs : List (Ex × Ann) := [((.exit 2), { env := [], stk := [[(0, cP 3)]], bxs := [(3, .var [.ty (.arr 8 (.int .u32))])] })]
def f222_l12 (b5g0 : (List Int)) : Nat → Int → (List Int) → Option (outDen f222_l12_outs)
 | 0, _, _ => none
 | k + 1, t82, b3g0 =>
  bif (decide (t82 < (8 : Int))) then
   bif (inR t82 8) then
    bif (inR t82 8) then
     let v20 : Int := (IntKind.wrap .u32 ((at_ (.int .u32) b3g0 t82) + (at_ (.int .u32) b5g0 t82)))
     bif (inR t82 8) then f222_l12 b5g0 k (IntKind.wrap .i64 (t82 + (1 : Int))) (b3g0.set (Int.toNat t82) v20) else none
    else none
   else none
  else
   some ((), ((), ()), ((b3g0, ()), ()))
def f222_l12_n (n : Nat) (x : f222_l12_head.den) := f222_l12 x.2.2.2.1.1 n x.1.1 x.2.2.1.1
def f222_l12_spec : LSpec := { thaws := [], head := f222_l12_head, outs := f222_l12_outs, fn := fun x => f222_l12_n (((8 : Int) - x.1.1).toNat + 1) x }
abbrev f222_res : List Sh := []
abbrev f222_outs : List (Nat × BSh) := [(3, .var [.ty (.arr 8 (.int .u32))])]
def f222 (t1 : (List Int)) (b3g0 : (List Int)) : Option (shDen f222_res × bxsDen f222_outs) :=
 (f234 t1).bind fun y1 =>
 (f222_l3 roundTable b3g0 y1.1 (((64 : Int) - (0 : Int)).toNat + 1) (0 : Int) b3g0).bind fun o17 =>
 let u18 : (List Int) := o17.2.2.1.1
 let u19 : (List Int) := o17.2.2.2.1.1
 (f222_l12 u19 (((8 : Int) - (0 : Int)).toNat + 1) (0 : Int) u18).bind fun o21 =>
 let u22 : (List Int) := o21.2.2.1.1
 some ((), ((u22, ()), ()))
def f222_spec : CSpec := { thaws := [], args := [(0, cP 3), (1, .ty (.sl (.int .u8)))], ins := [(3, .var [.ty (.arr 8 (.int .u32))])], res := f222_res, outs := f222_outs, fn := fun x => f222 x.1.1 x.2.1.1 }
noncomputable def f222_code : Code := Go.Proofs.Tryz.f222.body.getD .skip
noncomputable def f222_env : Env0 := { C := cfg, P := [(234, f234_spec), (235, f235_spec)], L := [(⟨12, 0, 222, 3⟩, f222_l3_spec), (⟨12, 0, 222, 12⟩, f222_l12_spec)], F := [(222, Go.Proofs.Tryz.f222)], S := [], R := [], I := [], tot := [] }
theorem f222_l3_ok : LoopOK f222_env 12 222 0 (loopAt f222_code 3) f222_l3_spec :=
 loopOK_of (by kernel_rfl) f222_l3_n (fun x o h => ⟨_, h⟩) (fun x => by kernel_rfl) (fun n x => by kernel_rfl)
theorem f222_l12_ok : LoopOK f222_env 12 222 0 (loopAt f222_code 12) f222_l12_spec :=
 loopOK_of (by kernel_rfl) f222_l12_n (fun x o h => ⟨_, h⟩) (fun x => by kernel_rfl) (fun n x => by kernel_rfl)
theorem f222_run (x : envDen (f222_spec).args × bxsDen (f222_spec).ins) : runS f222_env 222 Go.Proofs.Tryz.f222 f222_code (f222_spec) x = (f222_spec).fn x := by kernel_rfl
theorem f222_enter : Enterable Go.Proofs.Tryz.prog 222 := enter_fun Go.Proofs.Tryz.func222 (by kernel_rfl)
theorem f222_envOK : EnvOK Go.Proofs.Tryz.prog f222_env := envOK_of cds (by kernel_rfl) cfg_ok ⟨⟨f234_pure, f234_enter⟩, ⟨f235_pure, f235_enter⟩, trivial⟩ trivial ⟨⟨Go.Proofs.Tryz.func222, by kernel_rfl⟩, trivial⟩ ⟨⟨Go.Proofs.Tryz.f222, f222_code, rfl, rfl, f222_l3_ok⟩, ⟨Go.Proofs.Tryz.f222, f222_code, rfl, rfl, f222_l12_ok⟩, trivial⟩ trivial trivial
theorem f222_call : CallOK Go.Proofs.Tryz.prog cfg 222 f222_spec := call_of_run f222_envOK (fn := Go.Proofs.Tryz.f222) (c := f222_code) rfl rfl f222_spec (by kernel_rfl) (fun x _ h => (f222_run x).trans h)
def f223_l6_head : Ann := { env := [(3, cP 3), (4, TI), (5, .ty (.int .u32)), (7, .ty (.arr 8 (.int .u32))), (8, TI), (12, TI)], stk := [], bxs := [(3, .var [.ty (.arr 32 (.int .u8))])] }
def f223_l6_outs : List (Ex × Ann) := [((.exit 2), { env := [(3, cP 3), (7, .ty (.arr 8 (.int .u32))), (8, TI)], stk := [], bxs := [(3, .var [.ty (.arr 32 (.int .u8))])] })]
def f223_l6 (t4 : Int) (t5 : Int) (t7 : (List Int)) (t8 : Int) : Nat → Int → (List Int) → Option (outDen f223_l6_outs)
 | 0, _, _ => none
 | k + 1, t12, b3g0 =>
  bif (decide (t12 < (4 : Int))) then
   let v1 : Int := (IntKind.wrap .i64 ((IntKind.wrap .i64 ((4 : Int) * t4)) + t12))
   let v2 : Int := (IntKind.wrap .i64 ((24 : Int) - (IntKind.wrap .i64 ((8 : Int) * t12))))
   bif (decide (0 ≤ v2)) then bif (inR v1 32) then f223_l6 t4 t5 t7 t8 k (IntKind.wrap .i64 (t12 + (1 : Int))) (b3g0.set (Int.toNat v1) (IntKind.wrap .u8 (shrV .u32 t5 v2))) else none else none
  else
   some ((t7, t8, ()), (), ((b3g0, ()), ()))
def f223_l6_n (n : Nat) (x : f223_l6_head.den) := f223_l6 x.1.1 x.1.2.1 x.1.2.2.1 x.1.2.2.2.1 n x.1.2.2.2.2.1 x.2.2.1.1
def f223_l6_spec : LSpec := { thaws := [], head := f223_l6_head, outs := f223_l6_outs, fn := fun x => f223_l6_n (((4 : Int) - x.1.2.2.2.2.1).toNat + 1) x }
def f223_l3_head : Ann := { env := [(3, cP 3), (7, .ty (.arr 8 (.int .u32))), (8, TI)], stk := [], bxs := [(3, .var [.ty (.arr 32 (.int .u8))])] }
def f223_l3_outs : List (Ex × Ann) := [((.exit 0), { env := [(3, cP 3)], stk := [], bxs := [(3, .var [.ty (.arr 32 (.int .u8))])] })]
def f223_l3 : Nat → (List Int) → Int → (List Int) → Option (outDen f223_l3_outs)
 | 0, _, _, _ => none
 | k + 1, t7, t8, b3g0 =>
  bif (decide (t8 < (8 : Int))) then
   bif (inR t8 8) then
    (f223_l6 t8 (at_ (.int .u32) t7 t8) t7 t8 (((4 : Int) - (0 : Int)).toNat + 1) (0 : Int) b3g0).bind fun o3 =>
    let u4 : (List Int) := o3.1.1
    let u5 : Int := o3.1.2.1
    let u6 : (List Int) := o3.2.2.1.1
    f223_l3 k u4 (IntKind.wrap .i64 (u5 + (1 : Int))) u6
   else none
  else
   some ((), (), ((b3g0, ()), ()))
def f223_l3_n (n : Nat) (x : f223_l3_head.den) := f223_l3 n x.1.1 x.1.2.1 x.2.2.1.1
def f223_l3_spec : LSpec := { thaws := [], head := f223_l3_head, outs := f223_l3_outs, fn := fun x => f223_l3_n (((8 : Int) - x.1.2.1).toNat + 1) x }
def f223 (a0 : (List Int)) : Option (ByteArray × Unit) :=
 (f223_l3 (((8 : Int) - (0 : Int)).toNat + 1) a0 (0 : Int) (List.replicate 32 (0 : Int))).bind fun o7 =>
 let u8 : (List Int) := o7.2.2.1.1
 let v9 : ByteArray := (ofBytes ((u8.drop 0).take (cutLen 32 none none)))
 some (v9, ())
def f223_spec : PSpec := { args := [(.arr 8 (.int .u32))], res := [.str], fn := fun x => f223 x.1 }
noncomputable def f223_code : Code := Go.Proofs.Tryz.f223.body.getD .skip
noncomputable def f223_env : Env0 := { C := cfg, P := [], L := [(⟨12, 0, 223, 6⟩, f223_l6_spec), (⟨12, 0, 223, 3⟩, f223_l3_spec)], F := [(223, Go.Proofs.Tryz.f223)], S := [], R := [], I := [], tot := [] }
theorem f223_l6_ok : LoopOK f223_env 12 223 0 (loopAt f223_code 6) f223_l6_spec :=
 loopOK_of (by kernel_rfl) f223_l6_n (fun x o h => ⟨_, h⟩) (fun x => by kernel_rfl) (fun n x => by kernel_rfl)
theorem f223_l3_ok : LoopOK f223_env 12 223 0 (loopAt f223_code 3) f223_l3_spec :=
 loopOK_of (by kernel_rfl) f223_l3_n (fun x o h => ⟨_, h⟩) (fun x => by kernel_rfl) (fun n x => by kernel_rfl)
theorem f223_run (x : tysDen (f223_spec).args) : runF f223_env 223 Go.Proofs.Tryz.f223 f223_code (f223_spec).args (f223_spec).res x = f223_spec.fn x := by kernel_rfl
theorem f223_enter : Enterable Go.Proofs.Tryz.prog 223 := enter_fun Go.Proofs.Tryz.func223 (by kernel_rfl)
theorem f223_envOK : EnvOK Go.Proofs.Tryz.prog f223_env := envOK_of cds (by kernel_rfl) cfg_ok trivial trivial ⟨⟨Go.Proofs.Tryz.func223, by kernel_rfl⟩, trivial⟩ ⟨⟨Go.Proofs.Tryz.f223, f223_code, rfl, rfl, f223_l6_ok⟩, ⟨Go.Proofs.Tryz.f223, f223_code, rfl, rfl, f223_l3_ok⟩, trivial⟩ trivial trivial
theorem f223_pure : PureOK Go.Proofs.Tryz.prog cfg 223 f223_spec := pure_of_run f223_envOK (fn := Go.Proofs.Tryz.f223) (c := f223_code) rfl rfl f223_spec (fun x _ h => (f223_run x).trans h)
def f191_l3_head : Ann := { env := [(0, .ty .str), (3, cP 3), (4, .cst (.row 9 .whole))], stk := [], bxs := [(3, .var [.ty (.arr 8 (.int .u32))]), (9, .row (.int .u8) false)] }
def f191_l3_outs : List (Ex × Ann) := [((.exit 0), { env := [(0, .ty .str), (3, cP 3), (4, .cst (.row 9 .whole))], stk := [], bxs := [(3, .var [.ty (.arr 8 (.int .u32))]), (9, .row (.int .u8) false)] })]
def f191_l3 (t0 : ByteArray) (b3g0 : (List Int)) : Nat → (List Int) → Option (outDen f191_l3_outs)
 | 0, _ => none
 | k + 1, r9 =>
  let v2 : Bool := (decide ((Int.tmod (r9.length : Int) (64 : Int)) ≠ (56 : Int)))
  bif v2 then
   bif (decide (r9.length + ([(0 : Int)] : List Int).length ≤ appLim)) then f191_l3 t0 b3g0 k (r9 ++ ([(0 : Int)] : List Int)) else none
  else
   some ((t0, ()), (), ((b3g0, ()), r9, ()))
def f191_l3_n (n : Nat) (x : f191_l3_head.den) := f191_l3 x.1.1 x.2.2.1.1 n x.2.2.2.1
def f191_l3_spec : LSpec := { thaws := [], head := f191_l3_head, outs := f191_l3_outs, fn := fun x => f191_l3_n ((64 : Nat)) x }
def f191_l6_head : Ann := { env := [(0, .ty .str), (3, cP 3), (4, .cst (.row 9 .whole)), (5, TI)], stk := [], bxs := [(3, .var [.ty (.arr 8 (.int .u32))]), (9, .row (.int .u8) false)] }
def f191_l6_outs : List (Ex × Ann) := [((.exit 2), { env := [(3, cP 3), (4, .cst (.row 9 .whole))], stk := [], bxs := [(3, .var [.ty (.arr 8 (.int .u32))]), (9, .row (.int .u8) false)] })]
def f191_l6 (t0 : ByteArray) (b3g0 : (List Int)) : Nat → Int → (List Int) → Option (outDen f191_l6_outs)
 | 0, _, _ => none
 | k + 1, t5, r9 =>
  bif (decide (t5 ≥ (0 : Int))) then
   let v7 : Int := (IntKind.wrap .i64 ((8 : Int) * (t0.size : Int)))
   bif (decide (0 ≤ (IntKind.wrap .i64 ((8 : Int) * t5)))) then
    let v8 : Int := (shrV .i64 v7 (IntKind.wrap .i64 ((8 : Int) * t5)))
    bif (decide (r9.length + ([(IntKind.wrap .u8 v8)] : List Int).length ≤ appLim)) then f191_l6 t0 b3g0 k (IntKind.wrap .i64 (t5 - (1 : Int))) (r9 ++ ([(IntKind.wrap .u8 v8)] : List Int)) else none
   else none
  else
   some ((), (), ((b3g0, ()), r9, ()))
def f191_l6_n (n : Nat) (x : f191_l6_head.den) := f191_l6 x.1.1 x.2.2.1.1 n x.1.2.1 x.2.2.2.1
def f191_l6_spec : LSpec := { thaws := [], head := f191_l6_head, outs := f191_l6_outs, fn := fun x => f191_l6_n ((x.1.2.1 + 1).toNat + 1) x }
def f233_l1_b910000_head : Ann := { env := [(0, .cst (.yld 910)), (1, cP 34002), (2, cP 34003), (4, TI)], stk := [[(0, .cst (.yld 910))], [(3, cP 3)]], bxs := [(910, .loop false 191 10 [(3, cP 3)]), (34002, .var [.ty (.sl (.int .u8))]), (34003, .var [TI]), (3, .var [.ty (.arr 8 (.int .u32))])] }
def f233_l1_b910000_outs : List (Ex × Ann) := [((.exit 0), { env := [], stk := [[(0, .cst (.yld 910))], [(3, cP 3)]], bxs := [(910, .loop false 191 10 [(3, cP 3)]), (3, .var [.ty (.arr 8 (.int .u32))])] })]
def f233_l1_b910000 (b34002g0 : (List Int)) (b34003g0 : Int) : Nat → Int → (List Int) → Option (outDen f233_l1_b910000_outs)
 | 0, _, _ => none
 | k + 1, t4, b3g0 =>
  bif (decide (t4 < (b34002g0.length : Int))) then
   bif (cutOk b34002g0.length (some t4) none) then
    let v12 : Int := ((b34002g0.drop (Int.toNat t4)).length : Int)
    let v13 : Int := (if v12 < b34003g0 then v12 else b34003g0)
    bif ((cutOk b34002g0.length (some t4) (some (IntKind.wrap .i64 (t4 + v13)))) && decide ((IntKind.wrap .i64 (t4 + v13)) = (IntKind.wrap .i64 (t4 + v13)))) then
     (f222 ((b34002g0.take (Int.toNat (IntKind.wrap .i64 (t4 + v13)))).drop (Int.toNat t4)) b3g0).bind fun y14 =>
     let u15 : (List Int) := y14.2.1.1
     f233_l1_b910000 b34002g0 b34003g0 k (IntKind.wrap .i64 (t4 + b34003g0)) u15
    else none
   else none
  else
   some ((), ((), (), ()), ((), (b3g0, ()), ()))
def f233_l1_b910000_n (n : Nat) (x : f233_l1_b910000_head.den) := f233_l1_b910000 x.2.2.2.1.1 x.2.2.2.2.1.1 n x.1.1 x.2.2.2.2.2.1.1
def f233_l1_b910000_spec : LSpec := { thaws := [], head := f233_l1_b910000_head, outs := f233_l1_b910000_outs, fn := fun x => f233_l1_b910000_n (((x.2.2.2.1.1.length : Int) - x.1.1).toNat + 1) x }
def f191 (a0 : ByteArray) : Option (ByteArray × Unit) :=
 let v1 : (List Int) := ([(1779033703 : Int), (3144134277 : Int), (1013904242 : Int), (2773480762 : Int), (1359893119 : Int), (2600822924 : Int), (528734635 : Int), (1541459225 : Int)] : List Int)
 bif (decide ((toBytes a0).length + ([(128 : Int)] : List Int).length ≤ appLim)) then
  (f191_l3 a0 v1 ((64 : Nat)) ((toBytes a0) ++ ([(128 : Int)] : List Int))).bind fun o3 =>
  let u4 : ByteArray := o3.1.1
  let u5 : (List Int) := o3.2.2.1.1
  let u6 : (List Int) := o3.2.2.2.1
  (f191_l6 u4 u5 (((7 : Int) + 1).toNat + 1) (7 : Int) u6).bind fun o9 =>
  let u10 : (List Int) := o9.2.2.1.1
  let u11 : (List Int) := o9.2.2.2.1
  (f233_l1_b910000 u11 (64 : Int) (((u11.length : Int) - (0 : Int)).toNat + 1) (0 : Int) u10).bind fun o16 =>
  let u17 : (List Int) := o16.2.2.2.1.1
  (f223 u17).bind fun y18 =>
  some (y18.1, ())
 else none
def f191_spec : PSpec := { args := [.str], res := [.str], fn := fun x => f191 x.1 }
noncomputable def f191_code : Code := Go.Proofs.Tryz.f191.body.getD .skip
noncomputable def f191_code_233 : Code := Go.Proofs.Tryz.f233.body.getD .skip
noncomputable def f191_env : Env0 := { C := cfg, P := [(223, f223_spec)], L := [(⟨12, 0, 191, 3⟩, f191_l3_spec), (⟨12, 0, 191, 6⟩, f191_l6_spec), (⟨11, 910000, 233, 1⟩, f233_l1_b910000_spec)], F := [(191, Go.Proofs.Tryz.f191), (221, Go.Proofs.Tryz.f221), (233, Go.Proofs.Tryz.f233)], S := [(222, f222_spec)], R := [], I := [], tot := [] }
theorem f191_l3_ok : LoopOK f191_env 12 191 0 (loopAt f191_code 3) f191_l3_spec :=
 loopOK_of (by kernel_rfl) f191_l3_n (fun x o h => ⟨_, h⟩) (fun x => by kernel_rfl) (fun n x => by kernel_rfl)
theorem f191_l6_ok : LoopOK f191_env 12 191 0 (loopAt f191_code 6) f191_l6_spec :=
 loopOK_of (by kernel_rfl) f191_l6_n (fun x o h => ⟨_, h⟩) (fun x => by kernel_rfl) (fun n x => by kernel_rfl)
theorem f233_l1_b910000_ok : LoopOK f191_env 11 233 910000 (loopAt f191_code_233 1) f233_l1_b910000_spec :=
 loopOK_of (by kernel_rfl) f233_l1_b910000_n (fun x o h => ⟨_, h⟩) (fun x => by kernel_rfl) (fun n x => by kernel_rfl)
theorem f191_run (x : tysDen (f191_spec).args) : runF f191_env 191 Go.Proofs.Tryz.f191 f191_code (f191_spec).args (f191_spec).res x = f191_spec.fn x := by kernel_rfl
theorem f191_enter : Enterable Go.Proofs.Tryz.prog 191 := enter_fun Go.Proofs.Tryz.func191 (by kernel_rfl)
theorem f191_envOK : EnvOK Go.Proofs.Tryz.prog f191_env := envOK_of cds (by kernel_rfl) cfg_ok ⟨⟨f223_pure, f223_enter⟩, trivial⟩ ⟨⟨f222_call, by kernel_rfl, f222_enter⟩, trivial⟩ ⟨⟨Go.Proofs.Tryz.func191, by kernel_rfl⟩, ⟨Go.Proofs.Tryz.func221, by kernel_rfl⟩, ⟨Go.Proofs.Tryz.func233, by kernel_rfl⟩, trivial⟩ ⟨⟨Go.Proofs.Tryz.f191, f191_code, rfl, rfl, f191_l3_ok⟩, ⟨Go.Proofs.Tryz.f191, f191_code, rfl, rfl, f191_l6_ok⟩, ⟨Go.Proofs.Tryz.f233, f191_code_233, rfl, rfl, f233_l1_b910000_ok⟩, trivial⟩ trivial trivial
theorem f191_pure : PureOK Go.Proofs.Tryz.prog cfg 191 f191_spec := pure_of_run f191_envOK (fn := Go.Proofs.Tryz.f191) (c := f191_code) rfl rfl f191_spec (fun x _ h => (f191_run x).trans h)
def f136 (a0 : Int) (a1 : ByteArray) : Option (ByteArray × Unit) :=
 bif (decide (a1 = (⟨#[]⟩ : ByteArray))) then
  (f135 ).bind fun y1 =>
  some (y1.1, ())
 else
  (f168 a0).bind fun y2 =>
  bif (catOk (⟨#[8]⟩ : ByteArray) y2.1) then
   bif (catOk ((⟨#[8]⟩ : ByteArray) ++ y2.1) a1) then
    (f191 (((⟨#[8]⟩ : ByteArray) ++ y2.1) ++ a1)).bind fun y3 =>
    some (y3.1, ())
   else none
  else none
def f136_spec : PSpec := { args := [tI, .str], res := [.str], fn := fun x => f136 x.1 x.2.1 }
noncomputable def f136_code : Code := Go.Proofs.Tryz.f136.body.getD .skip
noncomputable def f136_env : Env0 := { C := cfg, P := [(135, f135_spec), (168, f168_spec), (191, f191_spec)], L := [], F := [(136, Go.Proofs.Tryz.f136)], S := [], R := [], I := [], tot := [] }
theorem f136_run (x : tysDen (f136_spec).args) : runF f136_env 136 Go.Proofs.Tryz.f136 f136_code (f136_spec).args (f136_spec).res x = f136_spec.fn x := by kernel_rfl
theorem f136_enter : Enterable Go.Proofs.Tryz.prog 136 := enter_fun Go.Proofs.Tryz.func136 (by kernel_rfl)
theorem f136_envOK : EnvOK Go.Proofs.Tryz.prog f136_env := envOK_of cds (by kernel_rfl) cfg_ok ⟨⟨f135_pure, f135_enter⟩, ⟨f168_pure, f168_enter⟩, ⟨f191_pure, f191_enter⟩, trivial⟩ trivial ⟨⟨Go.Proofs.Tryz.func136, by kernel_rfl⟩, trivial⟩ trivial trivial trivial
theorem f136_pure : PureOK Go.Proofs.Tryz.prog cfg 136 f136_spec := pure_of_run f136_envOK (fn := Go.Proofs.Tryz.f136) (c := f136_code) rfl rfl f136_spec (fun x _ h => (f136_run x).trans h)
def f137 (a0 : ByteArray) (a1 : ByteArray) : Option (ByteArray × Unit) :=
 (f135 ).bind fun y1 =>
 bif (decide (a0 = y1.1)) then
  (f135 ).bind fun y2 =>
  bif (decide (a1 = y2.1)) then
   (f135 ).bind fun y3 =>
   some (y3.1, ())
  else
   bif (catOk (⟨#[9]⟩ : ByteArray) a0) then
    bif (catOk ((⟨#[9]⟩ : ByteArray) ++ a0) a1) then
     (f191 (((⟨#[9]⟩ : ByteArray) ++ a0) ++ a1)).bind fun y4 =>
     some (y4.1, ())
    else none
   else none
 else
  bif (catOk (⟨#[9]⟩ : ByteArray) a0) then
   bif (catOk ((⟨#[9]⟩ : ByteArray) ++ a0) a1) then
    (f191 (((⟨#[9]⟩ : ByteArray) ++ a0) ++ a1)).bind fun y5 =>
    some (y5.1, ())
   else none
  else none
def f137_spec : PSpec := { args := [.str, .str], res := [.str], fn := fun x => f137 x.1 x.2.1 }
noncomputable def f137_code : Code := Go.Proofs.Tryz.f137.body.getD .skip
noncomputable def f137_env : Env0 := { C := cfg, P := [(135, f135_spec), (191, f191_spec)], L := [], F := [(137, Go.Proofs.Tryz.f137)], S := [], R := [], I := [], tot := [] }
theorem f137_run (x : tysDen (f137_spec).args) : runF f137_env 137 Go.Proofs.Tryz.f137 f137_code (f137_spec).args (f137_spec).res x = f137_spec.fn x := by kernel_rfl
theorem f137_enter : Enterable Go.Proofs.Tryz.prog 137 := enter_fun Go.Proofs.Tryz.func137 (by kernel_rfl)
theorem f137_envOK : EnvOK Go.Proofs.Tryz.prog f137_env := envOK_of cds (by kernel_rfl) cfg_ok ⟨⟨f135_pure, f135_enter⟩, ⟨f191_pure, f191_enter⟩, trivial⟩ trivial ⟨⟨Go.Proofs.Tryz.func137, by kernel_rfl⟩, trivial⟩ trivial trivial trivial
theorem f137_pure : PureOK Go.Proofs.Tryz.prog cfg 137 f137_spec := pure_of_run f137_envOK (fn := Go.Proofs.Tryz.f137) (c := f137_code) rfl rfl f137_spec (fun x _ h => (f137_run x).trans h)
def f88_l3_b8000_head : Ann := { env := [(0, .ty (.sl tN)), (3, cP 8009), (10, TI)], stk := [[(2, .ty .str), (3, TI)]], bxs := [(8009, .var [.ty (.arr 128 .str)])] }
def f88_l3_b8000_outs : List (Ex × Ann) := [((.exit 0), { env := [(0, .ty (.sl tN)), (3, cP 8009)], stk := [[(2, .ty .str), (3, TI)]], bxs := [(8009, .var [.ty (.arr 128 .str)])] })]
def f88_l3_b8000 (t0 : (List En)) (k0t2 : ByteArray) (k0t3 : Int) : Nat → Int → (List ByteArray) → Option (outDen f88_l3_b8000_outs)
 | 0, _, _ => none
 | k + 1, t10, b8009g0 =>
  bif (decide (t10 < (64 : Int))) then
   (f135 ).bind fun y2 =>
   bif (inR (IntKind.wrap .i64 ((64 : Int) + t10)) 128) then f88_l3_b8000 t0 k0t2 k0t3 k (IntKind.wrap .i64 (t10 + (1 : Int))) (b8009g0.set (Int.toNat (IntKind.wrap .i64 ((64 : Int) + t10))) y2.1) else none
  else
   some ((t0, ()), ((k0t2, k0t3, ()), ()), ((b8009g0, ()), ()))
def f88_l3_b8000_n (n : Nat) (x : f88_l3_b8000_head.den) := f88_l3_b8000 x.1.1 x.2.1.1.1 x.2.1.1.2.1 n x.1.2.1 x.2.2.1.1
def f88_l3_b8000_spec : LSpec := { thaws := [], head := f88_l3_b8000_head, outs := f88_l3_b8000_outs, fn := fun x => f88_l3_b8000_n (((64 : Int) - x.1.2.1).toNat + 1) x }
def f88_l8_b8000_head : Ann := { env := [(3, cP 8009), (20, .ty (.sl tN)), (21, TI), (22, TI)], stk := [[(2, .ty .str), (3, TI)]], bxs := [(8009, .var [.ty (.arr 128 .str)])] }
def f88_l8_b8000_outs : List (Ex × Ann) := [((.exit 2), { env := [(3, cP 8009)], stk := [[(2, .ty .str), (3, TI)]], bxs := [(8009, .var [.ty (.arr 128 .str)])] })]
def f88_l8_b8000 (t20 : (List En)) (t21 : Int) (k0t2 : ByteArray) (k0t3 : Int) : Nat → Int → (List ByteArray) → Option (outDen f88_l8_b8000_outs)
 | 0, _, _ => none
 | k + 1, t22, b8009g0 =>
  bif (decide (t22 < t21)) then
   bif (inR t22 t20.length) then
    let v8 : Int := (at_ tN t20 t22).1
    let v9 : Int := (at_ tN t20 t22).1
    let v10 : ByteArray := (at_ tN t20 t22).2.1
    (f136 v9 v10).bind fun y11 =>
    bif (inR (IntKind.wrap .i64 ((64 : Int) + v8)) 128) then f88_l8_b8000 t20 t21 k0t2 k0t3 k (IntKind.wrap .i64 (t22 + (1 : Int))) (b8009g0.set (Int.toNat (IntKind.wrap .i64 ((64 : Int) + v8))) y11.1) else none
   else none
  else
   some ((), ((k0t2, k0t3, ()), ()), ((b8009g0, ()), ()))
def f88_l8_b8000_n (n : Nat) (x : f88_l8_b8000_head.den) := f88_l8_b8000 x.1.1 x.1.2.1 x.2.1.1.1 x.2.1.1.2.1 n x.1.2.2.1 x.2.2.1.1
def f88_l8_b8000_spec : LSpec := { thaws := [], head := f88_l8_b8000_head, outs := f88_l8_b8000_outs, fn := fun x => f88_l8_b8000_n ((x.1.2.1 - x.1.2.2.1).toNat + 1) x }
def f88_l13_b8000_head : Ann := { env := [(3, cP 8009), (7, TI)], stk := [[(2, .ty .str), (3, TI)]], bxs := [(8009, .var [.ty (.arr 128 .str)])] }
def f88_l13_b8000_outs : List (Ex × Ann) := [((.exit 4), { env := [(3, cP 8009)], stk := [[(2, .ty .str), (3, TI)]], bxs := [(8009, .var [.ty (.arr 128 .str)])] })]
def f88_l13_b8000 (k0t2 : ByteArray) (k0t3 : Int) : Nat → Int → (List ByteArray) → Option (outDen f88_l13_b8000_outs)
 | 0, _, _ => none
 | k + 1, t7, b8009g0 =>
  bif (decide (t7 > (0 : Int))) then
   bif (inR (IntKind.wrap .i64 ((2 : Int) * t7)) 128) then
    let v16 : ByteArray := (at_ .str b8009g0 (IntKind.wrap .i64 ((2 : Int) * t7)))
    let v17 : Int := (IntKind.wrap .i64 ((IntKind.wrap .i64 ((2 : Int) * t7)) + (1 : Int)))
    bif (inR v17 128) then
     (f137 v16 (at_ .str b8009g0 v17)).bind fun y18 =>
     bif (inR t7 128) then f88_l13_b8000 k0t2 k0t3 k (IntKind.wrap .i64 (t7 - (1 : Int))) (b8009g0.set (Int.toNat t7) y18.1) else none
    else none
   else none
  else
   some ((), ((k0t2, k0t3, ()), ()), ((b8009g0, ()), ()))
def f88_l13_b8000_n (n : Nat) (x : f88_l13_b8000_head.den) := f88_l13_b8000 x.2.1.1.1 x.2.1.1.2.1 n x.1.1 x.2.2.1.1
def f88_l13_b8000_spec : LSpec := { thaws := [], head := f88_l13_b8000_head, outs := f88_l13_b8000_outs, fn := fun x => f88_l13_b8000_n (x.1.1.toNat + 1) x }
def f39 (a0 : (List En)) : Option (ByteArray × Int × Unit) :=
 (f87 a0).bind fun y1 =>
 bif (!y1.1) then
  some ((⟨#[]⟩ : ByteArray), (40 : Int), ())
 else
  (f88_l3_b8000 a0 (⟨#[]⟩ : ByteArray) (0 : Int) (((64 : Int) - (0 : Int)).toNat + 1) (0 : Int) (List.replicate 128 (⟨#[]⟩ : ByteArray))).bind fun o3 =>
  let u4 : (List En) := o3.1.1
  let u5 : ByteArray := o3.2.1.1.1
  let u6 : Int := o3.2.1.1.2.1
  let u7 : (List ByteArray) := o3.2.2.1.1
  (f88_l8_b8000 u4 (u4.length : Int) u5 u6 (((u4.length : Int) - (0 : Int)).toNat + 1) (0 : Int) u7).bind fun o12 =>
  let u13 : ByteArray := o12.2.1.1.1
  let u14 : Int := o12.2.1.1.2.1
  let u15 : (List ByteArray) := o12.2.2.1.1
  (f88_l13_b8000 u13 u14 ((63 : Int).toNat + 1) (63 : Int) u15).bind fun o19 =>
  let u22 : (List ByteArray) := o19.2.2.1.1
  bif (inR (1 : Int) 128) then some ((at_ .str u22 (1 : Int)), (0 : Int), ()) else none
def f39_spec : PSpec := { args := [(.sl tN)], res := [.str, tI], fn := fun x => f39 x.1 }
noncomputable def f39_code : Code := Go.Proofs.Tryz.f39.body.getD .skip
noncomputable def f39_code_88 : Code := Go.Proofs.Tryz.f88.body.getD .skip
noncomputable def f39_env : Env0 := { C := cfg, P := [(87, f87_spec), (135, f135_spec), (136, f136_spec), (137, f137_spec)], L := [(⟨11, 8000, 88, 3⟩, f88_l3_b8000_spec), (⟨11, 8000, 88, 8⟩, f88_l8_b8000_spec), (⟨11, 8000, 88, 13⟩, f88_l13_b8000_spec)], F := [(39, Go.Proofs.Tryz.f39), (88, Go.Proofs.Tryz.f88)], S := [], R := [], I := [], tot := [] }
theorem f88_l3_b8000_ok : LoopOK f39_env 11 88 8000 (loopAt f39_code_88 3) f88_l3_b8000_spec :=
 loopOK_of (by kernel_rfl) f88_l3_b8000_n (fun x o h => ⟨_, h⟩) (fun x => by kernel_rfl) (fun n x => by kernel_rfl)
theorem f88_l8_b8000_ok : LoopOK f39_env 11 88 8000 (loopAt f39_code_88 8) f88_l8_b8000_spec :=
 loopOK_of (by kernel_rfl) f88_l8_b8000_n (fun x o h => ⟨_, h⟩) (fun x => by kernel_rfl) (fun n x => by kernel_rfl)
theorem f88_l13_b8000_ok : LoopOK f39_env 11 88 8000 (loopAt f39_code_88 13) f88_l13_b8000_spec :=
 loopOK_of (by kernel_rfl) f88_l13_b8000_n (fun x o h => ⟨_, h⟩) (fun x => by kernel_rfl) (fun n x => by kernel_rfl)
theorem f39_run (x : tysDen (f39_spec).args) : runF f39_env 39 Go.Proofs.Tryz.f39 f39_code (f39_spec).args (f39_spec).res x = f39_spec.fn x := by kernel_rfl
theorem f39_enter : Enterable Go.Proofs.Tryz.prog 39 := enter_fun Go.Proofs.Tryz.func39 (by kernel_rfl)
theorem f39_envOK : EnvOK Go.Proofs.Tryz.prog f39_env := envOK_of cds (by kernel_rfl) cfg_ok ⟨⟨f87_pure, f87_enter⟩, ⟨f135_pure, f135_enter⟩, ⟨f136_pure, f136_enter⟩, ⟨f137_pure, f137_enter⟩, trivial⟩ trivial ⟨⟨Go.Proofs.Tryz.func39, by kernel_rfl⟩, ⟨Go.Proofs.Tryz.func88, by kernel_rfl⟩, trivial⟩ ⟨⟨Go.Proofs.Tryz.f88, f39_code_88, rfl, rfl, f88_l3_b8000_ok⟩, ⟨Go.Proofs.Tryz.f88, f39_code_88, rfl, rfl, f88_l8_b8000_ok⟩, ⟨Go.Proofs.Tryz.f88, f39_code_88, rfl, rfl, f88_l13_b8000_ok⟩, trivial⟩ trivial trivial
theorem f39_pure : PureOK Go.Proofs.Tryz.prog cfg 39 f39_spec := pure_of_run f39_envOK (fn := Go.Proofs.Tryz.f39) (c := f39_code) rfl rfl f39_spec (fun x _ h => (f39_run x).trans h)
def f15 (a0 : Gr) : Option (ByteArray × Int × Unit) :=
 (f13 a0).bind fun y1 =>
 bif (decide (y1.2.1 ≠ (0 : Int))) then
  some ((⟨#[]⟩ : ByteArray), y1.2.1, ())
 else
  (f39 y1.1).bind fun y2 =>
  bif (decide (y2.2.1 ≠ (0 : Int))) then
   some ((⟨#[]⟩ : ByteArray), (60 : Int), ())
  else
   some (y2.1, (0 : Int), ())
def f15_spec : PSpec := { args := [tG], res := [.str, tI], fn := fun x => f15 x.1 }
noncomputable def f15_code : Code := Go.Proofs.Tryz.f15.body.getD .skip
noncomputable def f15_env : Env0 := { C := cfg, P := [(13, f13_spec), (39, f39_spec)], L := [], F := [(15, Go.Proofs.Tryz.f15)], S := [], R := [], I := [], tot := [] }
theorem f15_run (x : tysDen (f15_spec).args) : runF f15_env 15 Go.Proofs.Tryz.f15 f15_code (f15_spec).args (f15_spec).res x = f15_spec.fn x := by kernel_rfl
theorem f15_enter : Enterable Go.Proofs.Tryz.prog 15 := enter_fun Go.Proofs.Tryz.func15 (by kernel_rfl)
theorem f15_envOK : EnvOK Go.Proofs.Tryz.prog f15_env := envOK_of cds (by kernel_rfl) cfg_ok ⟨⟨f13_pure, f13_enter⟩, ⟨f39_pure, f39_enter⟩, trivial⟩ trivial ⟨⟨Go.Proofs.Tryz.func15, by kernel_rfl⟩, trivial⟩ trivial trivial trivial
theorem f15_pure : PureOK Go.Proofs.Tryz.prog cfg 15 f15_spec := pure_of_run f15_envOK (fn := Go.Proofs.Tryz.f15) (c := f15_code) rfl rfl f15_spec (fun x _ h => (f15_run x).trans h)
def f115_l2_b10000_head : Ann := { env := [(0, .ty (.sl tV)), (1, .cst (.fn 116 [(.ptr 3 0 [])])), (7, TI), (8, TI)], stk := [[(2, cP 2), (4, cP 4), (5, .ty .bool)]], bxs := [(3, .var [TI]), (2, .var [.ty (.sl tV), .ty (.sl tE), .ty (.sl tI)]), (4, .var [TI, TI])] }
def f115_l2_b10000_outs : List (Ex × Ann) := [((.exit 0), { env := [], stk := [[(2, cP 2), (4, cP 4), (5, .ty .bool)]], bxs := [(2, .var [.ty (.sl tV), .ty (.sl tE), .ty (.sl tI)]), (4, .var [TI, TI])] }), (.ret, { env := [(4, TI)], stk := [[(2, cP 2), (4, cP 4), (5, .ty .bool)]], bxs := [(2, .var [.ty (.sl tV), .ty (.sl tE), .ty (.sl tI)]), (4, .var [TI, TI])] })]
def f115_l2_b10000 (t0 : (List Vx)) (t7 : Int) (k0t5 : Bool) (b3g0 : Int) (b2g0 : (List Vx)) (b2g1 : (List Ed)) (b2g2 : (List Int)) (b4g0 : Int) (b4g1 : Int) : Nat → Int → Option (outDen f115_l2_b10000_outs)
 | 0, _ => none
 | k + 1, t8 =>
  bif (decide (t8 < t7)) then
   bif (inR t8 t0.length) then
    let v1 : Int := (at_ tV t0 t8).1
    bif (decide (v1 = b3g0)) then
     some (.inr ((t8, ()), ((k0t5, ()), ()), ((b2g0, b2g1, b2g2, ()), (b4g0, b4g1, ()), ())))
    else
     f115_l2_b10000 t0 t7 k0t5 b3g0 b2g0 b2g1 b2g2 b4g0 b4g1 k (IntKind.wrap .i64 (t8 + (1 : Int)))
   else none
  else
   some (.inl ((), ((k0t5, ()), ()), ((b2g0, b2g1, b2g2, ()), (b4g0, b4g1, ()), ())))
def f115_l2_b10000_n (n : Nat) (x : f115_l2_b10000_head.den) := f115_l2_b10000 x.1.1 x.1.2.1 x.2.1.1.1 x.2.2.1.1 x.2.2.2.1.1 x.2.2.2.1.2.1 x.2.2.2.1.2.2.1 x.2.2.2.2.1.1 x.2.2.2.2.1.2.1 n x.1.2.2.1
def f115_l2_b10000_spec : LSpec := { thaws := [], head := f115_l2_b10000_head, outs := f115_l2_b10000_outs, fn := fun x => f115_l2_b10000_n ((x.1.2.1 - x.1.2.2.1).toNat + 1) x }
def f53 (a0 : Gr) (a1 : Int) : Option (Vx × Bool × Unit) :=
 (f115_l2_b10000 a0.1 (a0.1.length : Int) false a1 a0.1 a0.2.1 a0.2.2.1 0 0 (((a0.1.length : Int) - (0 : Int)).toNat + 1) (0 : Int)).bind fun o2 =>
 Sum.elim (fun o3 =>
  some ((0, (0, ())), false, ())) (fun o4 =>
  let u11 : Int := o4.1.1
  let u13 : (List Vx) := o4.2.2.1.1
  let u14 : (List Ed) := o4.2.2.1.2.1
  let u15 : (List Int) := o4.2.2.1.2.2.1
  bif (decide (u11 < (0 : Int))) then
   some ((0, (0, ())), false, ())
  else
   (f46 (u13, (u14, (u15, ())))).bind fun y18 =>
   bif (!y18.1) then
    some ((0, (0, ())), false, ())
   else
    bif (inR u11 u13.length) then some ((at_ tV u13 u11), true, ()) else none) o2
def f53_spec : PSpec := { args := [tG, tI], res := [tV, .bool], fn := fun x => f53 x.1 x.2.1 }
noncomputable def f53_code : Code := Go.Proofs.Tryz.f53.body.getD .skip
noncomputable def f53_code_115 : Code := Go.Proofs.Tryz.f115.body.getD .skip
noncomputable def f53_env : Env0 := { C := cfg, P := [(46, f46_spec)], L := [(⟨11, 10000, 115, 2⟩, f115_l2_b10000_spec)], F := [(53, Go.Proofs.Tryz.f53), (115, Go.Proofs.Tryz.f115), (116, Go.Proofs.Tryz.f116)], S := [], R := [], I := [], tot := [] }
theorem f115_l2_b10000_ok : LoopOK f53_env 11 115 10000 (loopAt f53_code_115 2) f115_l2_b10000_spec :=
 loopOK_of (by kernel_rfl) f115_l2_b10000_n (fun x o h => ⟨_, h⟩) (fun x => by kernel_rfl) (fun n x => by kernel_rfl)
theorem f53_run (x : tysDen (f53_spec).args) : runF f53_env 53 Go.Proofs.Tryz.f53 f53_code (f53_spec).args (f53_spec).res x = f53_spec.fn x := by kernel_rfl
theorem f53_enter : Enterable Go.Proofs.Tryz.prog 53 := enter_fun Go.Proofs.Tryz.func53 (by kernel_rfl)
theorem f53_envOK : EnvOK Go.Proofs.Tryz.prog f53_env := envOK_of cds (by kernel_rfl) cfg_ok ⟨⟨f46_pure, f46_enter⟩, trivial⟩ trivial ⟨⟨Go.Proofs.Tryz.func53, by kernel_rfl⟩, ⟨Go.Proofs.Tryz.func115, by kernel_rfl⟩, ⟨Go.Proofs.Tryz.func116, by kernel_rfl⟩, trivial⟩ ⟨⟨Go.Proofs.Tryz.f115, f53_code_115, rfl, rfl, f115_l2_b10000_ok⟩, trivial⟩ trivial trivial
theorem f53_pure : PureOK Go.Proofs.Tryz.prog cfg 53 f53_spec := pure_of_run f53_envOK (fn := Go.Proofs.Tryz.f53) (c := f53_code) rfl rfl f53_spec (fun x _ h => (f53_run x).trans h)
def f19 (a0 : Gr) (a1 : Int) : Option (ByteArray × Int × Unit) :=
 (f53 a0 a1).bind fun y1 =>
 bif (!y1.2.1) then
  some ((⟨#[]⟩ : ByteArray), (60 : Int), ())
 else
  (f54 a0 y1.1).bind fun y2 =>
  some (y2.1, (0 : Int), ())
def f19_spec : PSpec := { args := [tG, tI], res := [.str, tI], fn := fun x => f19 x.1 x.2.1 }
noncomputable def f19_code : Code := Go.Proofs.Tryz.f19.body.getD .skip
noncomputable def f19_env : Env0 := { C := cfg, P := [(53, f53_spec), (54, f54_spec)], L := [], F := [(19, Go.Proofs.Tryz.f19)], S := [], R := [], I := [], tot := [] }
theorem f19_run (x : tysDen (f19_spec).args) : runF f19_env 19 Go.Proofs.Tryz.f19 f19_code (f19_spec).args (f19_spec).res x = f19_spec.fn x := by kernel_rfl
theorem f19_enter : Enterable Go.Proofs.Tryz.prog 19 := enter_fun Go.Proofs.Tryz.func19 (by kernel_rfl)
theorem f19_envOK : EnvOK Go.Proofs.Tryz.prog f19_env := envOK_of cds (by kernel_rfl) cfg_ok ⟨⟨f53_pure, f53_enter⟩, ⟨f54_pure, f54_enter⟩, trivial⟩ trivial ⟨⟨Go.Proofs.Tryz.func19, by kernel_rfl⟩, trivial⟩ trivial trivial trivial
theorem f19_pure : PureOK Go.Proofs.Tryz.prog cfg 19 f19_spec := pure_of_run f19_envOK (fn := Go.Proofs.Tryz.f19) (c := f19_code) rfl rfl f19_spec (fun x _ h => (f19_run x).trans h)
def f118_l5_head : Ann := { env := [(0, .ty .str), (1, TI), (7, .ty (.int .u64)), (19, TI)], stk := [], bxs := [] }
def f118_l5_outs : List (Ex × Ann) := [((.exit 0), { env := [], stk := [], bxs := [] }), (.ret, { env := [(4, TI), (5, TI), (6, TI)], stk := [], bxs := [] })]
def f118_l5 (t0 : ByteArray) (t1 : Int) : Nat → Int → Int → Option (outDen f118_l5_outs)
 | 0, _, _ => none
 | k + 1, t7, t19 =>
  bif (decide (t19 < (9 : Int))) then
   let v1 : Bool := (decide ((IntKind.wrap .i64 (t1 + t19)) ≥ (t0.size : Int)))
   bif v1 then
    some (.inl ((), (), ()))
   else
    bif (inR (IntKind.wrap .i64 (t1 + t19)) t0.size) then
     let v2 : Int := (byteAt t0 (IntKind.wrap .i64 (t1 + t19)))
     let v3 : Int := (IntKind.wrap .u64 (andV .u8 v2 (127 : Int)))
     bif (decide (0 ≤ (IntKind.wrap .i64 ((7 : Int) * t19)))) then
      let v4 : Int := (shlV .u64 v3 (IntKind.wrap .i64 ((7 : Int) * t19)))
      bif (decide (v2 ≥ (128 : Int))) then
       f118_l5 t0 t1 k (orV .u64 t7 v4) (IntKind.wrap .i64 (t19 + (1 : Int)))
      else
       let v5 : Int := (IntKind.wrap .i64 (shrV .u64 (orV .u64 t7 v4) (1 : Int)))
       let v6 : Int := (IntKind.wrap .i64 (andV .u64 (orV .u64 t7 v4) (1 : Int)))
       let v7 : Int := (xorV .i64 v5 (IntKind.wrap .i64 (0 - v6)))
       bif (decide (v2 = (0 : Int))) then
        bif (decide (t19 > (0 : Int))) then
         some (.inl ((), (), ()))
        else
         let v8 : Bool := (decide (v7 < (-4611686018427387903 : Int)))
         bif v8 then
          some (.inl ((), (), ()))
         else
          let v9 : Int := (IntKind.wrap .i64 ((IntKind.wrap .i64 (t1 + t19)) + (1 : Int)))
          some (.inr ((v7, v9, (0 : Int), ()), (), ()))
       else
        let v10 : Bool := (decide (v7 < (-4611686018427387903 : Int)))
        bif v10 then
         some (.inl ((), (), ()))
        else
         let v11 : Int := (IntKind.wrap .i64 ((IntKind.wrap .i64 (t1 + t19)) + (1 : Int)))
         some (.inr ((v7, v11, (0 : Int), ()), (), ()))
     else none
    else none
  else
   some (.inl ((), (), ()))
def f118_l5_n (n : Nat) (x : f118_l5_head.den) := f118_l5 x.1.1 x.1.2.1 n x.1.2.2.1 x.1.2.2.2.1
def f118_l5_spec : LSpec := { thaws := [], head := f118_l5_head, outs := f118_l5_outs, fn := fun x => f118_l5_n (((9 : Int) - x.1.2.2.2.1).toNat + 1) x }
def f118 (a0 : ByteArray) (a1 : Int) : Option (Int × Int × Int × Unit) :=
 bif (decide (a1 < (0 : Int))) then
  some ((0 : Int), (0 : Int), (2 : Int), ())
 else
  bif (decide (a1 > (a0.size : Int))) then
   some ((0 : Int), (0 : Int), (2 : Int), ())
  else
   (f118_l5 a0 a1 (((9 : Int) - (0 : Int)).toNat + 1) (0 : Int) (0 : Int)).bind fun o12 =>
   Sum.elim (fun o13 =>
    some ((0 : Int), (0 : Int), (10 : Int), ())) (fun o14 =>
    let u15 : Int := o14.1.1
    let u16 : Int := o14.1.2.1
    let u17 : Int := o14.1.2.2.1
    some (u15, u16, u17, ())) o12
def f118_spec : PSpec := { args := [.str, tI], res := [tI, tI, tI], fn := fun x => f118 x.1 x.2.1 }
noncomputable def f118_code : Code := Go.Proofs.Tryz.f118.body.getD .skip
noncomputable def f118_env : Env0 := { C := cfg, P := [], L := [(⟨12, 0, 118, 5⟩, f118_l5_spec)], F := [(118, Go.Proofs.Tryz.f118)], S := [], R := [], I := [], tot := [] }
theorem f118_l5_ok : LoopOK f118_env 12 118 0 (loopAt f118_code 5) f118_l5_spec :=
 loopOK_of (by kernel_rfl) f118_l5_n (fun x o h => ⟨_, h⟩) (fun x => by kernel_rfl) (fun n x => by kernel_rfl)
theorem f118_run (x : tysDen (f118_spec).args) : runF f118_env 118 Go.Proofs.Tryz.f118 f118_code (f118_spec).args (f118_spec).res x = f118_spec.fn x := by kernel_rfl
theorem f118_enter : Enterable Go.Proofs.Tryz.prog 118 := enter_fun Go.Proofs.Tryz.func118 (by kernel_rfl)
theorem f118_envOK : EnvOK Go.Proofs.Tryz.prog f118_env := envOK_of cds (by kernel_rfl) cfg_ok trivial trivial ⟨⟨Go.Proofs.Tryz.func118, by kernel_rfl⟩, trivial⟩ ⟨⟨Go.Proofs.Tryz.f118, f118_code, rfl, rfl, f118_l5_ok⟩, trivial⟩ trivial trivial
theorem f118_pure : PureOK Go.Proofs.Tryz.prog cfg 118 f118_spec := pure_of_run f118_envOK (fn := Go.Proofs.Tryz.f118) (c := f118_code) rfl rfl f118_spec (fun x _ h => (f118_run x).trans h)
def f64 (a0 : Ed) (a1 : Int) : Option (Int × Unit) :=
 bif (decide (a1 = a0.2.1)) then
  some (a0.2.2.1, ())
 else
  bif (decide (a1 = a0.2.2.1)) then
   some (a0.2.1, ())
  else
   some ((-1 : Int), ())
def f64_spec : PSpec := { args := [tE, tI], res := [tI], fn := fun x => f64 x.1 x.2.1 }
noncomputable def f64_code : Code := Go.Proofs.Tryz.f64.body.getD .skip
noncomputable def f64_env : Env0 := { C := cfg, P := [], L := [], F := [(64, Go.Proofs.Tryz.f64)], S := [], R := [], I := [], tot := [] }
theorem f64_run (x : tysDen (f64_spec).args) : runF f64_env 64 Go.Proofs.Tryz.f64 f64_code (f64_spec).args (f64_spec).res x = f64_spec.fn x := by kernel_rfl
theorem f64_enter : Enterable Go.Proofs.Tryz.prog 64 := enter_fun Go.Proofs.Tryz.func64 (by kernel_rfl)
theorem f64_envOK : EnvOK Go.Proofs.Tryz.prog f64_env := envOK_of cds (by kernel_rfl) cfg_ok trivial trivial ⟨⟨Go.Proofs.Tryz.func64, by kernel_rfl⟩, trivial⟩ trivial trivial trivial
theorem f64_pure : PureOK Go.Proofs.Tryz.prog cfg 64 f64_spec := pure_of_run f64_envOK (fn := Go.Proofs.Tryz.f64) (c := f64_code) rfl rfl f64_spec (fun x _ h => (f64_run x).trans h)
def f65 (a0 : Ed) : Option (Bool × Unit) :=
 let v1 : Int := (if a0.2.2.1 < a0.2.1 then a0.2.2.1 else a0.2.1)
 some ((decide (v1 < (0 : Int))), ())
def f65_spec : PSpec := { args := [tE], res := [.bool], fn := fun x => f65 x.1 }
noncomputable def f65_code : Code := Go.Proofs.Tryz.f65.body.getD .skip
noncomputable def f65_env : Env0 := { C := cfg, P := [], L := [], F := [(65, Go.Proofs.Tryz.f65)], S := [], R := [], I := [], tot := [] }
theorem f65_run (x : tysDen (f65_spec).args) : runF f65_env 65 Go.Proofs.Tryz.f65 f65_code (f65_spec).args (f65_spec).res x = f65_spec.fn x := by kernel_rfl
theorem f65_enter : Enterable Go.Proofs.Tryz.prog 65 := enter_fun Go.Proofs.Tryz.func65 (by kernel_rfl)
theorem f65_envOK : EnvOK Go.Proofs.Tryz.prog f65_env := envOK_of cds (by kernel_rfl) cfg_ok trivial trivial ⟨⟨Go.Proofs.Tryz.func65, by kernel_rfl⟩, trivial⟩ trivial trivial trivial
theorem f65_pure : PureOK Go.Proofs.Tryz.prog cfg 65 f65_spec := pure_of_run f65_envOK (fn := Go.Proofs.Tryz.f65) (c := f65_code) rfl rfl f65_spec (fun x _ h => (f65_run x).trans h)
end Go.V.G
namespace Go.V.G
def f31_l2_head : Ann := { env := [(2, cP 2), (4, .cst (.row 28 .whole)), (7, .ty (.sl tE)), (8, TI), (9, TI)], stk := [], bxs := [(2, .var [TI]), (28, .row tI false)] }
def f31_l2_outs : List (Ex × Ann) := [((.exit 0), { env := [(2, cP 2), (4, .cst (.row 28 .whole))], stk := [], bxs := [(2, .var [TI]), (28, .row tI false)] })]
def f31_l2 (t7 : (List Ed)) (t8 : Int) (b2g0 : Int) : Nat → Int → (List Int) → Option (outDen f31_l2_outs)
 | 0, _, _ => none
 | k + 1, t9, r28 =>
  bif (decide (t9 < t8)) then
   bif (inR t9 t7.length) then
    let v1 : Int := (at_ tE t7 t9).2.1
    bif (decide (v1 = b2g0)) then
     (f64 (at_ tE t7 t9) b2g0).bind fun y2 =>
     bif (decide (r28.length + ([y2.1] : List Int).length ≤ appLim)) then f31_l2 t7 t8 b2g0 k (IntKind.wrap .i64 (t9 + (1 : Int))) (r28 ++ ([y2.1] : List Int)) else none
    else
     let v3 : Int := (at_ tE t7 t9).2.2.1
     bif (decide (v3 = b2g0)) then
      (f64 (at_ tE t7 t9) b2g0).bind fun y4 =>
      bif (decide (r28.length + ([y4.1] : List Int).length ≤ appLim)) then f31_l2 t7 t8 b2g0 k (IntKind.wrap .i64 (t9 + (1 : Int))) (r28 ++ ([y4.1] : List Int)) else none
     else
      f31_l2 t7 t8 b2g0 k (IntKind.wrap .i64 (t9 + (1 : Int))) r28
   else none
  else
   some ((), (), ((b2g0, ()), r28, ()))
def f31_l2_n (n : Nat) (x : f31_l2_head.den) := f31_l2 x.1.1 x.1.2.1 x.2.2.1.1 n x.1.2.2.1 x.2.2.2.1
def f31_l2_spec : LSpec := { thaws := [.slot 4 28 tI], head := f31_l2_head, outs := f31_l2_outs, fn := fun x => f31_l2_n ((x.1.2.1 - x.1.2.2.1).toNat + 1) x }
def f125_l2_b35010000_head : Ann := { env := [(0, .dyn (.win 28)), (1, .cst (.fn 74 [(.ptr 2 0 [])])), (7, TI), (8, TI)], stk := [[(0, .dyn (.win 28)), (1, .cst (.fn 74 [(.ptr 2 0 [])])), (4, .cst .nils)], [(4, .dyn (.win 28))]], bxs := [(28, .row tI false), (2, .var [TI])] }
def f125_l2_b35010000_outs : List (Ex × Ann) := [((.exit 0), { env := [], stk := [[(0, .dyn (.win 28)), (1, .cst (.fn 74 [(.ptr 2 0 [])])), (4, .cst .nils)], [(4, .dyn (.win 28))]], bxs := [(28, .row tI false), (2, .var [TI])] }), (.ret, { env := [(4, TI)], stk := [[(0, .dyn (.win 28)), (1, .cst (.fn 74 [(.ptr 2 0 [])])), (4, .cst .nils)], [(4, .dyn (.win 28))]], bxs := [(28, .row tI false), (2, .var [TI])] })]
def f125_l2_b35010000 (t0 : Nat) (t7 : Int) (k0t0 : Nat) (k1t4 : Nat) (r28 : (List Int)) (b2g0 : Int) : Nat → Int → Option (outDen f125_l2_b35010000_outs)
 | 0, _ => none
 | k + 1, t8 =>
  bif (decide (t8 < t7)) then
   bif (inR t8 t0) then
    let v9 : Bool := (decide ((at_ tI r28 (0 + t8)) = b2g0))
    bif v9 then
     some (.inr ((t8, ()), ((k0t0, ()), (k1t4, ()), ()), (r28, (b2g0, ()), ())))
    else
     f125_l2_b35010000 t0 t7 k0t0 k1t4 r28 b2g0 k (IntKind.wrap .i64 (t8 + (1 : Int)))
   else none
  else
   some (.inl ((), ((k0t0, ()), (k1t4, ()), ()), (r28, (b2g0, ()), ())))
def f125_l2_b35010000_n (n : Nat) (x : f125_l2_b35010000_head.den) := f125_l2_b35010000 x.1.1 x.1.2.1 x.2.1.1.1 x.2.1.2.1.1 x.2.2.1 x.2.2.2.1.1 n x.1.2.2.1
def f125_l2_b35010000_spec : LSpec := { thaws := [], head := f125_l2_b35010000_head, outs := f125_l2_b35010000_outs, fn := fun x => f125_l2_b35010000_n ((x.1.2.1 - x.1.2.2.1).toNat + 1) x }
def f72_l5_b35000_head : Ann := { env := [(0, .dyn (.win 28)), (1, .cst (.fn 74 [(.ptr 2 0 [])])), (5, TI), (6, TI)], stk := [[(4, .dyn (.win 28))]], bxs := [(28, .row tI false), (2, .var [TI])] }
def f72_l5_b35000_outs : List (Ex × Ann) := [((.exit 0), { env := [(0, .dyn (.win 28)), (5, TI)], stk := [[(4, .dyn (.win 28))]], bxs := [(28, .row tI false)] })]
def f72_l5_b35000 (t0 : Nat) (k0t4 : Nat) (b2g0 : Int) : Nat → Int → Int → (List Int) → Option (outDen f72_l5_b35000_outs)
 | 0, _, _, _ => none
 | k + 1, t5, t6, r28 =>
  let v22 : Bool := (decide (t6 < (((r28.drop 0).take t0).length : Int)))
  bif v22 then
   bif (inR t6 t0) then
    let v23 : Bool := (decide ((at_ tI r28 (0 + t6)) = b2g0))
    bif (!v23) then
     bif (inR t5 t0) then f72_l5_b35000 t0 k0t4 b2g0 k (IntKind.wrap .i64 (t5 + (1 : Int))) (IntKind.wrap .i64 (t6 + (1 : Int))) (r28.set (Int.toNat (0 + t5)) (at_ tI r28 (0 + t6))) else none
    else
     f72_l5_b35000 t0 k0t4 b2g0 k t5 (IntKind.wrap .i64 (t6 + (1 : Int))) r28
   else none
  else
   some ((t0, t5, ()), ((k0t4, ()), ()), (r28, ()))
def f72_l5_b35000_n (n : Nat) (x : f72_l5_b35000_head.den) := f72_l5_b35000 x.1.1 x.2.1.1.1 x.2.2.2.1.1 n x.1.2.1 x.1.2.2.1 x.2.2.1
def f72_l5_b35000_spec : LSpec := { thaws := [], head := f72_l5_b35000_head, outs := f72_l5_b35000_outs, fn := fun x => f72_l5_b35000_n (((((x.2.2.1.drop 0).take x.1.1).length : Int) - x.1.2.2.1).toNat + 1) x }
def f73_l9_b33000_head : Ann := { env := [(0, .cst (.row 28 .whole)), (3, TI), (4, .dyn (.wino 28)), (5, TI)], stk := [[(2, cP 2), (4, .cst (.row 28 .whole))]], bxs := [(28, .row tI false), (2, .var [TI])] }
def f73_l9_b33000_outs : List (Ex × Ann) := [((.exit 2), { env := [(0, .cst (.row 28 .whole)), (3, TI)], stk := [[(2, cP 2), (4, .cst (.row 28 .whole))]], bxs := [(28, .row tI false), (2, .var [TI])] })]
def f73_l9_b33000 (t4 : (Nat × Nat)) (b2g0 : Int) : Nat → Int → Int → (List Int) → Option (outDen f73_l9_b33000_outs)
 | 0, _, _, _ => none
 | k + 1, t3, t5, r28 =>
  let v31 : Int := (((r28.drop t4.1).take t4.2).length : Int)
  bif (decide (t5 < v31)) then
   bif (inR t5 t4.2) then
    bif (inR (IntKind.wrap .i64 (t5 - (1 : Int))) t4.2) then
     let v32 : Int := (at_ tI r28 (t4.1 + (IntKind.wrap .i64 (t5 - (1 : Int)))))
     let v33 : Bool := (decide ((at_ tI r28 (t4.1 + t5)) ≠ v32))
     bif v33 then
      bif (inR t5 t4.2) then bif (inR t3 r28.length) then f73_l9_b33000 t4 b2g0 k (IntKind.wrap .i64 (t3 + (1 : Int))) (IntKind.wrap .i64 (t5 + (1 : Int))) (r28.set (Int.toNat t3) (at_ tI r28 (t4.1 + t5))) else none else none
     else
      f73_l9_b33000 t4 b2g0 k t3 (IntKind.wrap .i64 (t5 + (1 : Int))) r28
    else none
   else none
  else
   some ((t3, ()), ((), ()), (r28, (b2g0, ()), ()))
def f73_l9_b33000_n (n : Nat) (x : f73_l9_b33000_head.den) := f73_l9_b33000 x.1.2.1 x.2.2.2.1.1 n x.1.1 x.1.2.2.1 x.2.2.1
def f73_l9_b33000_spec : LSpec := { thaws := [], head := f73_l9_b33000_head, outs := f73_l9_b33000_outs, fn := fun x => f73_l9_b33000_n (x.1.2.1.2 + 1) x }
def f73_l4_b33000_head : Ann := { env := [(0, .cst (.row 28 .whole)), (3, TI)], stk := [[(2, cP 2), (4, .cst (.row 28 .whole))]], bxs := [(28, .row tI false), (2, .var [TI])] }
def f73_l4_b33000_outs : List (Ex × Ann) := [((.exit 0), { env := [(0, .cst (.row 28 .whole))], stk := [[(2, cP 2), (4, .cst (.row 28 .whole))]], bxs := [(28, .row tI false), (2, .var [TI])] }), (.ret, { env := [(2, .dyn (.win 28))], stk := [[(2, cP 2), (4, .cst (.row 28 .whole))]], bxs := [(28, .row tI false), (2, .var [TI])] })]
def f73_l4_b33000 (r28 : (List Int)) (b2g0 : Int) : Nat → Int → Option (outDen f73_l4_b33000_outs)
 | 0, _ => none
 | k + 1, t3 =>
  bif (decide (t3 < (r28.length : Int))) then
   bif (inR t3 r28.length) then
    bif (inR (IntKind.wrap .i64 (t3 - (1 : Int))) r28.length) then
     let v29 : Int := (at_ tI r28 (IntKind.wrap .i64 (t3 - (1 : Int))))
     let v30 : Bool := (decide ((at_ tI r28 t3) = v29))
     bif v30 then
      bif (cutOk r28.length (some t3) none) then
       (f73_l9_b33000 ((Int.toNat t3), (cutLen r28.length (some t3) none)) b2g0 (((Int.toNat t3), (cutLen r28.length (some t3) none)).2 + 1) t3 (1 : Int) r28).bind fun o34 =>
       let u35 : Int := o34.1.1
       let u36 : (List Int) := o34.2.2.1
       let u37 : Int := o34.2.2.2.1.1
       bif (cutOk u36.length (some u35) none) then bif (cutOk (setRange u36 (Int.toNat u35) (List.replicate (cutLen u36.length (some u35) none) (0 : Int))).length none (some u35)) then some (.inr (((cutLen (setRange u36 (Int.toNat u35) (List.replicate (cutLen u36.length (some u35) none) (0 : Int))).length none (some u35)), ()), ((), ()), ((setRange u36 (Int.toNat u35) (List.replicate (cutLen u36.length (some u35) none) (0 : Int))), (u37, ()), ()))) else none else none
      else none
     else
      f73_l4_b33000 r28 b2g0 k (IntKind.wrap .i64 (t3 + (1 : Int)))
    else none
   else none
  else
   some (.inl ((), ((), ()), (r28, (b2g0, ()), ())))
def f73_l4_b33000_n (n : Nat) (x : f73_l4_b33000_head.den) := f73_l4_b33000 x.2.2.1 x.2.2.2.1.1 n x.1.1
def f73_l4_b33000_spec : LSpec := { thaws := [], head := f73_l4_b33000_head, outs := f73_l4_b33000_outs, fn := fun x => f73_l4_b33000_n (((x.2.2.1.length : Int) - x.1.1).toNat + 1) x }
def f31 (a0 : Int) (a1 : (List Ed)) : Option (List Int) :=
 (f31_l2 a1 (a1.length : Int) a0 (((a1.length : Int) - (0 : Int)).toNat + 1) (0 : Int) []).bind fun o5 =>
 let u6 : Int := o5.2.2.1.1
 let u7 : (List Int) := o5.2.2.2.1
 (sortInts u7).bind fun y8 =>
 bif (decide ((y8.length : Int) < (2 : Int))) then
  (f125_l2_b35010000 y8.length (y8.length : Int) y8.length y8.length y8 u6 (((y8.length : Int) - (0 : Int)).toNat + 1) (0 : Int)).bind fun o10 =>
  Sum.elim (fun o11 =>
   let u13 : Nat := o11.2.1.1.1
   let u15 : (List Int) := o11.2.2.1
   some ((u15.drop 0).take u13)) (fun o12 =>
   let u17 : Int := o12.1.1
   let u18 : Nat := o12.2.1.1.1
   let u19 : Nat := o12.2.1.2.1.1
   let u20 : (List Int) := o12.2.2.1
   let u21 : Int := o12.2.2.2.1.1
   bif (decide (u17 = (-1 : Int))) then
    some ((u20.drop 0).take u18)
   else
    (f72_l5_b35000 u18 u19 u21 (((((u20.drop 0).take u18).length : Int) - (IntKind.wrap .i64 (u17 + (1 : Int)))).toNat + 1) u17 (IntKind.wrap .i64 (u17 + (1 : Int))) u20).bind fun o24 =>
    let u25 : Nat := o24.1.1
    let u26 : Int := o24.1.2.1
    let u28 : (List Int) := o24.2.2.1
    bif (cutOk u25 (some u26) none) then bif (cutOk u25 none (some u26)) then some (((setRange u28 (0 + (Int.toNat u26)) (List.replicate (cutLen u25 (some u26) none) (0 : Int))).drop 0).take (cutLen u25 none (some u26))) else none else none) o10
 else
  (f73_l4_b33000 y8 u6 (((y8.length : Int) - (1 : Int)).toNat + 1) (1 : Int)).bind fun o38 =>
  Sum.elim (fun o39 =>
   let u41 : (List Int) := o39.2.2.1
   let u42 : Int := o39.2.2.2.1.1
   (f125_l2_b35010000 u41.length (u41.length : Int) u41.length u41.length u41 u42 (((u41.length : Int) - (0 : Int)).toNat + 1) (0 : Int)).bind fun o44 =>
   Sum.elim (fun o45 =>
    let u47 : Nat := o45.2.1.1.1
    let u49 : (List Int) := o45.2.2.1
    some ((u49.drop 0).take u47)) (fun o46 =>
    let u51 : Int := o46.1.1
    let u52 : Nat := o46.2.1.1.1
    let u53 : Nat := o46.2.1.2.1.1
    let u54 : (List Int) := o46.2.2.1
    let u55 : Int := o46.2.2.2.1.1
    bif (decide (u51 = (-1 : Int))) then
     some ((u54.drop 0).take u52)
    else
     (f72_l5_b35000 u52 u53 u55 (((((u54.drop 0).take u52).length : Int) - (IntKind.wrap .i64 (u51 + (1 : Int)))).toNat + 1) u51 (IntKind.wrap .i64 (u51 + (1 : Int))) u54).bind fun o58 =>
     let u59 : Nat := o58.1.1
     let u60 : Int := o58.1.2.1
     let u62 : (List Int) := o58.2.2.1
     bif (cutOk u59 (some u60) none) then bif (cutOk u59 none (some u60)) then some (((setRange u62 (0 + (Int.toNat u60)) (List.replicate (cutLen u59 (some u60) none) (0 : Int))).drop 0).take (cutLen u59 none (some u60))) else none else none) o44) (fun o40 =>
   let u63 : Nat := o40.1.1
   let u64 : (List Int) := o40.2.2.1
   let u65 : Int := o40.2.2.2.1.1
   (f125_l2_b35010000 u63 (((u64.drop 0).take u63).length : Int) u63 u64.length u64 u65 (((((u64.drop 0).take u63).length : Int) - (0 : Int)).toNat + 1) (0 : Int)).bind fun o67 =>
   Sum.elim (fun o68 =>
    let u70 : Nat := o68.2.1.1.1
    let u72 : (List Int) := o68.2.2.1
    some ((u72.drop 0).take u70)) (fun o69 =>
    let u74 : Int := o69.1.1
    let u75 : Nat := o69.2.1.1.1
    let u76 : Nat := o69.2.1.2.1.1
    let u77 : (List Int) := o69.2.2.1
    let u78 : Int := o69.2.2.2.1.1
    bif (decide (u74 = (-1 : Int))) then
     some ((u77.drop 0).take u75)
    else
     (f72_l5_b35000 u75 u76 u78 (((((u77.drop 0).take u75).length : Int) - (IntKind.wrap .i64 (u74 + (1 : Int)))).toNat + 1) u74 (IntKind.wrap .i64 (u74 + (1 : Int))) u77).bind fun o81 =>
     let u82 : Nat := o81.1.1
     let u83 : Int := o81.1.2.1
     let u85 : (List Int) := o81.2.2.1
     bif (cutOk u82 (some u83) none) then bif (cutOk u82 none (some u83)) then some (((setRange u85 (0 + (Int.toNat u83)) (List.replicate (cutLen u82 (some u83) none) (0 : Int))).drop 0).take (cutLen u82 none (some u83))) else none else none) o67) o38
def f31_spec : RSpec := { args := [tI, (.sl tE)], T := tI, fz := false, fn := fun x => f31 x.1 x.2.1 }
noncomputable def f31_code : Code := Go.Proofs.Tryz.f31.body.getD .skip
noncomputable def f31_code_72 : Code := Go.Proofs.Tryz.f72.body.getD .skip
noncomputable def f31_code_73 : Code := Go.Proofs.Tryz.f73.body.getD .skip
noncomputable def f31_code_125 : Code := Go.Proofs.Tryz.f125.body.getD .skip
noncomputable def f31_env : Env0 := { C := cfg, P := [(64, f64_spec)], L := [(⟨12, 0, 31, 2⟩, f31_l2_spec), (⟨10, 35010000, 125, 2⟩, f125_l2_b35010000_spec), (⟨11, 35000, 72, 5⟩, f72_l5_b35000_spec), (⟨11, 33000, 73, 9⟩, f73_l9_b33000_spec), (⟨11, 33000, 73, 4⟩, f73_l4_b33000_spec)], F := [(31, Go.Proofs.Tryz.f31), (72, Go.Proofs.Tryz.f72), (73, Go.Proofs.Tryz.f73), (74, Go.Proofs.Tryz.f74), (125, Go.Proofs.Tryz.f125)], S := [], R := [], I := [(71, sortInts_spec)], tot := [] }
theorem f31_l2_ok : LoopOK f31_env 12 31 0 (loopAt f31_code 2) f31_l2_spec :=
 loopOK_of (by kernel_rfl) f31_l2_n (fun x o h => ⟨_, h⟩) (fun x => by kernel_rfl) (fun n x => by kernel_rfl)
theorem f125_l2_b35010000_ok : LoopOK f31_env 10 125 35010000 (loopAt f31_code_125 2) f125_l2_b35010000_spec :=
 loopOK_of (by kernel_rfl) f125_l2_b35010000_n (fun x o h => ⟨_, h⟩) (fun x => by kernel_rfl) (fun n x => by kernel_rfl)
theorem f72_l5_b35000_ok : LoopOK f31_env 11 72 35000 (loopAt f31_code_72 5) f72_l5_b35000_spec :=
 loopOK_of (by kernel_rfl) f72_l5_b35000_n (fun x o h => ⟨_, h⟩) (fun x => by kernel_rfl) (fun n x => by kernel_rfl)
theorem f73_l9_b33000_ok : LoopOK f31_env 11 73 33000 (loopAt f31_code_73 9) f73_l9_b33000_spec :=
 loopOK_of (by kernel_rfl) f73_l9_b33000_n (fun x o h => ⟨_, h⟩) (fun x => by kernel_rfl) (fun n x => by kernel_rfl)
theorem f73_l4_b33000_ok : LoopOK f31_env 11 73 33000 (loopAt f31_code_73 4) f73_l4_b33000_spec :=
 loopOK_of (by kernel_rfl) f73_l4_b33000_n (fun x o h => ⟨_, h⟩) (fun x => by kernel_rfl) (fun n x => by kernel_rfl)
theorem f31_run (x : tysDen (f31_spec).args) : runR f31_env 31 Go.Proofs.Tryz.f31 f31_code (tysAV (f31_spec).args x) (f31_spec).T (f31_spec).fz = f31_spec.fn x := by kernel_rfl
theorem f31_enter : Enterable Go.Proofs.Tryz.prog 31 := enter_fun Go.Proofs.Tryz.func31 (by kernel_rfl)
theorem f31_envOK : EnvOK Go.Proofs.Tryz.prog f31_env := envOK_of cds (by kernel_rfl) cfg_ok ⟨⟨f64_pure, f64_enter⟩, trivial⟩ trivial ⟨⟨Go.Proofs.Tryz.func31, by kernel_rfl⟩, ⟨Go.Proofs.Tryz.func72, by kernel_rfl⟩, ⟨Go.Proofs.Tryz.func73, by kernel_rfl⟩, ⟨Go.Proofs.Tryz.func74, by kernel_rfl⟩, ⟨Go.Proofs.Tryz.func125, by kernel_rfl⟩, trivial⟩ ⟨⟨Go.Proofs.Tryz.f31, f31_code, rfl, rfl, f31_l2_ok⟩, ⟨Go.Proofs.Tryz.f125, f31_code_125, rfl, rfl, f125_l2_b35010000_ok⟩, ⟨Go.Proofs.Tryz.f72, f31_code_72, rfl, rfl, f72_l5_b35000_ok⟩, ⟨Go.Proofs.Tryz.f73, f31_code_73, rfl, rfl, f73_l9_b33000_ok⟩, ⟨Go.Proofs.Tryz.f73, f31_code_73, rfl, rfl, f73_l4_b33000_ok⟩, trivial⟩ trivial ⟨⟨sortInts_inpl, sortInts_enter⟩, trivial⟩
theorem f31_fresh : FreshOK Go.Proofs.Tryz.prog cfg 31 f31_spec := fresh_of_run f31_envOK (fn := Go.Proofs.Tryz.f31) (c := f31_code) rfl rfl f31_spec (fun x _ h => (f31_run x).trans h)
def pf31_l2_head : Ann := { env := [(2, cP 2), (4, .cst (.row 28 .whole)), (7, .ty (.sl tE)), (8, TI), (9, TI)], stk := [], bxs := [(2, .var [TI]), (28, .row tI false)] }
def pf31_l2_outs : List (Ex × Ann) := [((.exit 0), { env := [(2, cP 2), (4, .cst (.row 28 .whole))], stk := [], bxs := [(2, .var [TI]), (28, .row tI false)] })]
def pf31_l2 (t7 : (List Ed)) (t8 : Int) (b2g0 : Int) : Nat → Int → (List Int) → Option (outDen pf31_l2_outs)
 | 0, _, _ => none
 | k + 1, t9, r28 =>
  bif (decide (t9 < t8)) then
   bif (inR t9 t7.length) then
    let v1 : Int := (at_ tE t7 t9).2.1
    bif (decide (v1 = b2g0)) then
     (f64 (at_ tE t7 t9) b2g0).bind fun y2 =>
     bif (decide (r28.length + ([y2.1] : List Int).length ≤ appLim)) then pf31_l2 t7 t8 b2g0 k (IntKind.wrap .i64 (t9 + (1 : Int))) (r28 ++ ([y2.1] : List Int)) else none
    else
     let v3 : Int := (at_ tE t7 t9).2.2.1
     bif (decide (v3 = b2g0)) then
      (f64 (at_ tE t7 t9) b2g0).bind fun y4 =>
      bif (decide (r28.length + ([y4.1] : List Int).length ≤ appLim)) then pf31_l2 t7 t8 b2g0 k (IntKind.wrap .i64 (t9 + (1 : Int))) (r28 ++ ([y4.1] : List Int)) else none
     else
      pf31_l2 t7 t8 b2g0 k (IntKind.wrap .i64 (t9 + (1 : Int))) r28
   else none
  else
   some ((), (), ((b2g0, ()), r28, ()))
def pf31_l2_n (n : Nat) (x : pf31_l2_head.den) := pf31_l2 x.1.1 x.1.2.1 x.2.2.1.1 n x.1.2.2.1 x.2.2.2.1
def pf31_l2_spec : LSpec := { thaws := [.slot 4 28 tI], head := pf31_l2_head, outs := pf31_l2_outs, fn := fun x => pf31_l2_n ((x.1.2.1 - x.1.2.2.1).toNat + 1) x }
def pf125_l2_b35010000_head : Ann := { env := [(0, .dyn (.win 28)), (1, .cst (.fn 74 [(.ptr 2 0 [])])), (7, TI), (8, TI)], stk := [[(0, .dyn (.win 28)), (1, .cst (.fn 74 [(.ptr 2 0 [])])), (4, .cst .nils)], [(4, .dyn (.win 28))]], bxs := [(28, .row tI false), (2, .var [TI])] }
def pf125_l2_b35010000_outs : List (Ex × Ann) := [((.exit 0), { env := [], stk := [[(0, .dyn (.win 28)), (1, .cst (.fn 74 [(.ptr 2 0 [])])), (4, .cst .nils)], [(4, .dyn (.win 28))]], bxs := [(28, .row tI false), (2, .var [TI])] }), (.ret, { env := [(4, TI)], stk := [[(0, .dyn (.win 28)), (1, .cst (.fn 74 [(.ptr 2 0 [])])), (4, .cst .nils)], [(4, .dyn (.win 28))]], bxs := [(28, .row tI false), (2, .var [TI])] })]
def pf125_l2_b35010000 (t0 : Nat) (t7 : Int) (k0t0 : Nat) (k1t4 : Nat) (r28 : (List Int)) (b2g0 : Int) : Nat → Int → Option (outDen pf125_l2_b35010000_outs)
 | 0, _ => none
 | k + 1, t8 =>
  bif (decide (t8 < t7)) then
   bif (inR t8 t0) then
    let v9 : Bool := (decide ((at_ tI r28 (0 + t8)) = b2g0))
    bif v9 then
     some (.inr ((t8, ()), ((k0t0, ()), (k1t4, ()), ()), (r28, (b2g0, ()), ())))
    else
     pf125_l2_b35010000 t0 t7 k0t0 k1t4 r28 b2g0 k (IntKind.wrap .i64 (t8 + (1 : Int)))
   else none
  else
   some (.inl ((), ((k0t0, ()), (k1t4, ()), ()), (r28, (b2g0, ()), ())))
def pf125_l2_b35010000_n (n : Nat) (x : pf125_l2_b35010000_head.den) := pf125_l2_b35010000 x.1.1 x.1.2.1 x.2.1.1.1 x.2.1.2.1.1 x.2.2.1 x.2.2.2.1.1 n x.1.2.2.1
def pf125_l2_b35010000_spec : LSpec := { thaws := [], head := pf125_l2_b35010000_head, outs := pf125_l2_b35010000_outs, fn := fun x => pf125_l2_b35010000_n ((x.1.2.1 - x.1.2.2.1).toNat + 1) x }
def pf72_l5_b35000_head : Ann := { env := [(0, .dyn (.win 28)), (1, .cst (.fn 74 [(.ptr 2 0 [])])), (5, TI), (6, TI)], stk := [[(4, .dyn (.win 28))]], bxs := [(28, .row tI false), (2, .var [TI])] }
def pf72_l5_b35000_outs : List (Ex × Ann) := [((.exit 0), { env := [(0, .dyn (.win 28)), (5, TI)], stk := [[(4, .dyn (.win 28))]], bxs := [(28, .row tI false)] })]
def pf72_l5_b35000 (t0 : Nat) (k0t4 : Nat) (b2g0 : Int) : Nat → Int → Int → (List Int) → Option (outDen pf72_l5_b35000_outs)
 | 0, _, _, _ => none
 | k + 1, t5, t6, r28 =>
  let v22 : Bool := (decide (t6 < (((r28.drop 0).take t0).length : Int)))
  bif v22 then
   bif (inR t6 t0) then
    let v23 : Bool := (decide ((at_ tI r28 (0 + t6)) = b2g0))
    bif (!v23) then
     bif (inR t5 t0) then pf72_l5_b35000 t0 k0t4 b2g0 k (IntKind.wrap .i64 (t5 + (1 : Int))) (IntKind.wrap .i64 (t6 + (1 : Int))) (r28.set (Int.toNat (0 + t5)) (at_ tI r28 (0 + t6))) else none
    else
     pf72_l5_b35000 t0 k0t4 b2g0 k t5 (IntKind.wrap .i64 (t6 + (1 : Int))) r28
   else none
  else
   some ((t0, t5, ()), ((k0t4, ()), ()), (r28, ()))
def pf72_l5_b35000_n (n : Nat) (x : pf72_l5_b35000_head.den) := pf72_l5_b35000 x.1.1 x.2.1.1.1 x.2.2.2.1.1 n x.1.2.1 x.1.2.2.1 x.2.2.1
def pf72_l5_b35000_spec : LSpec := { thaws := [], head := pf72_l5_b35000_head, outs := pf72_l5_b35000_outs, fn := fun x => pf72_l5_b35000_n (((((x.2.2.1.drop 0).take x.1.1).length : Int) - x.1.2.2.1).toNat + 1) x }
def pf73_l9_b33000_head : Ann := { env := [(0, .cst (.row 28 .whole)), (3, TI), (4, .dyn (.wino 28)), (5, TI)], stk := [[(2, cP 2), (4, .cst (.row 28 .whole))]], bxs := [(28, .row tI false), (2, .var [TI])] }
def pf73_l9_b33000_outs : List (Ex × Ann) := [((.exit 2), { env := [(0, .cst (.row 28 .whole)), (3, TI)], stk := [[(2, cP 2), (4, .cst (.row 28 .whole))]], bxs := [(28, .row tI false), (2, .var [TI])] })]
def pf73_l9_b33000 (t4 : (Nat × Nat)) (b2g0 : Int) : Nat → Int → Int → (List Int) → Option (outDen pf73_l9_b33000_outs)
 | 0, _, _, _ => none
 | k + 1, t3, t5, r28 =>
  let v31 : Int := (((r28.drop t4.1).take t4.2).length : Int)
  bif (decide (t5 < v31)) then
   bif (inR t5 t4.2) then
    bif (inR (IntKind.wrap .i64 (t5 - (1 : Int))) t4.2) then
     let v32 : Int := (at_ tI r28 (t4.1 + (IntKind.wrap .i64 (t5 - (1 : Int)))))
     let v33 : Bool := (decide ((at_ tI r28 (t4.1 + t5)) ≠ v32))
     bif v33 then
      bif (inR t5 t4.2) then bif (inR t3 r28.length) then pf73_l9_b33000 t4 b2g0 k (IntKind.wrap .i64 (t3 + (1 : Int))) (IntKind.wrap .i64 (t5 + (1 : Int))) (r28.set (Int.toNat t3) (at_ tI r28 (t4.1 + t5))) else none else none
     else
      pf73_l9_b33000 t4 b2g0 k t3 (IntKind.wrap .i64 (t5 + (1 : Int))) r28
    else none
   else none
  else
   some ((t3, ()), ((), ()), (r28, (b2g0, ()), ()))
def pf73_l9_b33000_n (n : Nat) (x : pf73_l9_b33000_head.den) := pf73_l9_b33000 x.1.2.1 x.2.2.2.1.1 n x.1.1 x.1.2.2.1 x.2.2.1
def pf73_l9_b33000_spec : LSpec := { thaws := [], head := pf73_l9_b33000_head, outs := pf73_l9_b33000_outs, fn := fun x => pf73_l9_b33000_n (x.1.2.1.2 + 1) x }
def pf73_l4_b33000_head : Ann := { env := [(0, .cst (.row 28 .whole)), (3, TI)], stk := [[(2, cP 2), (4, .cst (.row 28 .whole))]], bxs := [(28, .row tI false), (2, .var [TI])] }
def pf73_l4_b33000_outs : List (Ex × Ann) := [((.exit 0), { env := [(0, .cst (.row 28 .whole))], stk := [[(2, cP 2), (4, .cst (.row 28 .whole))]], bxs := [(28, .row tI false), (2, .var [TI])] }), (.ret, { env := [(2, .dyn (.win 28))], stk := [[(2, cP 2), (4, .cst (.row 28 .whole))]], bxs := [(28, .row tI false), (2, .var [TI])] })]
def pf73_l4_b33000 (r28 : (List Int)) (b2g0 : Int) : Nat → Int → Option (outDen pf73_l4_b33000_outs)
 | 0, _ => none
 | k + 1, t3 =>
  bif (decide (t3 < (r28.length : Int))) then
   bif (inR t3 r28.length) then
    bif (inR (IntKind.wrap .i64 (t3 - (1 : Int))) r28.length) then
     let v29 : Int := (at_ tI r28 (IntKind.wrap .i64 (t3 - (1 : Int))))
     let v30 : Bool := (decide ((at_ tI r28 t3) = v29))
     bif v30 then
      bif (cutOk r28.length (some t3) none) then
       (pf73_l9_b33000 ((Int.toNat t3), (cutLen r28.length (some t3) none)) b2g0 (((Int.toNat t3), (cutLen r28.length (some t3) none)).2 + 1) t3 (1 : Int) r28).bind fun o34 =>
       let u35 : Int := o34.1.1
       let u36 : (List Int) := o34.2.2.1
       let u37 : Int := o34.2.2.2.1.1
       bif (cutOk u36.length (some u35) none) then bif (cutOk (setRange u36 (Int.toNat u35) (List.replicate (cutLen u36.length (some u35) none) (0 : Int))).length none (some u35)) then some (.inr (((cutLen (setRange u36 (Int.toNat u35) (List.replicate (cutLen u36.length (some u35) none) (0 : Int))).length none (some u35)), ()), ((), ()), ((setRange u36 (Int.toNat u35) (List.replicate (cutLen u36.length (some u35) none) (0 : Int))), (u37, ()), ()))) else none else none
      else none
     else
      pf73_l4_b33000 r28 b2g0 k (IntKind.wrap .i64 (t3 + (1 : Int)))
    else none
   else none
  else
   some (.inl ((), ((), ()), (r28, (b2g0, ()), ())))
def pf73_l4_b33000_n (n : Nat) (x : pf73_l4_b33000_head.den) := pf73_l4_b33000 x.2.2.1 x.2.2.2.1.1 n x.1.1
def pf73_l4_b33000_spec : LSpec := { thaws := [], head := pf73_l4_b33000_head, outs := pf73_l4_b33000_outs, fn := fun x => pf73_l4_b33000_n (((x.2.2.1.length : Int) - x.1.1).toNat + 1) x }
def pf31 (a0 : Int) (a1 : (List Ed)) : Option ((List Int) × Unit) :=
 (pf31_l2 a1 (a1.length : Int) a0 (((a1.length : Int) - (0 : Int)).toNat + 1) (0 : Int) []).bind fun o5 =>
 let u6 : Int := o5.2.2.1.1
 let u7 : (List Int) := o5.2.2.2.1
 (sortInts u7).bind fun y8 =>
 bif (decide ((y8.length : Int) < (2 : Int))) then
  (pf125_l2_b35010000 y8.length (y8.length : Int) y8.length y8.length y8 u6 (((y8.length : Int) - (0 : Int)).toNat + 1) (0 : Int)).bind fun o10 =>
  Sum.elim (fun o11 =>
   let u13 : Nat := o11.2.1.1.1
   let u15 : (List Int) := o11.2.2.1
   some (((u15.drop 0).take u13), ())) (fun o12 =>
   let u17 : Int := o12.1.1
   let u18 : Nat := o12.2.1.1.1
   let u19 : Nat := o12.2.1.2.1.1
   let u20 : (List Int) := o12.2.2.1
   let u21 : Int := o12.2.2.2.1.1
   bif (decide (u17 = (-1 : Int))) then
    some (((u20.drop 0).take u18), ())
   else
    (pf72_l5_b35000 u18 u19 u21 (((((u20.drop 0).take u18).length : Int) - (IntKind.wrap .i64 (u17 + (1 : Int)))).toNat + 1) u17 (IntKind.wrap .i64 (u17 + (1 : Int))) u20).bind fun o24 =>
    let u25 : Nat := o24.1.1
    let u26 : Int := o24.1.2.1
    let u28 : (List Int) := o24.2.2.1
    bif (cutOk u25 (some u26) none) then bif (cutOk u25 none (some u26)) then some ((((setRange u28 (0 + (Int.toNat u26)) (List.replicate (cutLen u25 (some u26) none) (0 : Int))).drop 0).take (cutLen u25 none (some u26))), ()) else none else none) o10
 else
  (pf73_l4_b33000 y8 u6 (((y8.length : Int) - (1 : Int)).toNat + 1) (1 : Int)).bind fun o38 =>
  Sum.elim (fun o39 =>
   let u41 : (List Int) := o39.2.2.1
   let u42 : Int := o39.2.2.2.1.1
   (pf125_l2_b35010000 u41.length (u41.length : Int) u41.length u41.length u41 u42 (((u41.length : Int) - (0 : Int)).toNat + 1) (0 : Int)).bind fun o44 =>
   Sum.elim (fun o45 =>
    let u47 : Nat := o45.2.1.1.1
    let u49 : (List Int) := o45.2.2.1
    some (((u49.drop 0).take u47), ())) (fun o46 =>
    let u51 : Int := o46.1.1
    let u52 : Nat := o46.2.1.1.1
    let u53 : Nat := o46.2.1.2.1.1
    let u54 : (List Int) := o46.2.2.1
    let u55 : Int := o46.2.2.2.1.1
    bif (decide (u51 = (-1 : Int))) then
     some (((u54.drop 0).take u52), ())
    else
     (pf72_l5_b35000 u52 u53 u55 (((((u54.drop 0).take u52).length : Int) - (IntKind.wrap .i64 (u51 + (1 : Int)))).toNat + 1) u51 (IntKind.wrap .i64 (u51 + (1 : Int))) u54).bind fun o58 =>
     let u59 : Nat := o58.1.1
     let u60 : Int := o58.1.2.1
     let u62 : (List Int) := o58.2.2.1
     bif (cutOk u59 (some u60) none) then bif (cutOk u59 none (some u60)) then some ((((setRange u62 (0 + (Int.toNat u60)) (List.replicate (cutLen u59 (some u60) none) (0 : Int))).drop 0).take (cutLen u59 none (some u60))), ()) else none else none) o44) (fun o40 =>
   let u63 : Nat := o40.1.1
   let u64 : (List Int) := o40.2.2.1
   let u65 : Int := o40.2.2.2.1.1
   (pf125_l2_b35010000 u63 (((u64.drop 0).take u63).length : Int) u63 u64.length u64 u65 (((((u64.drop 0).take u63).length : Int) - (0 : Int)).toNat + 1) (0 : Int)).bind fun o67 =>
   Sum.elim (fun o68 =>
    let u70 : Nat := o68.2.1.1.1
    let u72 : (List Int) := o68.2.2.1
    some (((u72.drop 0).take u70), ())) (fun o69 =>
    let u74 : Int := o69.1.1
    let u75 : Nat := o69.2.1.1.1
    let u76 : Nat := o69.2.1.2.1.1
    let u77 : (List Int) := o69.2.2.1
    let u78 : Int := o69.2.2.2.1.1
    bif (decide (u74 = (-1 : Int))) then
     some (((u77.drop 0).take u75), ())
    else
     (pf72_l5_b35000 u75 u76 u78 (((((u77.drop 0).take u75).length : Int) - (IntKind.wrap .i64 (u74 + (1 : Int)))).toNat + 1) u74 (IntKind.wrap .i64 (u74 + (1 : Int))) u77).bind fun o81 =>
     let u82 : Nat := o81.1.1
     let u83 : Int := o81.1.2.1
     let u85 : (List Int) := o81.2.2.1
     bif (cutOk u82 (some u83) none) then bif (cutOk u82 none (some u83)) then some ((((setRange u85 (0 + (Int.toNat u83)) (List.replicate (cutLen u82 (some u83) none) (0 : Int))).drop 0).take (cutLen u82 none (some u83))), ()) else none else none) o67) o38
def pf31_spec : PSpec := { args := [tI, (.sl tE)], res := [(.sl tI)], fn := fun x => pf31 x.1 x.2.1 }
noncomputable def pf31_code : Code := Go.Proofs.Tryz.f31.body.getD .skip
noncomputable def pf31_code_72 : Code := Go.Proofs.Tryz.f72.body.getD .skip
noncomputable def pf31_code_73 : Code := Go.Proofs.Tryz.f73.body.getD .skip
noncomputable def pf31_code_125 : Code := Go.Proofs.Tryz.f125.body.getD .skip
noncomputable def pf31_env : Env0 := { C := cfg, P := [(64, f64_spec)], L := [(⟨12, 0, 31, 2⟩, pf31_l2_spec), (⟨10, 35010000, 125, 2⟩, pf125_l2_b35010000_spec), (⟨11, 35000, 72, 5⟩, pf72_l5_b35000_spec), (⟨11, 33000, 73, 9⟩, pf73_l9_b33000_spec), (⟨11, 33000, 73, 4⟩, pf73_l4_b33000_spec)], F := [(31, Go.Proofs.Tryz.f31), (72, Go.Proofs.Tryz.f72), (73, Go.Proofs.Tryz.f73), (74, Go.Proofs.Tryz.f74), (125, Go.Proofs.Tryz.f125)], S := [], R := [], I := [(71, sortInts_spec)], tot := [] }
theorem pf31_l2_ok : LoopOK pf31_env 12 31 0 (loopAt pf31_code 2) pf31_l2_spec :=
 loopOK_of (by kernel_rfl) pf31_l2_n (fun x o h => ⟨_, h⟩) (fun x => by kernel_rfl) (fun n x => by kernel_rfl)
theorem pf125_l2_b35010000_ok : LoopOK pf31_env 10 125 35010000 (loopAt pf31_code_125 2) pf125_l2_b35010000_spec :=
 loopOK_of (by kernel_rfl) pf125_l2_b35010000_n (fun x o h => ⟨_, h⟩) (fun x => by kernel_rfl) (fun n x => by kernel_rfl)
theorem pf72_l5_b35000_ok : LoopOK pf31_env 11 72 35000 (loopAt pf31_code_72 5) pf72_l5_b35000_spec :=
 loopOK_of (by kernel_rfl) pf72_l5_b35000_n (fun x o h => ⟨_, h⟩) (fun x => by kernel_rfl) (fun n x => by kernel_rfl)
theorem pf73_l9_b33000_ok : LoopOK pf31_env 11 73 33000 (loopAt pf31_code_73 9) pf73_l9_b33000_spec :=
 loopOK_of (by kernel_rfl) pf73_l9_b33000_n (fun x o h => ⟨_, h⟩) (fun x => by kernel_rfl) (fun n x => by kernel_rfl)
theorem pf73_l4_b33000_ok : LoopOK pf31_env 11 73 33000 (loopAt pf31_code_73 4) pf73_l4_b33000_spec :=
 loopOK_of (by kernel_rfl) pf73_l4_b33000_n (fun x o h => ⟨_, h⟩) (fun x => by kernel_rfl) (fun n x => by kernel_rfl)
theorem pf31_run (x : tysDen (pf31_spec).args) : runF pf31_env 31 Go.Proofs.Tryz.f31 pf31_code (pf31_spec).args (pf31_spec).res x = pf31_spec.fn x := by kernel_rfl
theorem pf31_enter : Enterable Go.Proofs.Tryz.prog 31 := enter_fun Go.Proofs.Tryz.func31 (by kernel_rfl)
theorem pf31_envOK : EnvOK Go.Proofs.Tryz.prog pf31_env := envOK_of cds (by kernel_rfl) cfg_ok ⟨⟨f64_pure, f64_enter⟩, trivial⟩ trivial ⟨⟨Go.Proofs.Tryz.func31, by kernel_rfl⟩, ⟨Go.Proofs.Tryz.func72, by kernel_rfl⟩, ⟨Go.Proofs.Tryz.func73, by kernel_rfl⟩, ⟨Go.Proofs.Tryz.func74, by kernel_rfl⟩, ⟨Go.Proofs.Tryz.func125, by kernel_rfl⟩, trivial⟩ ⟨⟨Go.Proofs.Tryz.f31, pf31_code, rfl, rfl, pf31_l2_ok⟩, ⟨Go.Proofs.Tryz.f125, pf31_code_125, rfl, rfl, pf125_l2_b35010000_ok⟩, ⟨Go.Proofs.Tryz.f72, pf31_code_72, rfl, rfl, pf72_l5_b35000_ok⟩, ⟨Go.Proofs.Tryz.f73, pf31_code_73, rfl, rfl, pf73_l9_b33000_ok⟩, ⟨Go.Proofs.Tryz.f73, pf31_code_73, rfl, rfl, pf73_l4_b33000_ok⟩, trivial⟩ trivial ⟨⟨sortInts_inpl, sortInts_enter⟩, trivial⟩
theorem pf31_pure : PureOK Go.Proofs.Tryz.prog cfg 31 pf31_spec := pure_of_run pf31_envOK (fn := Go.Proofs.Tryz.f31) (c := pf31_code) rfl rfl pf31_spec (fun x _ h => (pf31_run x).trans h)
def f67_l3_head : Ann := { env := [(4, cP 4), (5, cP 5), (15, .ty (.sl tI)), (16, TI), (17, TI)], stk := [], bxs := [(4, .var [.cst .nils, .cst .nils, .cst .nils]), (5, .var [.cst (.row 9 .whole), .ty (.sl tE), .cst .nils]), (9, .row tV false)] }
def f67_l3_outs : List (Ex × Ann) := [((.exit 0), { env := [(4, cP 4), (5, cP 5)], stk := [], bxs := [(4, .var [.cst .nils, .cst .nils, .cst .nils]), (5, .var [.cst (.row 9 .whole), .ty (.sl tE), .cst .nils]), (9, .row tV false)] })]
def f67_l3 (t15 : (List Int)) (t16 : Int) (b5g1 : (List Ed)) : Nat → Int → (List Vx) → Option (outDen f67_l3_outs)
 | 0, _, _ => none
 | k + 1, t17, r9 =>
  bif (decide (t17 < t16)) then
   bif (inR t17 t15.length) then bif (decide (r9.length + ([((at_ tI t15 t17), (0, ()))] : List Vx).length ≤ appLim)) then f67_l3 t15 t16 b5g1 k (IntKind.wrap .i64 (t17 + (1 : Int))) (r9 ++ ([((at_ tI t15 t17), (0, ()))] : List Vx)) else none else none
  else
   some ((), (), ((), (b5g1, ()), r9, ()))
def f67_l3_n (n : Nat) (x : f67_l3_head.den) := f67_l3 x.1.1 x.1.2.1 x.2.2.2.1.1 n x.1.2.2.1 x.2.2.2.2.1
def f67_l3_spec : LSpec := { thaws := [], head := f67_l3_head, outs := f67_l3_outs, fn := fun x => f67_l3_n ((x.1.2.1 - x.1.2.2.1).toNat + 1) x }
def f67 (a0 : Vx) (a1 : (List Ed)) : Option (Gr × Unit) :=
 (pf31 a0.1 a1).bind fun y1 =>
 (f67_l3 y1.1 (y1.1.length : Int) a1 (((y1.1.length : Int) - (0 : Int)).toNat + 1) (0 : Int) ([a0] : List Vx)).bind fun o2 =>
 let u3 : (List Ed) := o2.2.2.2.1.1
 let u4 : (List Vx) := o2.2.2.2.2.1
 (sortV u4).bind fun y5 =>
 some ((y5, (u3, ([], ()))), ())
def f67_spec : PSpec := { args := [tV, (.sl tE)], res := [tG], fn := fun x => f67 x.1 x.2.1 }
noncomputable def f67_code : Code := Go.Proofs.Tryz.f67.body.getD .skip
noncomputable def f67_env : Env0 := { C := cfg2, P := [(31, pf31_spec)], L := [(⟨12, 0, 67, 3⟩, f67_l3_spec)], F := [(67, Go.Proofs.Tryz.f67)], S := [], R := [], I := [(120, sortV_spec)], tot := [] }
theorem f67_l3_ok : LoopOK f67_env 12 67 0 (loopAt f67_code 3) f67_l3_spec :=
 loopOK_of (by kernel_rfl) f67_l3_n (fun x o h => ⟨_, h⟩) (fun x => by kernel_rfl) (fun n x => by kernel_rfl)
theorem f67_run (x : tysDen (f67_spec).args) : runF f67_env 67 Go.Proofs.Tryz.f67 f67_code (f67_spec).args (f67_spec).res x = f67_spec.fn x := by kernel_rfl
theorem f67_enter : Enterable Go.Proofs.Tryz.prog 67 := enter_fun Go.Proofs.Tryz.func67 (by kernel_rfl)
theorem f67_envOK : EnvOK Go.Proofs.Tryz.prog f67_env := envOK_of cds (by kernel_rfl) cfg2_ok ⟨⟨pf31_pure, pf31_enter⟩, trivial⟩ trivial ⟨⟨Go.Proofs.Tryz.func67, by kernel_rfl⟩, trivial⟩ ⟨⟨Go.Proofs.Tryz.f67, f67_code, rfl, rfl, f67_l3_ok⟩, trivial⟩ trivial ⟨⟨sortV_inpl, sortV_enter⟩, trivial⟩
theorem f67_pure : PureOK Go.Proofs.Tryz.prog cfg 67 f67_spec := pure_of_run f67_envOK (fn := Go.Proofs.Tryz.f67) (c := f67_code) rfl rfl f67_spec (fun x _ h => (f67_run x).trans h)
def f59_l4_b10013000_head : Ann := { env := [(0, cP 10010), (1, cP 5), (2, cP 6), (28, TI), (29, TI)], stk := [[(0, .ty .str), (4, cP 10004), (5, cP 10010)], [(0, .cst (.tup [(.fn 117 [(.ptr 10004 0 [])])]))], [(2, cP 2), (3, .cst .nils), (4, TI), (5, cP 5), (6, cP 6)]], bxs := [(10010, .var [.ty .str, TI]), (5, .var [TI, TI]), (6, .var [.cst (.row 10013035 .whole)]), (10004, .var [.ty .bool]), (2, .var [TI, TI]), (10013035, .row tE false)] }
def f59_l4_b10013000_outs : List (Ex × Ann) := [((.exit 0), { env := [(1, cP 5), (2, cP 6)], stk := [[(0, .ty .str), (4, cP 10004), (5, cP 10010)], [(0, .cst (.tup [(.fn 117 [(.ptr 10004 0 [])])]))], [(2, cP 2), (3, .cst .nils), (4, TI), (5, cP 5), (6, cP 6)]], bxs := [(5, .var [TI, TI]), (6, .var [.cst (.row 10013035 .whole)]), (10004, .var [.ty .bool]), (10010, .var [.ty .str, TI]), (2, .var [TI, TI]), (10013035, .row tE false)] }), ((.pan ⟨36, .int .i64 (60)⟩), { env := [], stk := [[(0, .ty .str), (4, cP 10004), (5, cP 10010)], [(0, .cst (.tup [(.fn 117 [(.ptr 10004 0 [])])]))], [(2, cP 2), (3, .cst .nils), (4, TI), (5, cP 5), (6, cP 6)]], bxs := [(10004, .var [.ty .bool]), (10010, .var [.ty .str, TI]), (2, .var [TI, TI]), (5, .var [TI, TI]), (6, .var [.cst (.row 10013035 .whole)]), (10013035, .row tE false)] })]
def f59_l4_b10013000 (t28 : Int) (k0t0 : ByteArray) (k2t4 : Int) (b10010g0 : ByteArray) (b5g0 : Int) (b5g1 : Int) (b10004g0 : Bool) (b2g0 : Int) (b2g1 : Int) : Nat → Int → Int → (List Ed) → Option (outDen f59_l4_b10013000_outs)
 | 0, _, _, _ => none
 | k + 1, t29, b10010g1, r10013035 =>
  bif (decide (t29 < t28)) then
   (f118 b10010g0 b10010g1).bind fun y4 =>
   bif (!(decide (y4.2.2.1 = (0 : Int)))) then
    some (.inr ((), ((k0t0, ()), (), (k2t4, ()), ()), ((b10004g0, ()), (b10010g0, b10010g1, ()), (b2g0, b2g1, ()), (b5g0, b5g1, ()), (), r10013035, ())))
   else
    (f118 b10010g0 y4.2.1).bind fun y5 =>
    bif (!(decide (y5.2.2.1 = (0 : Int)))) then
     some (.inr ((), ((k0t0, ()), (), (k2t4, ()), ()), ((b10004g0, ()), (b10010g0, y4.2.1, ()), (b2g0, b2g1, ()), (b5g0, b5g1, ()), (), r10013035, ())))
    else
     (f118 b10010g0 y5.2.1).bind fun y6 =>
     bif (!(decide (y6.2.2.1 = (0 : Int)))) then
      some (.inr ((), ((k0t0, ()), (), (k2t4, ()), ()), ((b10004g0, ()), (b10010g0, y5.2.1, ()), (b2g0, b2g1, ()), (b5g0, b5g1, ()), (), r10013035, ())))
     else
      (f118 b10010g0 y6.2.1).bind fun y7 =>
      bif (!(decide (y7.2.2.1 = (0 : Int)))) then
       some (.inr ((), ((k0t0, ()), (), (k2t4, ()), ()), ((b10004g0, ()), (b10010g0, y6.2.1, ()), (b2g0, b2g1, ()), (b5g0, b5g1, ()), (), r10013035, ())))
      else
       bif (decide (y7.1 = (0 : Int))) then
        (f118 b10010g0 y7.2.1).bind fun y8 =>
        bif (!(decide (y8.2.2.1 = (0 : Int)))) then
         some (.inr ((), ((k0t0, ()), (), (k2t4, ()), ()), ((b10004g0, ()), (b10010g0, y7.2.1, ()), (b2g0, b2g1, ()), (b5g0, b5g1, ()), (), r10013035, ())))
        else
         (f118 b10010g0 y8.2.1).bind fun y9 =>
         bif (!(decide (y9.2.2.1 = (0 : Int)))) then
          some (.inr ((), ((k0t0, ()), (), (k2t4, ()), ()), ((b10004g0, ()), (b10010g0, y8.2.1, ()), (b2g0, b2g1, ()), (b5g0, b5g1, ()), (), r10013035, ())))
         else
          bif (decide (r10013035.length + ([(y4.1, (y5.1, (y6.1, ((decide (y7.1 = (1 : Int))), (y8.1, (y9.1, ()))))))] : List Ed).length ≤ appLim)) then f59_l4_b10013000 t28 k0t0 k2t4 b10010g0 b5g0 b5g1 b10004g0 b2g0 b2g1 k (IntKind.wrap .i64 (t29 + (1 : Int))) y9.2.1 (r10013035 ++ ([(y4.1, (y5.1, (y6.1, ((decide (y7.1 = (1 : Int))), (y8.1, (y9.1, ()))))))] : List Ed)) else none
       else
        bif (!(decide (y7.1 = (1 : Int)))) then
         some (.inr ((), ((k0t0, ()), (), (k2t4, ()), ()), ((b10004g0, ()), (b10010g0, y7.2.1, ()), (b2g0, b2g1, ()), (b5g0, b5g1, ()), (), r10013035, ())))
        else
         (f118 b10010g0 y7.2.1).bind fun y10 =>
         bif (!(decide (y10.2.2.1 = (0 : Int)))) then
          some (.inr ((), ((k0t0, ()), (), (k2t4, ()), ()), ((b10004g0, ()), (b10010g0, y7.2.1, ()), (b2g0, b2g1, ()), (b5g0, b5g1, ()), (), r10013035, ())))
         else
          (f118 b10010g0 y10.2.1).bind fun y11 =>
          bif (!(decide (y11.2.2.1 = (0 : Int)))) then
           some (.inr ((), ((k0t0, ()), (), (k2t4, ()), ()), ((b10004g0, ()), (b10010g0, y10.2.1, ()), (b2g0, b2g1, ()), (b5g0, b5g1, ()), (), r10013035, ())))
          else
           bif (decide (r10013035.length + ([(y4.1, (y5.1, (y6.1, ((decide (y7.1 = (1 : Int))), (y10.1, (y11.1, ()))))))] : List Ed).length ≤ appLim)) then f59_l4_b10013000 t28 k0t0 k2t4 b10010g0 b5g0 b5g1 b10004g0 b2g0 b2g1 k (IntKind.wrap .i64 (t29 + (1 : Int))) y11.2.1 (r10013035 ++ ([(y4.1, (y5.1, (y6.1, ((decide (y7.1 = (1 : Int))), (y10.1, (y11.1, ()))))))] : List Ed)) else none
  else
   some (.inl ((), ((k0t0, ()), (), (k2t4, ()), ()), ((b5g0, b5g1, ()), (), (b10004g0, ()), (b10010g0, b10010g1, ()), (b2g0, b2g1, ()), r10013035, ())))
def f59_l4_b10013000_n (n : Nat) (x : f59_l4_b10013000_head.den) := f59_l4_b10013000 x.1.1 x.2.1.1.1 x.2.1.2.2.1.1 x.2.2.1.1 x.2.2.2.1.1 x.2.2.2.1.2.1 x.2.2.2.2.2.1.1 x.2.2.2.2.2.2.1.1 x.2.2.2.2.2.2.1.2.1 n x.1.2.1 x.2.2.1.2.1 x.2.2.2.2.2.2.2.1
def f59_l4_b10013000_spec : LSpec := { thaws := [.cell 6 0 10013035 tE], head := f59_l4_b10013000_head, outs := f59_l4_b10013000_outs, fn := fun x => f59_l4_b10013000_n ((x.1.1 - x.1.2.1).toNat + 1) x }
def f119_l2_b10013049007000_head : Ann := { env := [(0, .cst (.row 10013035 .whole)), (1, .cst (.fn 65 [])), (7, TI), (8, TI)], stk := [[(4, .ty .bool)], [(1, cP 5), (2, cP 6), (5, .cst (.fn 63 [(.ptr 5 0 [])])), (46, .ty .bool)], [(0, .ty .str), (4, cP 10004), (5, cP 10010)], [(0, .cst (.tup [(.fn 117 [(.ptr 10004 0 [])])]))], [(2, cP 2), (3, .cst .nils), (4, TI), (5, cP 5), (6, cP 6)]], bxs := [(10013035, .row tE false), (5, .var [TI, TI]), (6, .var [.cst (.row 10013035 .whole)]), (10004, .var [.ty .bool]), (10010, .var [.ty .str, TI]), (2, .var [TI, TI])] }
def f119_l2_b10013049007000_outs : List (Ex × Ann) := [((.exit 0), { env := [], stk := [[(4, .ty .bool)], [(1, cP 5), (2, cP 6), (5, .cst (.fn 63 [(.ptr 5 0 [])])), (46, .ty .bool)], [(0, .ty .str), (4, cP 10004), (5, cP 10010)], [(0, .cst (.tup [(.fn 117 [(.ptr 10004 0 [])])]))], [(2, cP 2), (3, .cst .nils), (4, TI), (5, cP 5), (6, cP 6)]], bxs := [(5, .var [TI, TI]), (6, .var [.cst (.row 10013035 .whole)]), (10004, .var [.ty .bool]), (10010, .var [.ty .str, TI]), (2, .var [TI, TI]), (10013035, .row tE false)] }), (.ret, { env := [(4, TI)], stk := [[(4, .ty .bool)], [(1, cP 5), (2, cP 6), (5, .cst (.fn 63 [(.ptr 5 0 [])])), (46, .ty .bool)], [(0, .ty .str), (4, cP 10004), (5, cP 10010)], [(0, .cst (.tup [(.fn 117 [(.ptr 10004 0 [])])]))], [(2, cP 2), (3, .cst .nils), (4, TI), (5, cP 5), (6, cP 6)]], bxs := [(5, .var [TI, TI]), (6, .var [.cst (.row 10013035 .whole)]), (10004, .var [.ty .bool]), (10010, .var [.ty .str, TI]), (2, .var [TI, TI]), (10013035, .row tE false)] })]
def f119_l2_b10013049007000 (t7 : Int) (k0t4 : Bool) (k1t46 : Bool) (k2t0 : ByteArray) (k4t4 : Int) (r10013035 : (List Ed)) (b5g0 : Int) (b5g1 : Int) (b10004g0 : Bool) (b10010g0 : ByteArray) (b10010g1 : Int) (b2g0 : Int) (b2g1 : Int) : Nat → Int → Option (outDen f119_l2_b10013049007000_outs)
 | 0, _ => none
 | k + 1, t8 =>
  bif (decide (t8 < t7)) then
   bif (inR t8 r10013035.length) then
    (f65 (at_ tE r10013035 t8)).bind fun y25 =>
    bif y25.1 then
     some (.inr ((t8, ()), ((k0t4, ()), (k1t46, ()), (k2t0, ()), (), (k4t4, ()), ()), ((b5g0, b5g1, ()), (), (b10004g0, ()), (b10010g0, b10010g1, ()), (b2g0, b2g1, ()), r10013035, ())))
    else
     f119_l2_b10013049007000 t7 k0t4 k1t46 k2t0 k4t4 r10013035 b5g0 b5g1 b10004g0 b10010g0 b10010g1 b2g0 b2g1 k (IntKind.wrap .i64 (t8 + (1 : Int)))
   else none
  else
   some (.inl ((), ((k0t4, ()), (k1t46, ()), (k2t0, ()), (), (k4t4, ()), ()), ((b5g0, b5g1, ()), (), (b10004g0, ()), (b10010g0, b10010g1, ()), (b2g0, b2g1, ()), r10013035, ())))
def f119_l2_b10013049007000_n (n : Nat) (x : f119_l2_b10013049007000_head.den) := f119_l2_b10013049007000 x.1.1 x.2.1.1.1 x.2.1.2.1.1 x.2.1.2.2.1.1 x.2.1.2.2.2.2.1.1 x.2.2.1 x.2.2.2.1.1 x.2.2.2.1.2.1 x.2.2.2.2.2.1.1 x.2.2.2.2.2.2.1.1 x.2.2.2.2.2.2.1.2.1 x.2.2.2.2.2.2.2.1.1 x.2.2.2.2.2.2.2.1.2.1 n x.1.2.1
def f119_l2_b10013049007000_spec : LSpec := { thaws := [], head := f119_l2_b10013049007000_head, outs := f119_l2_b10013049007000_outs, fn := fun x => f119_l2_b10013049007000_n ((x.1.1 - x.1.2.1).toNat + 1) x }
def f119_l2_b10013055007000_head : Ann := { env := [(0, .cst (.row 10013035 .whole)), (1, .cst (.fn 63 [(.ptr 5 0 [])])), (7, TI), (8, TI)], stk := [[(4, .ty .bool)], [(1, cP 5), (2, cP 6), (52, .ty .bool)], [(0, .ty .str), (4, cP 10004), (5, cP 10010)], [(0, .cst (.tup [(.fn 117 [(.ptr 10004 0 [])])]))], [(2, cP 2), (3, .cst .nils), (4, TI), (5, cP 5), (6, cP 6)]], bxs := [(10013035, .row tE false), (5, .var [TI, TI]), (6, .var [.cst (.row 10013035 .whole)]), (10004, .var [.ty .bool]), (10010, .var [.ty .str, TI]), (2, .var [TI, TI])] }
def f119_l2_b10013055007000_outs : List (Ex × Ann) := [((.exit 0), { env := [], stk := [[(4, .ty .bool)], [(1, cP 5), (2, cP 6), (52, .ty .bool)], [(0, .ty .str), (4, cP 10004), (5, cP 10010)], [(0, .cst (.tup [(.fn 117 [(.ptr 10004 0 [])])]))], [(2, cP 2), (3, .cst .nils), (4, TI), (5, cP 5), (6, cP 6)]], bxs := [(5, .var [TI, TI]), (6, .var [.cst (.row 10013035 .whole)]), (10004, .var [.ty .bool]), (10010, .var [.ty .str, TI]), (2, .var [TI, TI]), (10013035, .row tE false)] }), (.ret, { env := [(4, TI)], stk := [[(4, .ty .bool)], [(1, cP 5), (2, cP 6), (52, .ty .bool)], [(0, .ty .str), (4, cP 10004), (5, cP 10010)], [(0, .cst (.tup [(.fn 117 [(.ptr 10004 0 [])])]))], [(2, cP 2), (3, .cst .nils), (4, TI), (5, cP 5), (6, cP 6)]], bxs := [(5, .var [TI, TI]), (6, .var [.cst (.row 10013035 .whole)]), (10004, .var [.ty .bool]), (10010, .var [.ty .str, TI]), (2, .var [TI, TI]), (10013035, .row tE false)] })]
def f119_l2_b10013055007000 (t7 : Int) (k0t4 : Bool) (k1t52 : Bool) (k2t0 : ByteArray) (k4t4 : Int) (r10013035 : (List Ed)) (b5g0 : Int) (b5g1 : Int) (b10004g0 : Bool) (b10010g0 : ByteArray) (b10010g1 : Int) (b2g0 : Int) (b2g1 : Int) : Nat → Int → Option (outDen f119_l2_b10013055007000_outs)
 | 0, _ => none
 | k + 1, t8 =>
  bif (decide (t8 < t7)) then
   bif (inR t8 r10013035.length) then
    (f64 (at_ tE r10013035 t8) b5g0).bind fun y41 =>
    bif (decide (y41.1 < (0 : Int))) then
     some (.inr ((t8, ()), ((k0t4, ()), (k1t52, ()), (k2t0, ()), (), (k4t4, ()), ()), ((b5g0, b5g1, ()), (), (b10004g0, ()), (b10010g0, b10010g1, ()), (b2g0, b2g1, ()), r10013035, ())))
    else
     f119_l2_b10013055007000 t7 k0t4 k1t52 k2t0 k4t4 r10013035 b5g0 b5g1 b10004g0 b10010g0 b10010g1 b2g0 b2g1 k (IntKind.wrap .i64 (t8 + (1 : Int)))
   else none
  else
   some (.inl ((), ((k0t4, ()), (k1t52, ()), (k2t0, ()), (), (k4t4, ()), ()), ((b5g0, b5g1, ()), (), (b10004g0, ()), (b10010g0, b10010g1, ()), (b2g0, b2g1, ()), r10013035, ())))
def f119_l2_b10013055007000_n (n : Nat) (x : f119_l2_b10013055007000_head.den) := f119_l2_b10013055007000 x.1.1 x.2.1.1.1 x.2.1.2.1.1 x.2.1.2.2.1.1 x.2.1.2.2.2.2.1.1 x.2.2.1 x.2.2.2.1.1 x.2.2.2.1.2.1 x.2.2.2.2.2.1.1 x.2.2.2.2.2.2.1.1 x.2.2.2.2.2.2.1.2.1 x.2.2.2.2.2.2.2.1.1 x.2.2.2.2.2.2.2.1.2.1 n x.1.2.1
def f119_l2_b10013055007000_spec : LSpec := { thaws := [], head := f119_l2_b10013055007000_head, outs := f119_l2_b10013055007000_outs, fn := fun x => f119_l2_b10013055007000_n ((x.1.1 - x.1.2.1).toNat + 1) x }
def f25 (a0 : ByteArray) : Option (Vx × (List Ed) × Int × Unit) :=
 (f118 a0 0).bind fun y1 =>
 bif (!(decide (y1.2.2.1 = (0 : Int)))) then
  some ((0, (0, ())), [], (60 : Int), ())
 else
  (f118 a0 y1.2.1).bind fun y2 =>
  bif (!(decide (y2.2.2.1 = (0 : Int)))) then
   some ((0, (0, ())), [], (60 : Int), ())
  else
   (f118 a0 y2.2.1).bind fun y3 =>
   bif (!(decide (y3.2.2.1 = (0 : Int)))) then
    some ((0, (0, ())), [], (60 : Int), ())
   else
    bif (decide (y3.1 ≥ (0 : Int))) then
     bif (!(decide (y3.1 ≤ (40 : Int)))) then
      some ((0, (0, ())), [], (60 : Int), ())
     else
      (f59_l4_b10013000 y3.1 a0 (0 : Int) a0 y1.1 y2.1 false 0 0 ((y3.1 - (0 : Int)).toNat + 1) (0 : Int) y3.2.1 []).bind fun o12 =>
      Sum.elim (fun o13 =>
       let u15 : ByteArray := o13.2.1.1.1
       let u16 : Int := o13.2.1.2.2.1.1
       let u17 : Int := o13.2.2.1.1
       let u18 : Int := o13.2.2.1.2.1
       let u19 : Bool := o13.2.2.2.2.1.1
       let u20 : ByteArray := o13.2.2.2.2.2.1.1
       let u21 : Int := o13.2.2.2.2.2.1.2.1
       let u22 : Int := o13.2.2.2.2.2.2.1.1
       let u23 : Int := o13.2.2.2.2.2.2.1.2.1
       let u24 : (List Ed) := o13.2.2.2.2.2.2.2.1
       bif (decide (u17 ≥ (0 : Int))) then
        bif (decide (u17 < (24 : Int))) then
         (f119_l2_b10013049007000 (u24.length : Int) false true u15 u16 u24 u17 u18 u19 u20 u21 u22 u23 (((u24.length : Int) - (0 : Int)).toNat + 1) (0 : Int)).bind fun o26 =>
         Sum.elim (fun o27 =>
          let u30 : Bool := o27.2.1.2.1.1
          let u31 : ByteArray := o27.2.1.2.2.1.1
          let u32 : Int := o27.2.1.2.2.2.2.1.1
          let u33 : Int := o27.2.2.1.1
          let u34 : Int := o27.2.2.1.2.1
          let u35 : Bool := o27.2.2.2.2.1.1
          let u36 : ByteArray := o27.2.2.2.2.2.1.1
          let u37 : Int := o27.2.2.2.2.2.1.2.1
          let u38 : Int := o27.2.2.2.2.2.2.1.1
          let u39 : Int := o27.2.2.2.2.2.2.1.2.1
          let u40 : (List Ed) := o27.2.2.2.2.2.2.2.1
          bif u30 then
           (f119_l2_b10013055007000 (u40.length : Int) false true u31 u32 u40 u33 u34 u35 u36 u37 u38 u39 (((u40.length : Int) - (0 : Int)).toNat + 1) (0 : Int)).bind fun o42 =>
           Sum.elim (fun o43 =>
            let u46 : Bool := o43.2.1.2.1.1
            let u47 : ByteArray := o43.2.1.2.2.1.1
            let u49 : Int := o43.2.2.1.1
            let u50 : Int := o43.2.2.1.2.1
            let u51 : Bool := o43.2.2.2.2.1.1
            let u53 : Int := o43.2.2.2.2.2.1.2.1
            let u56 : (List Ed) := o43.2.2.2.2.2.2.2.1
            bif u46 then
             (f67 (u49, (u50, ())) u56).bind fun y57 =>
             (f46 y57.1).bind fun y58 =>
             bif (!y58.1) then
              bif u51 then
               some ((0, (0, ())), [], (60 : Int), ())
              else
               some ((0, (0, ())), [], (60 : Int), ())
             else
              bif (decide (u53 = (u47.size : Int))) then
               some ((u49, (u50, ())), u56, (0 : Int), ())
              else
               some ((0, (0, ())), [], (60 : Int), ())
            else
             bif u51 then
              some ((0, (0, ())), [], (60 : Int), ())
             else
              some ((0, (0, ())), [], (60 : Int), ())) (fun o44 =>
            let u59 : Int := o44.1.1
            let u61 : Bool := o44.2.1.2.1.1
            let u62 : ByteArray := o44.2.1.2.2.1.1
            let u64 : Int := o44.2.2.1.1
            let u65 : Int := o44.2.2.1.2.1
            let u66 : Bool := o44.2.2.2.2.1.1
            let u68 : Int := o44.2.2.2.2.2.1.2.1
            let u71 : (List Ed) := o44.2.2.2.2.2.2.2.1
            bif u61 then
             bif (!(decide (u59 ≥ (0 : Int)))) then
              (f67 (u64, (u65, ())) u71).bind fun y72 =>
              (f46 y72.1).bind fun y73 =>
              bif (!y73.1) then
               bif u66 then
                some ((0, (0, ())), [], (60 : Int), ())
               else
                some ((0, (0, ())), [], (60 : Int), ())
              else
               bif (decide (u68 = (u62.size : Int))) then
                some ((u64, (u65, ())), u71, (0 : Int), ())
               else
                some ((0, (0, ())), [], (60 : Int), ())
             else
              bif u66 then
               some ((0, (0, ())), [], (60 : Int), ())
              else
               some ((0, (0, ())), [], (60 : Int), ())
            else
             bif u66 then
              some ((0, (0, ())), [], (60 : Int), ())
             else
              some ((0, (0, ())), [], (60 : Int), ())) o42
          else
           bif u35 then
            some ((0, (0, ())), [], (60 : Int), ())
           else
            some ((0, (0, ())), [], (60 : Int), ())) (fun o28 =>
          let u74 : Int := o28.1.1
          let u76 : Bool := o28.2.1.2.1.1
          let u77 : ByteArray := o28.2.1.2.2.1.1
          let u78 : Int := o28.2.1.2.2.2.2.1.1
          let u79 : Int := o28.2.2.1.1
          let u80 : Int := o28.2.2.1.2.1
          let u81 : Bool := o28.2.2.2.2.1.1
          let u82 : ByteArray := o28.2.2.2.2.2.1.1
          let u83 : Int := o28.2.2.2.2.2.1.2.1
          let u84 : Int := o28.2.2.2.2.2.2.1.1
          let u85 : Int := o28.2.2.2.2.2.2.1.2.1
          let u86 : (List Ed) := o28.2.2.2.2.2.2.2.1
          bif u76 then
           bif (!(decide (u74 ≥ (0 : Int)))) then
            (f119_l2_b10013055007000 (u86.length : Int) false true u77 u78 u86 u79 u80 u81 u82 u83 u84 u85 (((u86.length : Int) - (0 : Int)).toNat + 1) (0 : Int)).bind fun o88 =>
            Sum.elim (fun o89 =>
             let u92 : Bool := o89.2.1.2.1.1
             let u93 : ByteArray := o89.2.1.2.2.1.1
             let u95 : Int := o89.2.2.1.1
             let u96 : Int := o89.2.2.1.2.1
             let u97 : Bool := o89.2.2.2.2.1.1
             let u99 : Int := o89.2.2.2.2.2.1.2.1
             let u102 : (List Ed) := o89.2.2.2.2.2.2.2.1
             bif u92 then
              (f67 (u95, (u96, ())) u102).bind fun y103 =>
              (f46 y103.1).bind fun y104 =>
              bif (!y104.1) then
               bif u97 then
                some ((0, (0, ())), [], (60 : Int), ())
               else
                some ((0, (0, ())), [], (60 : Int), ())
              else
               bif (decide (u99 = (u93.size : Int))) then
                some ((u95, (u96, ())), u102, (0 : Int), ())
               else
                some ((0, (0, ())), [], (60 : Int), ())
             else
              bif u97 then
               some ((0, (0, ())), [], (60 : Int), ())
              else
               some ((0, (0, ())), [], (60 : Int), ())) (fun o90 =>
             let u105 : Int := o90.1.1
             let u107 : Bool := o90.2.1.2.1.1
             let u108 : ByteArray := o90.2.1.2.2.1.1
             let u110 : Int := o90.2.2.1.1
             let u111 : Int := o90.2.2.1.2.1
             let u112 : Bool := o90.2.2.2.2.1.1
             let u114 : Int := o90.2.2.2.2.2.1.2.1
             let u117 : (List Ed) := o90.2.2.2.2.2.2.2.1
             bif u107 then
              bif (!(decide (u105 ≥ (0 : Int)))) then
               (f67 (u110, (u111, ())) u117).bind fun y118 =>
               (f46 y118.1).bind fun y119 =>
               bif (!y119.1) then
                bif u112 then
                 some ((0, (0, ())), [], (60 : Int), ())
                else
                 some ((0, (0, ())), [], (60 : Int), ())
               else
                bif (decide (u114 = (u108.size : Int))) then
                 some ((u110, (u111, ())), u117, (0 : Int), ())
                else
                 some ((0, (0, ())), [], (60 : Int), ())
              else
               bif u112 then
                some ((0, (0, ())), [], (60 : Int), ())
               else
                some ((0, (0, ())), [], (60 : Int), ())
             else
              bif u112 then
               some ((0, (0, ())), [], (60 : Int), ())
              else
               some ((0, (0, ())), [], (60 : Int), ())) o88
           else
            bif u81 then
             some ((0, (0, ())), [], (60 : Int), ())
            else
             some ((0, (0, ())), [], (60 : Int), ())
          else
           bif u81 then
            some ((0, (0, ())), [], (60 : Int), ())
           else
            some ((0, (0, ())), [], (60 : Int), ())) o26
        else
         bif u19 then
          some ((0, (0, ())), [], (60 : Int), ())
         else
          some ((0, (0, ())), [], (60 : Int), ())
       else
        bif u19 then
         some ((0, (0, ())), [], (60 : Int), ())
        else
         some ((0, (0, ())), [], (60 : Int), ())) (fun o14 =>
       let u122 : Bool := o14.2.2.1.1
       bif u122 then
        some ((0, (0, ())), [], (60 : Int), ())
       else
        some ((0, (0, ())), [], (60 : Int), ())) o12
    else
     some ((0, (0, ())), [], (60 : Int), ())
def f25_spec : PSpec := { args := [.str], res := [tV, (.sl tE), tI], fn := fun x => f25 x.1 }
noncomputable def f25_code : Code := Go.Proofs.Tryz.f25.body.getD .skip
noncomputable def f25_code_59 : Code := Go.Proofs.Tryz.f59.body.getD .skip
noncomputable def f25_code_119 : Code := Go.Proofs.Tryz.f119.body.getD .skip
noncomputable def f25_env : Env0 := { C := cfg, P := [(46, f46_spec), (64, f64_spec), (65, f65_spec), (67, f67_spec), (118, f118_spec)], L := [(⟨10, 10013000, 59, 4⟩, f59_l4_b10013000_spec), (⟨8, 10013049007000, 119, 2⟩, f119_l2_b10013049007000_spec), (⟨8, 10013055007000, 119, 2⟩, f119_l2_b10013055007000_spec)], F := [(25, Go.Proofs.Tryz.f25), (58, Go.Proofs.Tryz.f58), (59, Go.Proofs.Tryz.f59), (60, Go.Proofs.Tryz.f60), (61, Go.Proofs.Tryz.f61), (62, Go.Proofs.Tryz.f62), (63, Go.Proofs.Tryz.f63), (66, Go.Proofs.Tryz.f66), (117, Go.Proofs.Tryz.f117), (119, Go.Proofs.Tryz.f119)], S := [], R := [], I := [], tot := [(59, [0, 5]), (62, [1, 5])] }
theorem f59_l4_b10013000_ok : LoopOK f25_env 10 59 10013000 (loopAt f25_code_59 4) f59_l4_b10013000_spec :=
 loopOK_of (by kernel_rfl) f59_l4_b10013000_n (fun x o h => ⟨_, h⟩) (fun x => by kernel_rfl) (fun n x => by kernel_rfl)
theorem f119_l2_b10013049007000_ok : LoopOK f25_env 8 119 10013049007000 (loopAt f25_code_119 2) f119_l2_b10013049007000_spec :=
 loopOK_of (by kernel_rfl) f119_l2_b10013049007000_n (fun x o h => ⟨_, h⟩) (fun x => by kernel_rfl) (fun n x => by kernel_rfl)
theorem f119_l2_b10013055007000_ok : LoopOK f25_env 8 119 10013055007000 (loopAt f25_code_119 2) f119_l2_b10013055007000_spec :=
 loopOK_of (by kernel_rfl) f119_l2_b10013055007000_n (fun x o h => ⟨_, h⟩) (fun x => by kernel_rfl) (fun n x => by kernel_rfl)
theorem f25_run (x : tysDen (f25_spec).args) : runF f25_env 25 Go.Proofs.Tryz.f25 f25_code (f25_spec).args (f25_spec).res x = f25_spec.fn x := by kernel_rfl
theorem f25_enter : Enterable Go.Proofs.Tryz.prog 25 := enter_fun Go.Proofs.Tryz.func25 (by kernel_rfl)
theorem f25_envOK : EnvOK Go.Proofs.Tryz.prog f25_env := envOK_of cds (by kernel_rfl) cfg_ok ⟨⟨f46_pure, f46_enter⟩, ⟨f64_pure, f64_enter⟩, ⟨f65_pure, f65_enter⟩, ⟨f67_pure, f67_enter⟩, ⟨f118_pure, f118_enter⟩, trivial⟩ trivial ⟨⟨Go.Proofs.Tryz.func25, by kernel_rfl⟩, ⟨Go.Proofs.Tryz.func58, by kernel_rfl⟩, ⟨Go.Proofs.Tryz.func59, by kernel_rfl⟩, ⟨Go.Proofs.Tryz.func60, by kernel_rfl⟩, ⟨Go.Proofs.Tryz.func61, by kernel_rfl⟩, ⟨Go.Proofs.Tryz.func62, by kernel_rfl⟩, ⟨Go.Proofs.Tryz.func63, by kernel_rfl⟩, ⟨Go.Proofs.Tryz.func66, by kernel_rfl⟩, ⟨Go.Proofs.Tryz.func117, by kernel_rfl⟩, ⟨Go.Proofs.Tryz.func119, by kernel_rfl⟩, trivial⟩ ⟨⟨Go.Proofs.Tryz.f59, f25_code_59, rfl, rfl, f59_l4_b10013000_ok⟩, ⟨Go.Proofs.Tryz.f119, f25_code_119, rfl, rfl, f119_l2_b10013049007000_ok⟩, ⟨Go.Proofs.Tryz.f119, f25_code_119, rfl, rfl, f119_l2_b10013055007000_ok⟩, trivial⟩ trivial trivial
theorem f25_pure : PureOK Go.Proofs.Tryz.prog cfg 25 f25_spec := pure_of_run f25_envOK (fn := Go.Proofs.Tryz.f25) (c := f25_code) rfl rfl f25_spec (fun x _ h => (f25_run x).trans h)
def f70_l4_b10013000_head : Ann := { env := [(0, cP 10010), (1, cP 5), (2, cP 6), (5, TI), (18, TI), (19, TI)], stk := [[(0, .ty .str), (4, cP 10004), (5, cP 10010)], [(0, .cst (.tup [(.fn 117 [(.ptr 10004 0 [])])]))], [(2, .cst .nils), (3, TI), (4, TI), (5, cP 5), (6, cP 6)]], bxs := [(10010, .var [.ty .str, TI]), (5, .var [.cst (.row 10013036 .whole)]), (6, .var [TI]), (10004, .var [.ty .bool]), (10013036, .row tI false)] }
def f70_l4_b10013000_outs : List (Ex × Ann) := [((.exit 0), { env := [(0, cP 10010), (2, cP 6)], stk := [[(0, .ty .str), (4, cP 10004), (5, cP 10010)], [(0, .cst (.tup [(.fn 117 [(.ptr 10004 0 [])])]))], [(2, .cst .nils), (3, TI), (4, TI), (5, cP 5), (6, cP 6)]], bxs := [(10010, .var [.ty .str, TI]), (6, .var [TI]), (10004, .var [.ty .bool]), (5, .var [.cst (.row 10013036 .whole)]), (10013036, .row tI false)] }), ((.pan ⟨36, .int .i64 (60)⟩), { env := [], stk := [[(0, .ty .str), (4, cP 10004), (5, cP 10010)], [(0, .cst (.tup [(.fn 117 [(.ptr 10004 0 [])])]))], [(2, .cst .nils), (3, TI), (4, TI), (5, cP 5), (6, cP 6)]], bxs := [(10004, .var [.ty .bool]), (10010, .var [.ty .str, TI]), (5, .var [.cst (.row 10013036 .whole)]), (6, .var [TI]), (10013036, .row tI false)] })]
def f70_l4_b10013000 (t18 : Int) (k0t0 : ByteArray) (k2t3 : Int) (k2t4 : Int) (b10010g0 : ByteArray) (b6g0 : Int) (b10004g0 : Bool) : Nat → Int → Int → Int → (List Int) → Option (outDen f70_l4_b10013000_outs)
 | 0, _, _, _, _ => none
 | k + 1, t5, t19, b10010g1, r10013036 =>
  bif (decide (t19 < t18)) then
   (f118 b10010g0 b10010g1).bind fun y2 =>
   bif (!(decide (y2.2.2.1 = (0 : Int)))) then
    some (.inr ((), ((k0t0, ()), (), (k2t3, k2t4, ()), ()), ((b10004g0, ()), (b10010g0, b10010g1, ()), (), (b6g0, ()), r10013036, ())))
   else
    bif (decide (t5 < y2.1)) then
     bif (!(decide (y2.1 < (24 : Int)))) then
      some (.inr ((), ((k0t0, ()), (), (k2t3, k2t4, ()), ()), ((b10004g0, ()), (b10010g0, y2.2.1, ()), (), (b6g0, ()), r10013036, ())))
     else
      bif (decide (r10013036.length + ([y2.1] : List Int).length ≤ appLim)) then f70_l4_b10013000 t18 k0t0 k2t3 k2t4 b10010g0 b6g0 b10004g0 k y2.1 (IntKind.wrap .i64 (t19 + (1 : Int))) y2.2.1 (r10013036 ++ ([y2.1] : List Int)) else none
    else
     some (.inr ((), ((k0t0, ()), (), (k2t3, k2t4, ()), ()), ((b10004g0, ()), (b10010g0, y2.2.1, ()), (), (b6g0, ()), r10013036, ())))
  else
   some (.inl ((), ((k0t0, ()), (), (k2t3, k2t4, ()), ()), ((b10010g0, b10010g1, ()), (b6g0, ()), (b10004g0, ()), (), r10013036, ())))
def f70_l4_b10013000_n (n : Nat) (x : f70_l4_b10013000_head.den) := f70_l4_b10013000 x.1.2.1 x.2.1.1.1 x.2.1.2.2.1.1 x.2.1.2.2.1.2.1 x.2.2.1.1 x.2.2.2.2.1.1 x.2.2.2.2.2.1.1 n x.1.1 x.1.2.2.1 x.2.2.1.2.1 x.2.2.2.2.2.2.1
def f70_l4_b10013000_spec : LSpec := { thaws := [.cell 5 0 10013036 tI], head := f70_l4_b10013000_head, outs := f70_l4_b10013000_outs, fn := fun x => f70_l4_b10013000_n ((x.1.2.1 - x.1.2.2.1).toNat + 1) x }
def f27 (a0 : ByteArray) : Option ((List Int) × Int × Int × Unit) :=
 (f118 a0 0).bind fun y1 =>
 bif (!(decide (y1.2.2.1 = (0 : Int)))) then
  some ([], (0 : Int), (60 : Int), ())
 else
  bif (decide (y1.1 ≥ (0 : Int))) then
   bif (!(decide (y1.1 ≤ (3 : Int)))) then
    some ([], (0 : Int), (60 : Int), ())
   else
    (f70_l4_b10013000 y1.1 a0 (0 : Int) (0 : Int) a0 (0 : Int) false ((y1.1 - (0 : Int)).toNat + 1) (-1 : Int) (0 : Int) y1.2.1 []).bind fun o3 =>
    Sum.elim (fun o4 =>
     let u6 : ByteArray := o4.2.1.1.1
     let u9 : ByteArray := o4.2.2.1.1
     let u10 : Int := o4.2.2.1.2.1
     let u12 : Bool := o4.2.2.2.2.1.1
     let u13 : (List Int) := o4.2.2.2.2.2.2.1
     (f118 u9 u10).bind fun y14 =>
     bif (!(decide (y14.2.2.1 = (0 : Int)))) then
      bif u12 then
       some ([], (0 : Int), (60 : Int), ())
      else
       some ([], (0 : Int), (60 : Int), ())
     else
      bif (decide (y14.1 ≥ (0 : Int))) then
       let v15 : Bool := (!(decide (y14.1 < (1099511627776 : Int))))
       bif v15 then
        bif u12 then
         some ([], (0 : Int), (60 : Int), ())
        else
         some ([], (0 : Int), (60 : Int), ())
       else
        bif (decide (y14.2.1 = (u6.size : Int))) then
         some (u13, y14.1, (0 : Int), ())
        else
         some ([], (0 : Int), (60 : Int), ())
      else
       bif u12 then
        some ([], (0 : Int), (60 : Int), ())
       else
        some ([], (0 : Int), (60 : Int), ())) (fun o5 =>
     let u19 : Bool := o5.2.2.1.1
     bif u19 then
      some ([], (0 : Int), (60 : Int), ())
     else
      some ([], (0 : Int), (60 : Int), ())) o3
  else
   some ([], (0 : Int), (60 : Int), ())
def f27_spec : PSpec := { args := [.str], res := [(.sl tI), tI, tI], fn := fun x => f27 x.1 }
noncomputable def f27_code : Code := Go.Proofs.Tryz.f27.body.getD .skip
noncomputable def f27_code_70 : Code := Go.Proofs.Tryz.f70.body.getD .skip
noncomputable def f27_env : Env0 := { C := cfg, P := [(118, f118_spec)], L := [(⟨10, 10013000, 70, 4⟩, f70_l4_b10013000_spec)], F := [(27, Go.Proofs.Tryz.f27), (58, Go.Proofs.Tryz.f58), (60, Go.Proofs.Tryz.f60), (61, Go.Proofs.Tryz.f61), (70, Go.Proofs.Tryz.f70), (117, Go.Proofs.Tryz.f117)], S := [], R := [], I := [], tot := [(70, [])] }
theorem f70_l4_b10013000_ok : LoopOK f27_env 10 70 10013000 (loopAt f27_code_70 4) f70_l4_b10013000_spec :=
 loopOK_of (by kernel_rfl) f70_l4_b10013000_n (fun x o h => ⟨_, h⟩) (fun x => by kernel_rfl) (fun n x => by kernel_rfl)
theorem f27_run (x : tysDen (f27_spec).args) : runF f27_env 27 Go.Proofs.Tryz.f27 f27_code (f27_spec).args (f27_spec).res x = f27_spec.fn x := by kernel_rfl
theorem f27_enter : Enterable Go.Proofs.Tryz.prog 27 := enter_fun Go.Proofs.Tryz.func27 (by kernel_rfl)
theorem f27_envOK : EnvOK Go.Proofs.Tryz.prog f27_env := envOK_of cds (by kernel_rfl) cfg_ok ⟨⟨f118_pure, f118_enter⟩, trivial⟩ trivial ⟨⟨Go.Proofs.Tryz.func27, by kernel_rfl⟩, ⟨Go.Proofs.Tryz.func58, by kernel_rfl⟩, ⟨Go.Proofs.Tryz.func60, by kernel_rfl⟩, ⟨Go.Proofs.Tryz.func61, by kernel_rfl⟩, ⟨Go.Proofs.Tryz.func70, by kernel_rfl⟩, ⟨Go.Proofs.Tryz.func117, by kernel_rfl⟩, trivial⟩ ⟨⟨Go.Proofs.Tryz.f70, f27_code_70, rfl, rfl, f70_l4_b10013000_ok⟩, trivial⟩ trivial trivial
theorem f27_pure : PureOK Go.Proofs.Tryz.prog cfg 27 f27_spec := pure_of_run f27_envOK (fn := Go.Proofs.Tryz.f27) (c := f27_code) rfl rfl f27_spec (fun x _ h => (f27_run x).trans h)
def f56_l4_head : Ann := { env := [(0, .ty (.sl tN)), (1, .ty (.sl tN)), (12, TI), (13, TI)], stk := [], bxs := [] }
def f56_l4_outs : List (Ex × Ann) := [((.exit 0), { env := [], stk := [], bxs := [] }), (.ret, { env := [(4, .ty .bool)], stk := [], bxs := [] })]
def f56_l4 (t0 : (List En)) (t1 : (List En)) (t12 : Int) : Nat → Int → Option (outDen f56_l4_outs)
 | 0, _ => none
 | k + 1, t13 =>
  bif (decide (t13 < t12)) then
   bif (inR t13 t0.length) then
    bif (inR t13 t1.length) then
     let v2 : Bool := (!(decide ((at_ tN t0 t13).1 = (at_ tN t1 t13).1) && (decide ((at_ tN t0 t13).2.1 = (at_ tN t1 t13).2.1) && true)))
     bif v2 then
      some (.inr ((false, ()), (), ()))
     else
      f56_l4 t0 t1 t12 k (IntKind.wrap .i64 (t13 + (1 : Int)))
    else none
   else none
  else
   some (.inl ((), (), ()))
def f56_l4_n (n : Nat) (x : f56_l4_head.den) := f56_l4 x.1.1 x.1.2.1 x.1.2.2.1 n x.1.2.2.2.1
def f56_l4_spec : LSpec := { thaws := [], head := f56_l4_head, outs := f56_l4_outs, fn := fun x => f56_l4_n ((x.1.2.2.1 - x.1.2.2.2.1).toNat + 1) x }
def f56 (a0 : (List En)) (a1 : (List En)) : Option (Bool × Unit) :=
 let v1 : Bool := (decide ((a0.length : Int) ≠ (a1.length : Int)))
 bif v1 then
  some (false, ())
 else
  (f56_l4 a0 a1 (a0.length : Int) (((a0.length : Int) - (0 : Int)).toNat + 1) (0 : Int)).bind fun o3 =>
  Sum.elim (fun o4 =>
   some (true, ())) (fun o5 =>
   let u6 : Bool := o5.1.1
   some (u6, ())) o3
def f56_spec : PSpec := { args := [(.sl tN), (.sl tN)], res := [.bool], fn := fun x => f56 x.1 x.2.1 }
noncomputable def f56_code : Code := Go.Proofs.Tryz.f56.body.getD .skip
noncomputable def f56_env : Env0 := { C := cfg, P := [], L := [(⟨12, 0, 56, 4⟩, f56_l4_spec)], F := [(56, Go.Proofs.Tryz.f56)], S := [], R := [], I := [], tot := [] }
theorem f56_l4_ok : LoopOK f56_env 12 56 0 (loopAt f56_code 4) f56_l4_spec :=
 loopOK_of (by kernel_rfl) f56_l4_n (fun x o h => ⟨_, h⟩) (fun x => by kernel_rfl) (fun n x => by kernel_rfl)
theorem f56_run (x : tysDen (f56_spec).args) : runF f56_env 56 Go.Proofs.Tryz.f56 f56_code (f56_spec).args (f56_spec).res x = f56_spec.fn x := by kernel_rfl
theorem f56_enter : Enterable Go.Proofs.Tryz.prog 56 := enter_fun Go.Proofs.Tryz.func56 (by kernel_rfl)
theorem f56_envOK : EnvOK Go.Proofs.Tryz.prog f56_env := envOK_of cds (by kernel_rfl) cfg_ok trivial trivial ⟨⟨Go.Proofs.Tryz.func56, by kernel_rfl⟩, trivial⟩ ⟨⟨Go.Proofs.Tryz.f56, f56_code, rfl, rfl, f56_l4_ok⟩, trivial⟩ trivial trivial
theorem f56_pure : PureOK Go.Proofs.Tryz.prog cfg 56 f56_spec := pure_of_run f56_envOK (fn := Go.Proofs.Tryz.f56) (c := f56_code) rfl rfl f56_spec (fun x _ h => (f56_run x).trans h)
def f22_l13_head : Ann := { env := [(0, .ty (.sl tN)), (2, cP 2), (4, cP 4), (5, .cst (.mp 30)), (35, .ty (.sl tN)), (36, TI), (37, TI), (58, .ty (.sl tE)), (59, TI), (60, TI)], stk := [], bxs := [(2, .var [.cst .nils, .cst .nils, .cst .nils]), (4, .var [.cst (.row 56 .whole), .cst .nils, .cst .nils]), (30, .map tI tE), (56, .row tV false)] }
def f22_l13_outs : List (Ex × Ann) := [((.exit 2), { env := [(0, .ty (.sl tN)), (2, cP 2), (4, cP 4), (5, .cst (.mp 30)), (35, .ty (.sl tN)), (36, TI), (37, TI)], stk := [], bxs := [(2, .var [.cst .nils, .cst .nils, .cst .nils]), (4, .var [.cst (.row 56 .whole), .cst .nils, .cst .nils]), (30, .map tI tE), (56, .row tV false)] })]
def f22_l13 (t0 : (List En)) (t35 : (List En)) (t36 : Int) (t37 : Int) (t58 : (List Ed)) (t59 : Int) (r56 : (List Vx)) : Nat → Int → (List (Int × Ed)) → Option (outDen f22_l13_outs)
 | 0, _, _ => none
 | k + 1, t60, m30 =>
  bif (decide (t60 < t59)) then
   bif (inR t60 t58.length) then
    let v5 : Int := (at_ tE t58 t60).1
    f22_l13 t0 t35 t36 t37 t58 t59 r56 k (IntKind.wrap .i64 (t60 + (1 : Int))) (mapSet tI tE m30 v5 (at_ tE t58 t60))
   else none
  else
   some ((t0, t35, t36, t37, ()), (), ((), (), m30, r56, ()))
def f22_l13_n (n : Nat) (x : f22_l13_head.den) := f22_l13 x.1.1 x.1.2.1 x.1.2.2.1 x.1.2.2.2.1 x.1.2.2.2.2.1 x.1.2.2.2.2.2.1 x.2.2.2.2.2.1 n x.1.2.2.2.2.2.2.1 x.2.2.2.2.1
def f22_l13_spec : LSpec := { thaws := [], head := f22_l13_head, outs := f22_l13_outs, fn := fun x => f22_l13_n ((x.1.2.2.2.2.2.1 - x.1.2.2.2.2.2.2.1).toNat + 1) x }
def f22_l6_head : Ann := { env := [(0, .ty (.sl tN)), (2, cP 2), (4, cP 4), (5, .cst (.mp 30)), (35, .ty (.sl tN)), (36, TI), (37, TI)], stk := [], bxs := [(2, .var [.cst .nils, .cst .nils, .cst .nils]), (4, .var [.cst (.row 56 .whole), .cst .nils, .cst .nils]), (30, .map tI tE), (56, .row tV false)] }
def f22_l6_outs : List (Ex × Ann) := [((.exit 0), { env := [(0, .ty (.sl tN)), (2, cP 2), (4, cP 4), (5, .cst (.mp 30))], stk := [], bxs := [(2, .var [.cst .nils, .cst .nils, .cst .nils]), (4, .var [.cst (.row 56 .whole), .cst .nils, .cst .nils]), (30, .map tI tE), (56, .row tV false)] }), (.ret, { env := [(2, cP 2), (3, TI)], stk := [], bxs := [(2, .var [.cst .nils, .cst .nils, .cst .nils])] })]
def f22_l6 : Nat → (List En) → (List En) → Int → Int → (List (Int × Ed)) → (List Vx) → Option (outDen f22_l6_outs)
 | 0, _, _, _, _, _, _ => none
 | k + 1, t0, t35, t36, t37, m30, r56 =>
  bif (decide (t37 < t36)) then
   bif (inR t37 t35.length) then
    let v3 : ByteArray := (at_ tN t35 t37).2.1
    (f25 v3).bind fun y4 =>
    bif (decide (y4.2.2.1 ≠ (0 : Int))) then
     some (.inr ((y4.2.2.1, ()), (), ((), ())))
    else
     bif (decide (r56.length + ([y4.1] : List Vx).length ≤ appLim)) then
      (f22_l13 t0 t35 t36 t37 y4.2.1 (y4.2.1.length : Int) (r56 ++ ([y4.1] : List Vx)) (((y4.2.1.length : Int) - (0 : Int)).toNat + 1) (0 : Int) m30).bind fun o6 =>
      let u7 : (List En) := o6.1.1
      let u8 : (List En) := o6.1.2.1
      let u9 : Int := o6.1.2.2.1
      let u10 : Int := o6.1.2.2.2.1
      let u11 : (List (Int × Ed)) := o6.2.2.2.2.1
      let u12 : (List Vx) := o6.2.2.2.2.2.1
      f22_l6 k u7 u8 u9 (IntKind.wrap .i64 (u10 + (1 : Int))) u11 u12
     else none
   else none
  else
   some (.inl ((t0, ()), (), ((), (), m30, r56, ())))
def f22_l6_n (n : Nat) (x : f22_l6_head.den) := f22_l6 n x.1.1 x.1.2.1 x.1.2.2.1 x.1.2.2.2.1 x.2.2.2.2.1 x.2.2.2.2.2.1
def f22_l6_spec : LSpec := { thaws := [.cell 4 0 56 tV], head := f22_l6_head, outs := f22_l6_outs, fn := fun x => f22_l6_n ((x.1.2.2.1 - x.1.2.2.2.1).toNat + 1) x }
def f22_l19_head : Ann := { env := [(0, .ty (.sl tN)), (2, cP 2), (4, cP 4), (5, .cst (.mp 30)), (70, TI)], stk := [], bxs := [(2, .var [.cst .nils, .cst .nils, .cst .nils]), (4, .var [.cst (.row 56 .whole), .cst (.row 84 .whole), .cst .nils]), (30, .map tI tE), (56, .row tV false), (84, .row tE false)] }
def f22_l19_outs : List (Ex × Ann) := [((.exit 4), { env := [(0, .ty (.sl tN)), (2, cP 2), (4, cP 4)], stk := [], bxs := [(2, .var [.cst .nils, .cst .nils, .cst .nils]), (4, .var [.cst (.row 56 .whole), .cst (.row 84 .whole), .cst .nils]), (56, .row tV false), (84, .row tE false)] })]
def f22_l19 (t0 : (List En)) (m30 : (List (Int × Ed))) (r56 : (List Vx)) : Nat → Int → (List Ed) → Option (outDen f22_l19_outs)
 | 0, _, _ => none
 | k + 1, t70, r84 =>
  bif (decide (t70 < (40 : Int))) then
   let v19 : Bool := (mapHas tI tE m30 t70)
   bif v19 then
    bif (decide (r84.length + ([(mapGet tI tE m30 t70)] : List Ed).length ≤ appLim)) then f22_l19 t0 m30 r56 k (IntKind.wrap .i64 (t70 + (1 : Int))) (r84 ++ ([(mapGet tI tE m30 t70)] : List Ed)) else none
   else
    f22_l19 t0 m30 r56 k (IntKind.wrap .i64 (t70 + (1 : Int))) r84
  else
   some ((t0, ()), (), ((), (), r56, r84, ()))
def f22_l19_n (n : Nat) (x : f22_l19_head.den) := f22_l19 x.1.1 x.2.2.2.2.1 x.2.2.2.2.2.1 n x.1.2.1 x.2.2.2.2.2.2.1
def f22_l19_spec : LSpec := { thaws := [.cell 4 1 84 tE], head := f22_l19_head, outs := f22_l19_outs, fn := fun x => f22_l19_n (((40 : Int) - x.1.2.1).toNat + 1) x }
def f22 (a0 : (List En)) : Option (Gr × Int × Unit) :=
 bif (decide ((a0.length : Int) = (0 : Int))) then
  some (([], ([], ([], ()))), (60 : Int), ())
 else
  let v1 : Bool := (decide ((a0.length : Int) > (25 : Int)))
  bif v1 then
   some (([], ([], ([], ()))), (60 : Int), ())
  else
   let v2 : Int := (IntKind.wrap .i64 ((a0.length : Int) - (1 : Int)))
   bif (cutOk a0.length none (some v2)) then
    (f22_l6 ((((a0.take (Int.toNat v2)).length : Int) - (0 : Int)).toNat + 1) a0 (a0.take (Int.toNat v2)) ((a0.take (Int.toNat v2)).length : Int) (0 : Int) ([] : List (Int × Ed)) []).bind fun o13 =>
    Sum.elim (fun o14 =>
     let u16 : (List En) := o14.1.1
     let u17 : (List (Int × Ed)) := o14.2.2.2.2.1
     let u18 : (List Vx) := o14.2.2.2.2.2.1
     (f22_l19 u16 u17 u18 (((40 : Int) - (0 : Int)).toNat + 1) (0 : Int) []).bind fun o20 =>
     let u21 : (List En) := o20.1.1
     let u22 : (List Vx) := o20.2.2.2.2.1
     let u23 : (List Ed) := o20.2.2.2.2.2.1
     let v24 : Int := (IntKind.wrap .i64 ((u21.length : Int) - (1 : Int)))
     bif (inR v24 u21.length) then
      let v25 : ByteArray := (at_ tN u21 v24).2.1
      (f27 v25).bind fun y26 =>
      bif (decide (y26.2.2.1 ≠ (0 : Int))) then
       some (([], ([], ([], ()))), y26.2.2.1, ())
      else
       (f13 (u22, (u23, (y26.1, ())))).bind fun y27 =>
       bif (decide (y27.2.1 ≠ (0 : Int))) then
        some (([], ([], ([], ()))), (60 : Int), ())
       else
        (f56 y27.1 u21).bind fun y28 =>
        bif (!y28.1) then
         some (([], ([], ([], ()))), (60 : Int), ())
        else
         some ((u22, (u23, (y26.1, ()))), (0 : Int), ())
     else none) (fun o15 =>
     let u29 : Int := o15.1.1
     some (([], ([], ([], ()))), u29, ())) o13
   else none
def f22_spec : PSpec := { args := [(.sl tN)], res := [tG, tI], fn := fun x => f22 x.1 }
noncomputable def f22_code : Code := Go.Proofs.Tryz.f22.body.getD .skip
noncomputable def f22_env : Env0 := { C := cfg, P := [(13, f13_spec), (25, f25_spec), (27, f27_spec), (56, f56_spec)], L := [(⟨12, 0, 22, 13⟩, f22_l13_spec), (⟨12, 0, 22, 6⟩, f22_l6_spec), (⟨12, 0, 22, 19⟩, f22_l19_spec)], F := [(22, Go.Proofs.Tryz.f22)], S := [], R := [], I := [], tot := [] }
theorem f22_l13_ok : LoopOK f22_env 12 22 0 (loopAt f22_code 13) f22_l13_spec :=
 loopOK_of (by kernel_rfl) f22_l13_n (fun x o h => ⟨_, h⟩) (fun x => by kernel_rfl) (fun n x => by kernel_rfl)
theorem f22_l6_ok : LoopOK f22_env 12 22 0 (loopAt f22_code 6) f22_l6_spec :=
 loopOK_of (by kernel_rfl) f22_l6_n (fun x o h => ⟨_, h⟩) (fun x => by kernel_rfl) (fun n x => by kernel_rfl)
theorem f22_l19_ok : LoopOK f22_env 12 22 0 (loopAt f22_code 19) f22_l19_spec :=
 loopOK_of (by kernel_rfl) f22_l19_n (fun x o h => ⟨_, h⟩) (fun x => by kernel_rfl) (fun n x => by kernel_rfl)
theorem f22_run (x : tysDen (f22_spec).args) : runF f22_env 22 Go.Proofs.Tryz.f22 f22_code (f22_spec).args (f22_spec).res x = f22_spec.fn x := by kernel_rfl
theorem f22_enter : Enterable Go.Proofs.Tryz.prog 22 := enter_fun Go.Proofs.Tryz.func22 (by kernel_rfl)
theorem f22_envOK : EnvOK Go.Proofs.Tryz.prog f22_env := envOK_of cds (by kernel_rfl) cfg_ok ⟨⟨f13_pure, f13_enter⟩, ⟨f25_pure, f25_enter⟩, ⟨f27_pure, f27_enter⟩, ⟨f56_pure, f56_enter⟩, trivial⟩ trivial ⟨⟨Go.Proofs.Tryz.func22, by kernel_rfl⟩, trivial⟩ ⟨⟨Go.Proofs.Tryz.f22, f22_code, rfl, rfl, f22_l13_ok⟩, ⟨Go.Proofs.Tryz.f22, f22_code, rfl, rfl, f22_l6_ok⟩, ⟨Go.Proofs.Tryz.f22, f22_code, rfl, rfl, f22_l19_ok⟩, trivial⟩ trivial trivial
theorem f22_pure : PureOK Go.Proofs.Tryz.prog cfg 22 f22_spec := pure_of_run f22_envOK (fn := Go.Proofs.Tryz.f22) (c := f22_code) rfl rfl f22_spec (fun x _ h => (f22_run x).trans h)
def f29_l4_head : Ann := { env := [(0, .ty (.sl tE)), (1, .ty (.sl tE)), (5, TI)], stk := [], bxs := [] }
def f29_l4_outs : List (Ex × Ann) := [((.exit 0), { env := [], stk := [], bxs := [] }), (.ret, { env := [(4, .ty .bool)], stk := [], bxs := [] })]
def f29_l4 (t0 : (List Ed)) (t1 : (List Ed)) : Nat → Int → Option (outDen f29_l4_outs)
 | 0, _ => none
 | k + 1, t5 =>
  bif (decide (t5 < (t0.length : Int))) then
   bif (inR t5 t0.length) then
    bif (inR t5 t1.length) then
     let v2 : Bool := (!(decide ((at_ tE t0 t5).1 = (at_ tE t1 t5).1) && (decide ((at_ tE t0 t5).2.1 = (at_ tE t1 t5).2.1) && (decide ((at_ tE t0 t5).2.2.1 = (at_ tE t1 t5).2.2.1) && (decide ((at_ tE t0 t5).2.2.2.1 = (at_ tE t1 t5).2.2.2.1) && (decide ((at_ tE t0 t5).2.2.2.2.1 = (at_ tE t1 t5).2.2.2.2.1) && (decide ((at_ tE t0 t5).2.2.2.2.2.1 = (at_ tE t1 t5).2.2.2.2.2.1) && true)))))))
     bif v2 then
      some (.inr ((false, ()), (), ()))
     else
      f29_l4 t0 t1 k (IntKind.wrap .i64 (t5 + (1 : Int)))
    else none
   else none
  else
   some (.inl ((), (), ()))
def f29_l4_n (n : Nat) (x : f29_l4_head.den) := f29_l4 x.1.1 x.1.2.1 n x.1.2.2.1
def f29_l4_spec : LSpec := { thaws := [], head := f29_l4_head, outs := f29_l4_outs, fn := fun x => f29_l4_n (((x.1.1.length : Int) - x.1.2.2.1).toNat + 1) x }
def f29 (a0 : (List Ed)) (a1 : (List Ed)) : Option (Bool × Unit) :=
 let v1 : Bool := (decide ((a0.length : Int) ≠ (a1.length : Int)))
 bif v1 then
  some (false, ())
 else
  (f29_l4 a0 a1 (((a0.length : Int) - (0 : Int)).toNat + 1) (0 : Int)).bind fun o3 =>
  Sum.elim (fun o4 =>
   some (true, ())) (fun o5 =>
   let u6 : Bool := o5.1.1
   some (u6, ())) o3
def f29_spec : PSpec := { args := [(.sl tE), (.sl tE)], res := [.bool], fn := fun x => f29 x.1 x.2.1 }
noncomputable def f29_code : Code := Go.Proofs.Tryz.f29.body.getD .skip
noncomputable def f29_env : Env0 := { C := cfg, P := [], L := [(⟨12, 0, 29, 4⟩, f29_l4_spec)], F := [(29, Go.Proofs.Tryz.f29)], S := [], R := [], I := [], tot := [] }
theorem f29_l4_ok : LoopOK f29_env 12 29 0 (loopAt f29_code 4) f29_l4_spec :=
 loopOK_of (by kernel_rfl) f29_l4_n (fun x o h => ⟨_, h⟩) (fun x => by kernel_rfl) (fun n x => by kernel_rfl)
theorem f29_run (x : tysDen (f29_spec).args) : runF f29_env 29 Go.Proofs.Tryz.f29 f29_code (f29_spec).args (f29_spec).res x = f29_spec.fn x := by kernel_rfl
theorem f29_enter : Enterable Go.Proofs.Tryz.prog 29 := enter_fun Go.Proofs.Tryz.func29 (by kernel_rfl)
theorem f29_envOK : EnvOK Go.Proofs.Tryz.prog f29_env := envOK_of cds (by kernel_rfl) cfg_ok trivial trivial ⟨⟨Go.Proofs.Tryz.func29, by kernel_rfl⟩, trivial⟩ ⟨⟨Go.Proofs.Tryz.f29, f29_code, rfl, rfl, f29_l4_ok⟩, trivial⟩ trivial trivial
theorem f29_pure : PureOK Go.Proofs.Tryz.prog cfg 29 f29_spec := pure_of_run f29_envOK (fn := Go.Proofs.Tryz.f29) (c := f29_code) rfl rfl f29_spec (fun x _ h => (f29_run x).trans h)
def f30_l4_head : Ann := { env := [(0, .ty (.sl tI)), (1, .ty (.sl tI)), (5, TI)], stk := [], bxs := [] }
def f30_l4_outs : List (Ex × Ann) := [((.exit 0), { env := [], stk := [], bxs := [] }), (.ret, { env := [(4, .ty .bool)], stk := [], bxs := [] })]
def f30_l4 (t0 : (List Int)) (t1 : (List Int)) : Nat → Int → Option (outDen f30_l4_outs)
 | 0, _ => none
 | k + 1, t5 =>
  bif (decide (t5 < (t0.length : Int))) then
   bif (inR t5 t0.length) then
    bif (inR t5 t1.length) then
     let v2 : Bool := (decide ((at_ tI t0 t5) ≠ (at_ tI t1 t5)))
     bif v2 then
      some (.inr ((false, ()), (), ()))
     else
      f30_l4 t0 t1 k (IntKind.wrap .i64 (t5 + (1 : Int)))
    else none
   else none
  else
   some (.inl ((), (), ()))
def f30_l4_n (n : Nat) (x : f30_l4_head.den) := f30_l4 x.1.1 x.1.2.1 n x.1.2.2.1
def f30_l4_spec : LSpec := { thaws := [], head := f30_l4_head, outs := f30_l4_outs, fn := fun x => f30_l4_n (((x.1.1.length : Int) - x.1.2.2.1).toNat + 1) x }
def f30 (a0 : (List Int)) (a1 : (List Int)) : Option (Bool × Unit) :=
 let v1 : Bool := (decide ((a0.length : Int) ≠ (a1.length : Int)))
 bif v1 then
  some (false, ())
 else
  (f30_l4 a0 a1 (((a0.length : Int) - (0 : Int)).toNat + 1) (0 : Int)).bind fun o3 =>
  Sum.elim (fun o4 =>
   some (true, ())) (fun o5 =>
   let u6 : Bool := o5.1.1
   some (u6, ())) o3
def f30_spec : PSpec := { args := [(.sl tI), (.sl tI)], res := [.bool], fn := fun x => f30 x.1 x.2.1 }
noncomputable def f30_code : Code := Go.Proofs.Tryz.f30.body.getD .skip
noncomputable def f30_env : Env0 := { C := cfg, P := [], L := [(⟨12, 0, 30, 4⟩, f30_l4_spec)], F := [(30, Go.Proofs.Tryz.f30)], S := [], R := [], I := [], tot := [] }
theorem f30_l4_ok : LoopOK f30_env 12 30 0 (loopAt f30_code 4) f30_l4_spec :=
 loopOK_of (by kernel_rfl) f30_l4_n (fun x o h => ⟨_, h⟩) (fun x => by kernel_rfl) (fun n x => by kernel_rfl)
theorem f30_run (x : tysDen (f30_spec).args) : runF f30_env 30 Go.Proofs.Tryz.f30 f30_code (f30_spec).args (f30_spec).res x = f30_spec.fn x := by kernel_rfl
theorem f30_enter : Enterable Go.Proofs.Tryz.prog 30 := enter_fun Go.Proofs.Tryz.func30 (by kernel_rfl)
theorem f30_envOK : EnvOK Go.Proofs.Tryz.prog f30_env := envOK_of cds (by kernel_rfl) cfg_ok trivial trivial ⟨⟨Go.Proofs.Tryz.func30, by kernel_rfl⟩, trivial⟩ ⟨⟨Go.Proofs.Tryz.f30, f30_code, rfl, rfl, f30_l4_ok⟩, trivial⟩ trivial trivial
theorem f30_pure : PureOK Go.Proofs.Tryz.prog cfg 30 f30_spec := pure_of_run f30_envOK (fn := Go.Proofs.Tryz.f30) (c := f30_code) rfl rfl f30_spec (fun x _ h => (f30_run x).trans h)
def f24_l4_head : Ann := { env := [(2, cP 2), (3, cP 3), (5, TI)], stk := [], bxs := [(2, .var [.ty (.sl tV), .ty (.sl tE), .ty (.sl tI)]), (3, .var [.ty (.sl tV), .ty (.sl tE), .ty (.sl tI)])] }
def f24_l4_outs : List (Ex × Ann) := [((.exit 0), { env := [], stk := [], bxs := [] }), (.ret, { env := [(4, .ty .bool)], stk := [], bxs := [] })]
def f24_l4 (b2g0 : (List Vx)) (b2g1 : (List Ed)) (b2g2 : (List Int)) (b3g0 : (List Vx)) (b3g1 : (List Ed)) (b3g2 : (List Int)) : Nat → Int → Option (outDen f24_l4_outs)
 | 0, _ => none
 | k + 1, t5 =>
  bif (decide (t5 < (b2g0.length : Int))) then
   bif (inR t5 b2g0.length) then
    bif (inR t5 b3g0.length) then
     let v4 : Bool := (!(decide ((at_ tV b2g0 t5).1 = (at_ tV b3g0 t5).1) && (decide ((at_ tV b2g0 t5).2.1 = (at_ tV b3g0 t5).2.1) && true)))
     bif v4 then
      some (.inr ((false, ()), (), ()))
     else
      f24_l4 b2g0 b2g1 b2g2 b3g0 b3g1 b3g2 k (IntKind.wrap .i64 (t5 + (1 : Int)))
    else none
   else none
  else
   some (.inl ((), (), ()))
def f24_l4_n (n : Nat) (x : f24_l4_head.den) := f24_l4 x.2.2.1.1 x.2.2.1.2.1 x.2.2.1.2.2.1 x.2.2.2.1.1 x.2.2.2.1.2.1 x.2.2.2.1.2.2.1 n x.1.1
def f24_l4_spec : LSpec := { thaws := [], head := f24_l4_head, outs := f24_l4_outs, fn := fun x => f24_l4_n (((x.2.2.1.1.length : Int) - x.1.1).toNat + 1) x }
def f24 (a0 : Gr) (a1 : Gr) : Option (Bool × Unit) :=
 let v1 : Bool := (decide ((a0.1.length : Int) ≠ (a1.1.length : Int)))
 bif v1 then
  some (false, ())
 else
  (f29 a0.2.1 a1.2.1).bind fun y2 =>
  bif (!y2.1) then
   some (false, ())
  else
   (f30 a0.2.2.1 a1.2.2.1).bind fun y3 =>
   bif (!y3.1) then
    some (false, ())
   else
    (f24_l4 a0.1 a0.2.1 a0.2.2.1 a1.1 a1.2.1 a1.2.2.1 (((a0.1.length : Int) - (0 : Int)).toNat + 1) (0 : Int)).bind fun o5 =>
    Sum.elim (fun o6 =>
     some (true, ())) (fun o7 =>
     let u8 : Bool := o7.1.1
     some (u8, ())) o5
def f24_spec : PSpec := { args := [tG, tG], res := [.bool], fn := fun x => f24 x.1 x.2.1 }
noncomputable def f24_code : Code := Go.Proofs.Tryz.f24.body.getD .skip
noncomputable def f24_env : Env0 := { C := cfg, P := [(29, f29_spec), (30, f30_spec)], L := [(⟨12, 0, 24, 4⟩, f24_l4_spec)], F := [(24, Go.Proofs.Tryz.f24)], S := [], R := [], I := [], tot := [] }
theorem f24_l4_ok : LoopOK f24_env 12 24 0 (loopAt f24_code 4) f24_l4_spec :=
 loopOK_of (by kernel_rfl) f24_l4_n (fun x o h => ⟨_, h⟩) (fun x => by kernel_rfl) (fun n x => by kernel_rfl)
theorem f24_run (x : tysDen (f24_spec).args) : runF f24_env 24 Go.Proofs.Tryz.f24 f24_code (f24_spec).args (f24_spec).res x = f24_spec.fn x := by kernel_rfl
theorem f24_enter : Enterable Go.Proofs.Tryz.prog 24 := enter_fun Go.Proofs.Tryz.func24 (by kernel_rfl)
theorem f24_envOK : EnvOK Go.Proofs.Tryz.prog f24_env := envOK_of cds (by kernel_rfl) cfg_ok ⟨⟨f29_pure, f29_enter⟩, ⟨f30_pure, f30_enter⟩, trivial⟩ trivial ⟨⟨Go.Proofs.Tryz.func24, by kernel_rfl⟩, trivial⟩ ⟨⟨Go.Proofs.Tryz.f24, f24_code, rfl, rfl, f24_l4_ok⟩, trivial⟩ trivial trivial
theorem f24_pure : PureOK Go.Proofs.Tryz.prog cfg 24 f24_spec := pure_of_run f24_envOK (fn := Go.Proofs.Tryz.f24) (c := f24_code) rfl rfl f24_spec (fun x _ h => (f24_run x).trans h)
def f77_l3_head : Ann := { env := [(3, TI), (6, .ty (.sl tM)), (7, TI), (8, TI)], stk := [], bxs := [] }
def f77_l3_outs : List (Ex × Ann) := [((.exit 0), { env := [], stk := [], bxs := [] }), (.ret, { env := [(2, .ty .bool)], stk := [], bxs := [] })]
def f77_l3 (t6 : (List Nm)) (t7 : Int) : Nat → Int → Int → Option (outDen f77_l3_outs)
 | 0, _, _ => none
 | k + 1, t3, t8 =>
  bif (decide (t8 < t7)) then
   bif (inR t8 t6.length) then
    let v1 : Int := (at_ tM t6 t8).1
    bif (decide (v1 ≤ t3)) then
     some (.inr ((false, ()), (), ()))
    else
     let v2 : Int := (at_ tM t6 t8).1
     bif (decide (v2 ≥ (24 : Int))) then
      some (.inr ((false, ()), (), ()))
     else
      let v3 : (List Int) := (at_ tM t6 t8).2.1
      let v4 : Bool := (decide ((v3.length : Int) > (64 : Int)))
      bif v4 then
       some (.inr ((false, ()), (), ()))
      else
       let v5 : Int := (at_ tM t6 t8).1
       f77_l3 t6 t7 k v5 (IntKind.wrap .i64 (t8 + (1 : Int)))
   else none
  else
   some (.inl ((), (), ()))
def f77_l3_n (n : Nat) (x : f77_l3_head.den) := f77_l3 x.1.2.1 x.1.2.2.1 n x.1.1 x.1.2.2.2.1
def f77_l3_spec : LSpec := { thaws := [], head := f77_l3_head, outs := f77_l3_outs, fn := fun x => f77_l3_n ((x.1.2.2.1 - x.1.2.2.2.1).toNat + 1) x }
def f77 (a0 : (List Nm)) : Option (Bool × Unit) :=
 (f77_l3 a0 (a0.length : Int) (((a0.length : Int) - (0 : Int)).toNat + 1) (-1 : Int) (0 : Int)).bind fun o6 =>
 Sum.elim (fun o7 =>
  some (true, ())) (fun o8 =>
  let u9 : Bool := o8.1.1
  some (u9, ())) o6
def f77_spec : PSpec := { args := [(.sl tM)], res := [.bool], fn := fun x => f77 x.1 }
noncomputable def f77_code : Code := Go.Proofs.Tryz.f77.body.getD .skip
noncomputable def f77_env : Env0 := { C := cfg, P := [], L := [(⟨12, 0, 77, 3⟩, f77_l3_spec)], F := [(77, Go.Proofs.Tryz.f77)], S := [], R := [], I := [], tot := [] }
theorem f77_l3_ok : LoopOK f77_env 12 77 0 (loopAt f77_code 3) f77_l3_spec :=
 loopOK_of (by kernel_rfl) f77_l3_n (fun x o h => ⟨_, h⟩) (fun x => by kernel_rfl) (fun n x => by kernel_rfl)
theorem f77_run (x : tysDen (f77_spec).args) : runF f77_env 77 Go.Proofs.Tryz.f77 f77_code (f77_spec).args (f77_spec).res x = f77_spec.fn x := by kernel_rfl
theorem f77_enter : Enterable Go.Proofs.Tryz.prog 77 := enter_fun Go.Proofs.Tryz.func77 (by kernel_rfl)
theorem f77_envOK : EnvOK Go.Proofs.Tryz.prog f77_env := envOK_of cds (by kernel_rfl) cfg_ok trivial trivial ⟨⟨Go.Proofs.Tryz.func77, by kernel_rfl⟩, trivial⟩ ⟨⟨Go.Proofs.Tryz.f77, f77_code, rfl, rfl, f77_l3_ok⟩, trivial⟩ trivial trivial
theorem f77_pure : PureOK Go.Proofs.Tryz.prog cfg 77 f77_spec := pure_of_run f77_envOK (fn := Go.Proofs.Tryz.f77) (c := f77_code) rfl rfl f77_spec (fun x _ h => (f77_run x).trans h)
def f78 (a0 : (List Int)) : Option ((List Int) × Unit) :=
 bif decide (a0.length ≤ appLim) then some (a0, ()) else none
def f78_spec : PSpec := { args := [(.sl tI)], res := [(.sl tI)], fn := fun x => f78 x.1 }
noncomputable def f78_code : Code := Go.Proofs.Tryz.f78.body.getD .skip
noncomputable def f78_env : Env0 := { C := cfg, P := [], L := [], F := [(78, Go.Proofs.Tryz.f78)], S := [] }
theorem f78_run0 (x : tysDen []) : runV f78_env 78 Go.Proofs.Tryz.f78 f78_code (.nils :: tysAV [] x) [(.sl tI)] = f78_spec.fn ([], x) := by kernel_rfl
theorem f78_run1 (l : (List Int)) (x : tysDen []) : runV f78_env 78 Go.Proofs.Tryz.f78 f78_code (.nn tI l :: tysAV [] x) [(.sl tI)] = f78_spec.fn (l, x) := by kernel_rfl
theorem f78_enter : Enterable Go.Proofs.Tryz.prog 78 := enter_fun Go.Proofs.Tryz.func78 (by kernel_rfl)
theorem f78_envOK : EnvOK Go.Proofs.Tryz.prog f78_env := envOK_of cds (by kernel_rfl) cfg_ok trivial trivial ⟨⟨Go.Proofs.Tryz.func78, by kernel_rfl⟩, trivial⟩ trivial
theorem f78_pure : PureOK Go.Proofs.Tryz.prog cfg 78 f78_spec := pure_nil f78_envOK (fn := Go.Proofs.Tryz.f78) (c := f78_code) rfl rfl tI [] [(.sl tI)] f78_spec.fn (fun x y h => (f78_run0 x).trans h) (fun l x y h => (f78_run1 l x).trans h)
def f126_l2_head : Ann := { env := [(0, .ty (.sl tI)), (1, TI), (7, TI), (8, TI)], stk := [], bxs := [] }
def f126_l2_outs : List (Ex × Ann) := [((.exit 0), { env := [], stk := [], bxs := [] }), (.ret, { env := [(4, TI)], stk := [], bxs := [] })]
def f126_l2 (t0 : (List Int)) (t1 : Int) (t7 : Int) : Nat → Int → Option (outDen f126_l2_outs)
 | 0, _ => none
 | k + 1, t8 =>
  bif (decide (t8 < t7)) then
   bif (inR t8 t0.length) then
    bif (decide (t1 = (at_ tI t0 t8))) then
     some (.inr ((t8, ()), (), ()))
    else
     f126_l2 t0 t1 t7 k (IntKind.wrap .i64 (t8 + (1 : Int)))
   else none
  else
   some (.inl ((), (), ()))
def f126_l2_n (n : Nat) (x : f126_l2_head.den) := f126_l2 x.1.1 x.1.2.1 x.1.2.2.1 n x.1.2.2.2.1
def f126_l2_spec : LSpec := { thaws := [], head := f126_l2_head, outs := f126_l2_outs, fn := fun x => f126_l2_n ((x.1.2.2.1 - x.1.2.2.2.1).toNat + 1) x }
def f126 (a0 : (List Int)) (a1 : Int) : Option (Int × Unit) :=
 (f126_l2 a0 a1 (a0.length : Int) (((a0.length : Int) - (0 : Int)).toNat + 1) (0 : Int)).bind fun o1 =>
 Sum.elim (fun o2 =>
  some ((-1 : Int), ())) (fun o3 =>
  let u4 : Int := o3.1.1
  some (u4, ())) o1
def f126_spec : PSpec := { args := [(.sl tI), tI], res := [tI], fn := fun x => f126 x.1 x.2.1 }
noncomputable def f126_code : Code := Go.Proofs.Tryz.f126.body.getD .skip
noncomputable def f126_env : Env0 := { C := cfg, P := [], L := [(⟨12, 0, 126, 2⟩, f126_l2_spec)], F := [(126, Go.Proofs.Tryz.f126)], S := [], R := [], I := [], tot := [] }
theorem f126_l2_ok : LoopOK f126_env 12 126 0 (loopAt f126_code 2) f126_l2_spec :=
 loopOK_of (by kernel_rfl) f126_l2_n (fun x o h => ⟨_, h⟩) (fun x => by kernel_rfl) (fun n x => by kernel_rfl)
theorem f126_run (x : tysDen (f126_spec).args) : runF f126_env 126 Go.Proofs.Tryz.f126 f126_code (f126_spec).args (f126_spec).res x = f126_spec.fn x := by kernel_rfl
theorem f126_enter : Enterable Go.Proofs.Tryz.prog 126 := enter_fun Go.Proofs.Tryz.func126 (by kernel_rfl)
theorem f126_envOK : EnvOK Go.Proofs.Tryz.prog f126_env := envOK_of cds (by kernel_rfl) cfg_ok trivial trivial ⟨⟨Go.Proofs.Tryz.func126, by kernel_rfl⟩, trivial⟩ ⟨⟨Go.Proofs.Tryz.f126, f126_code, rfl, rfl, f126_l2_ok⟩, trivial⟩ trivial trivial
theorem f126_pure : PureOK Go.Proofs.Tryz.prog cfg 126 f126_spec := pure_of_run f126_envOK (fn := Go.Proofs.Tryz.f126) (c := f126_code) rfl rfl f126_spec (fun x _ h => (f126_run x).trans h)
def f80 (a0 : (List Int)) (a1 : Int) : Option (Bool × Unit) :=
 (f126 a0 a1).bind fun y1 =>
 some ((decide (y1.1 ≥ (0 : Int))), ())
def f80_spec : PSpec := { args := [(.sl tI), tI], res := [.bool], fn := fun x => f80 x.1 x.2.1 }
noncomputable def f80_code : Code := Go.Proofs.Tryz.f80.body.getD .skip
noncomputable def f80_env : Env0 := { C := cfg, P := [(126, f126_spec)], L := [], F := [(80, Go.Proofs.Tryz.f80)], S := [], R := [], I := [], tot := [] }
theorem f80_run (x : tysDen (f80_spec).args) : runF f80_env 80 Go.Proofs.Tryz.f80 f80_code (f80_spec).args (f80_spec).res x = f80_spec.fn x := by kernel_rfl
theorem f80_enter : Enterable Go.Proofs.Tryz.prog 80 := enter_fun Go.Proofs.Tryz.func80 (by kernel_rfl)
theorem f80_envOK : EnvOK Go.Proofs.Tryz.prog f80_env := envOK_of cds (by kernel_rfl) cfg_ok ⟨⟨f126_pure, f126_enter⟩, trivial⟩ trivial ⟨⟨Go.Proofs.Tryz.func80, by kernel_rfl⟩, trivial⟩ trivial trivial trivial
theorem f80_pure : PureOK Go.Proofs.Tryz.prog cfg 80 f80_spec := pure_of_run f80_envOK (fn := Go.Proofs.Tryz.f80) (c := f80_code) rfl rfl f80_spec (fun x _ h => (f80_run x).trans h)
def f34_l7_head : Ann := { env := [(6, cP 6), (10, cP 10), (11, .cst (.row 39 .whole)), (43, .ty (.sl tM)), (44, TI), (45, TI)], stk := [], bxs := [(6, .var [TI, TI, .cst .nils, .cst .nils, .cst .nils]), (10, .var [TI, TI, .ty (.sl tI), .ty (.sl tE), .cst (.row 62 .whole)]), (39, .row tI false), (62, .row tM false)] }
def f34_l7_outs : List (Ex × Ann) := [((.exit 0), { env := [(6, cP 6), (10, cP 10)], stk := [], bxs := [(6, .var [TI, TI, .cst .nils, .cst .nils, .cst .nils]), (10, .var [TI, TI, .ty (.sl tI), .ty (.sl tE), .cst (.row 62 .whole)]), (62, .row tM false)] })]
def f34_l7 (t43 : (List Nm)) (t44 : Int) (b6g0 : Int) (b6g1 : Int) (b10g0 : Int) (b10g1 : Int) (b10g2 : (List Int)) (b10g3 : (List Ed)) (r39 : (List Int)) : Nat → Int → (List Nm) → Option (outDen f34_l7_outs)
 | 0, _, _ => none
 | k + 1, t45, r62 =>
  bif (decide (t45 < t44)) then
   bif (inR t45 t43.length) then
    let v6 : Int := (at_ tM t43 t45).1
    (f80 r39 v6).bind fun y7 =>
    bif y7.1 then
     let v8 : Int := (at_ tM t43 t45).1
     let v9 : (List Int) := (at_ tM t43 t45).2.1
     (f78 v9).bind fun y10 =>
     bif (decide (r62.length + ([(v8, (y10.1, ()))] : List Nm).length ≤ appLim)) then f34_l7 t43 t44 b6g0 b6g1 b10g0 b10g1 b10g2 b10g3 r39 k (IntKind.wrap .i64 (t45 + (1 : Int))) (r62 ++ ([(v8, (y10.1, ()))] : List Nm)) else none
    else
     f34_l7 t43 t44 b6g0 b6g1 b10g0 b10g1 b10g2 b10g3 r39 k (IntKind.wrap .i64 (t45 + (1 : Int))) r62
   else none
  else
   some ((), (), ((b6g0, b6g1, ()), (b10g0, b10g1, b10g2, b10g3, ()), r62, ()))
def f34_l7_n (n : Nat) (x : f34_l7_head.den) := f34_l7 x.1.1 x.1.2.1 x.2.2.1.1 x.2.2.1.2.1 x.2.2.2.1.1 x.2.2.2.1.2.1 x.2.2.2.1.2.2.1 x.2.2.2.1.2.2.2.1 x.2.2.2.2.1 n x.1.2.2.1 x.2.2.2.2.2.1
def f34_l7_spec : LSpec := { thaws := [.cell 10 4 62 tM], head := f34_l7_head, outs := f34_l7_outs, fn := fun x => f34_l7_n ((x.1.2.1 - x.1.2.2.1).toNat + 1) x }
def f34 (a0 : Gr) (a1 : (List Nm)) (a2 : Int) : Option ((Vx × ((List Int) × ((List Ed) × ((List Nm) × Unit)))) × Int × Unit) :=
 (f53 a0 a2).bind fun y1 =>
 bif (!y1.2.1) then
  some (((0, (0, ())), ([], ([], ([], ())))), (60 : Int), ())
 else
  (f77 a1).bind fun y2 =>
  bif (!y2.1) then
   some (((0, (0, ())), ([], ([], ([], ())))), (60 : Int), ())
  else
   (f78 a0.2.2.1).bind fun y3 =>
   (f79 a0 a2).bind fun y4 =>
   (f31 a2 y4.1).bind fun y5 =>
   bif (decide (y5.length + ([a2] : List Int).length ≤ appLim)) then
    (f34_l7 a1 (a1.length : Int) 0 0 y1.1.1 y1.1.2.1 y3.1 y4.1 (y5 ++ ([a2] : List Int)) (((a1.length : Int) - (0 : Int)).toNat + 1) (0 : Int) []).bind fun o11 =>
    let u14 : Int := o11.2.2.2.1.1
    let u15 : Int := o11.2.2.2.1.2.1
    let u16 : (List Int) := o11.2.2.2.1.2.2.1
    let u17 : (List Ed) := o11.2.2.2.1.2.2.2.1
    let u18 : (List Nm) := o11.2.2.2.2.1
    some (((u14, (u15, ())), (u16, (u17, (u18, ())))), (0 : Int), ())
   else none
def f34_spec : PSpec := { args := [tG, (.sl tM), tI], res := [(.pair tV (.pair (.sl tI) (.pair (.sl tE) (.pair (.sl tM) .unit)))), tI], fn := fun x => f34 x.1 x.2.1 x.2.2.1 }
noncomputable def f34_code : Code := Go.Proofs.Tryz.f34.body.getD .skip
noncomputable def f34_env : Env0 := { C := cfg, P := [(53, f53_spec), (77, f77_spec), (78, f78_spec), (79, f79_spec), (80, f80_spec)], L := [(⟨12, 0, 34, 7⟩, f34_l7_spec)], F := [(34, Go.Proofs.Tryz.f34)], S := [], R := [(31, f31_spec)], I := [], tot := [] }
theorem f34_l7_ok : LoopOK f34_env 12 34 0 (loopAt f34_code 7) f34_l7_spec :=
 loopOK_of (by kernel_rfl) f34_l7_n (fun x o h => ⟨_, h⟩) (fun x => by kernel_rfl) (fun n x => by kernel_rfl)
theorem f34_run (x : tysDen (f34_spec).args) : runF f34_env 34 Go.Proofs.Tryz.f34 f34_code (f34_spec).args (f34_spec).res x = f34_spec.fn x := by kernel_rfl
theorem f34_enter : Enterable Go.Proofs.Tryz.prog 34 := enter_fun Go.Proofs.Tryz.func34 (by kernel_rfl)
theorem f34_envOK : EnvOK Go.Proofs.Tryz.prog f34_env := envOK_of cds (by kernel_rfl) cfg_ok ⟨⟨f53_pure, f53_enter⟩, ⟨f77_pure, f77_enter⟩, ⟨f78_pure, f78_enter⟩, ⟨f79_pure, f79_enter⟩, ⟨f80_pure, f80_enter⟩, trivial⟩ trivial ⟨⟨Go.Proofs.Tryz.func34, by kernel_rfl⟩, trivial⟩ ⟨⟨Go.Proofs.Tryz.f34, f34_code, rfl, rfl, f34_l7_ok⟩, trivial⟩ ⟨⟨f31_fresh, f31_enter⟩, trivial⟩ trivial
theorem f34_pure : PureOK Go.Proofs.Tryz.prog cfg 34 f34_spec := pure_of_run f34_envOK (fn := Go.Proofs.Tryz.f34) (c := f34_code) rfl rfl f34_spec (fun x _ h => (f34_run x).trans h)
def f45 (a0 : Int) (a1 : Int) : Option (Int × Unit) :=
 bif (decide (a0 < (0 : Int))) then
  let v1 : Int := (IntKind.wrap .i64 (0 - (IntKind.wrap .i64 (a0 + (1 : Int)))))
  bif (decide (a1 ≠ 0)) then some ((Int.tmod v1 a1), ()) else none
 else
  bif (decide (a1 ≠ 0)) then some ((Int.tmod a0 a1), ()) else none
def f45_spec : PSpec := { args := [tI, tI], res := [tI], fn := fun x => f45 x.1 x.2.1 }
noncomputable def f45_code : Code := Go.Proofs.Tryz.f45.body.getD .skip
noncomputable def f45_env : Env0 := { C := cfg, P := [], L := [], F := [(45, Go.Proofs.Tryz.f45)], S := [], R := [], I := [], tot := [] }
theorem f45_run (x : tysDen (f45_spec).args) : runF f45_env 45 Go.Proofs.Tryz.f45 f45_code (f45_spec).args (f45_spec).res x = f45_spec.fn x := by kernel_rfl
theorem f45_enter : Enterable Go.Proofs.Tryz.prog 45 := enter_fun Go.Proofs.Tryz.func45 (by kernel_rfl)
theorem f45_envOK : EnvOK Go.Proofs.Tryz.prog f45_env := envOK_of cds (by kernel_rfl) cfg_ok trivial trivial ⟨⟨Go.Proofs.Tryz.func45, by kernel_rfl⟩, trivial⟩ trivial trivial trivial
theorem f45_pure : PureOK Go.Proofs.Tryz.prog cfg 45 f45_spec := pure_of_run f45_envOK (fn := Go.Proofs.Tryz.f45) (c := f45_code) rfl rfl f45_spec (fun x _ h => (f45_run x).trans h)
def f12_l6_head : Ann := { env := [(0, TI), (1, .ty (.sl (.arr 5 tI))), (2, .ty .bool), (6, cP 6), (7, cP 7), (8, TI), (9, TI)], stk := [], bxs := [(6, .var [.cst .nils, .cst .nils, .cst .nils]), (7, .var [.cst (.row 54 .whole), .cst .nils, .cst .nils]), (54, .row tV false)] }
def f12_l6_outs : List (Ex × Ann) := [((.exit 0), { env := [(0, TI), (1, .ty (.sl (.arr 5 tI))), (6, cP 6), (7, cP 7), (8, TI)], stk := [], bxs := [(6, .var [.cst .nils, .cst .nils, .cst .nils]), (7, .var [.cst (.row 54 .whole), .cst .nils, .cst .nils]), (54, .row tV false)] })]
def f12_l6 (t0 : Int) (t1 : (List (List Int))) (t2 : Bool) (t8 : Int) : Nat → Int → (List Vx) → Option (outDen f12_l6_outs)
 | 0, _, _ => none
 | k + 1, t9, r54 =>
  bif (decide (t9 < t8)) then
   bif (!t2) then
    let v3 : Int := (IntKind.wrap .i64 (Int.tdiv t0 (8 : Int)))
    (f45 v3 (2 : Int)).bind fun y4 =>
    bif (decide (y4.1 = (1 : Int))) then
     let v5 : Int := (IntKind.wrap .i64 (Int.tdiv t9 (2 : Int)))
     let v6 : Int := (IntKind.wrap .i64 (Int.tdiv t0 (16 : Int)))
     let v7 : Int := (IntKind.wrap .i64 (Int.tdiv t0 (64 : Int)))
     (f45 v7 (3 : Int)).bind fun y8 =>
     let v9 : Int := (IntKind.wrap .i64 (t9 * (IntKind.wrap .i64 ((1 : Int) + y8.1))))
     (f45 (IntKind.wrap .i64 (v6 + v9)) (4 : Int)).bind fun y10 =>
     bif (decide (r54.length + ([((IntKind.wrap .i64 (t9 + v5)), (y10.1, ()))] : List Vx).length ≤ appLim)) then f12_l6 t0 t1 t2 t8 k (IntKind.wrap .i64 (t9 + (1 : Int))) (r54 ++ ([((IntKind.wrap .i64 (t9 + v5)), (y10.1, ()))] : List Vx)) else none
    else
     let v11 : Int := (IntKind.wrap .i64 (Int.tdiv t0 (16 : Int)))
     let v12 : Int := (IntKind.wrap .i64 (Int.tdiv t0 (64 : Int)))
     (f45 v12 (3 : Int)).bind fun y13 =>
     let v14 : Int := (IntKind.wrap .i64 (t9 * (IntKind.wrap .i64 ((1 : Int) + y13.1))))
     (f45 (IntKind.wrap .i64 (v11 + v14)) (4 : Int)).bind fun y15 =>
     bif (decide (r54.length + ([(t9, (y15.1, ()))] : List Vx).length ≤ appLim)) then f12_l6 t0 t1 t2 t8 k (IntKind.wrap .i64 (t9 + (1 : Int))) (r54 ++ ([(t9, (y15.1, ()))] : List Vx)) else none
   else
    let v16 : Int := (IntKind.wrap .i64 (Int.tdiv t0 (16 : Int)))
    let v17 : Int := (IntKind.wrap .i64 (Int.tdiv t0 (64 : Int)))
    (f45 v17 (3 : Int)).bind fun y18 =>
    let v19 : Int := (IntKind.wrap .i64 (t9 * (IntKind.wrap .i64 ((1 : Int) + y18.1))))
    (f45 (IntKind.wrap .i64 (v16 + v19)) (4 : Int)).bind fun y20 =>
    bif (decide (r54.length + ([(t9, (y20.1, ()))] : List Vx).length ≤ appLim)) then f12_l6 t0 t1 t2 t8 k (IntKind.wrap .i64 (t9 + (1 : Int))) (r54 ++ ([(t9, (y20.1, ()))] : List Vx)) else none
  else
   some ((t0, t1, t8, ()), (), ((), (), r54, ()))
def f12_l6_n (n : Nat) (x : f12_l6_head.den) := f12_l6 x.1.1 x.1.2.1 x.1.2.2.1 x.1.2.2.2.1 n x.1.2.2.2.2.1 x.2.2.2.2.1
def f12_l6_spec : LSpec := { thaws := [.cell 7 0 54 tV], head := f12_l6_head, outs := f12_l6_outs, fn := fun x => f12_l6_n ((x.1.2.2.2.1 - x.1.2.2.2.2.1).toNat + 1) x }
def f12_l13_head : Ann := { env := [(0, TI), (1, .ty (.sl (.arr 5 tI))), (6, cP 6), (7, cP 7), (8, TI), (11, TI)], stk := [], bxs := [(6, .var [.cst .nils, .cst .nils, .cst .nils]), (7, .var [.cst (.row 54 .whole), .cst (.row 135 .whole), .cst .nils]), (54, .row tV false), (135, .row tE false)] }
def f12_l13_outs : List (Ex × Ann) := [((.exit 2), { env := [(0, TI), (6, cP 6), (7, cP 7), (8, TI)], stk := [], bxs := [(6, .var [.cst .nils, .cst .nils, .cst .nils]), (7, .var [.cst (.row 54 .whole), .cst (.row 135 .whole), .cst .nils]), (54, .row tV false), (135, .row tE false)] })]
def f12_l13 (t0 : Int) (t1 : (List (List Int))) (t8 : Int) (r54 : (List Vx)) : Nat → Int → (List Ed) → Option (outDen f12_l13_outs)
 | 0, _, _ => none
 | k + 1, t11, r135 =>
  bif (decide (t11 < (t1.length : Int))) then
   bif (decide (t11 < (20 : Int))) then
    let v26 : Int := (IntKind.wrap .i64 (Int.tdiv t0 (4 : Int)))
    (f45 v26 (20 : Int)).bind fun y27 =>
    bif (inR t11 t1.length) then
     bif (inR (0 : Int) 5) then
      let v28 : Int := (at_ tI (at_ (.arr 5 tI) t1 t11) (0 : Int))
      (f45 v28 t8).bind fun y29 =>
      bif (inR y29.1 r54.length) then
       let v30 : Int := (at_ tV r54 y29.1).1
       bif (inR t11 t1.length) then
        bif (inR (1 : Int) 5) then
         let v31 : Int := (at_ tI (at_ (.arr 5 tI) t1 t11) (1 : Int))
         (f45 v31 t8).bind fun y32 =>
         bif (inR y32.1 r54.length) then
          let v33 : Int := (at_ tV r54 y32.1).1
          bif (inR t11 t1.length) then
           bif (inR (2 : Int) 5) then
            let v34 : Int := (at_ tI (at_ (.arr 5 tI) t1 t11) (2 : Int))
            (f45 v34 (2 : Int)).bind fun y35 =>
            bif (inR t11 t1.length) then
             bif (inR (3 : Int) 5) then
              let v36 : Int := (at_ tI (at_ (.arr 5 tI) t1 t11) (3 : Int))
              (f45 v36 (12 : Int)).bind fun y37 =>
              bif (inR t11 t1.length) then
               bif (inR (4 : Int) 5) then
                let v38 : Int := (at_ tI (at_ (.arr 5 tI) t1 t11) (4 : Int))
                (f45 v38 (6 : Int)).bind fun y39 =>
                bif (inR t11 t1.length) then
                 bif (inR (4 : Int) 5) then
                  let v40 : Int := (at_ tI (at_ (.arr 5 tI) t1 t11) (4 : Int))
                  (f45 v40 (11 : Int)).bind fun y41 =>
                  bif (decide (y41.1 = (10 : Int))) then
                   bif (inR t11 t1.length) then
                    bif (inR (3 : Int) 5) then
                     let v42 : Int := (at_ tI (at_ (.arr 5 tI) t1 t11) (3 : Int))
                     (f45 v42 (2001 : Int)).bind fun y43 =>
                     let v44 : Int := (IntKind.wrap .i64 (y43.1 - (1000 : Int)))
                     bif (decide (r135.length + ([((IntKind.wrap .i64 (t11 + y27.1)), (v30, (v33, ((decide (y35.1 = (1 : Int))), (v44, (y39.1, ()))))))] : List Ed).length ≤ appLim)) then f12_l13 t0 t1 t8 r54 k (IntKind.wrap .i64 (t11 + (1 : Int))) (r135 ++ ([((IntKind.wrap .i64 (t11 + y27.1)), (v30, (v33, ((decide (y35.1 = (1 : Int))), (v44, (y39.1, ()))))))] : List Ed)) else none
                    else none
                   else none
                  else
                   bif (decide (r135.length + ([((IntKind.wrap .i64 (t11 + y27.1)), (v30, (v33, ((decide (y35.1 = (1 : Int))), ((IntKind.wrap .i64 (y37.1 - (3 : Int))), (y39.1, ()))))))] : List Ed).length ≤ appLim)) then f12_l13 t0 t1 t8 r54 k (IntKind.wrap .i64 (t11 + (1 : Int))) (r135 ++ ([((IntKind.wrap .i64 (t11 + y27.1)), (v30, (v33, ((decide (y35.1 = (1 : Int))), ((IntKind.wrap .i64 (y37.1 - (3 : Int))), (y39.1, ()))))))] : List Ed)) else none
                 else none
                else none
               else none
              else none
             else none
            else none
           else none
          else none
         else none
        else none
       else none
      else none
     else none
    else none
   else
    some ((t0, t8, ()), (), ((), (), r54, r135, ()))
  else
   some ((t0, t8, ()), (), ((), (), r54, r135, ()))
def f12_l13_n (n : Nat) (x : f12_l13_head.den) := f12_l13 x.1.1 x.1.2.1 x.1.2.2.1 x.2.2.2.2.1 n x.1.2.2.2.1 x.2.2.2.2.2.1
def f12_l13_spec : LSpec := { thaws := [.cell 7 1 135 tE], head := f12_l13_head, outs := f12_l13_outs, fn := fun x => f12_l13_n (((x.1.2.1.length : Int) - x.1.2.2.2.1).toNat + 1) x }
def f12_l20_head : Ann := { env := [(0, TI), (6, cP 6), (7, cP 7), (8, TI), (13, TI)], stk := [], bxs := [(6, .var [.cst .nils, .cst .nils, .cst .nils]), (7, .var [.cst (.row 54 .whole), .cst (.row 135 .whole), .cst (.row 158 .whole)]), (54, .row tV false), (135, .row tE false), (158, .row tI false)] }
def f12_l20_outs : List (Ex × Ann) := [((.exit 4), { env := [(6, cP 6), (7, cP 7)], stk := [], bxs := [(6, .var [.cst .nils, .cst .nils, .cst .nils]), (7, .var [.cst (.row 54 .whole), .cst (.row 135 .whole), .cst (.row 158 .whole)]), (54, .row tV false), (135, .row tE false), (158, .row tI false)] })]
def f12_l20 (t0 : Int) (t8 : Int) (r54 : (List Vx)) (r135 : (List Ed)) : Nat → Int → (List Int) → Option (outDen f12_l20_outs)
 | 0, _, _ => none
 | k + 1, t13, r158 =>
  let v50 : Int := (IntKind.wrap .i64 (Int.tdiv t0 (32 : Int)))
  (f45 v50 (4 : Int)).bind fun y51 =>
  bif (decide (t13 < y51.1)) then
   bif (decide (t13 < t8)) then
    bif (inR t13 r54.length) then
     let v52 : Int := (at_ tV r54 t13).1
     bif (decide (r158.length + ([v52] : List Int).length ≤ appLim)) then f12_l20 t0 t8 r54 r135 k (IntKind.wrap .i64 (t13 + (1 : Int))) (r158 ++ ([v52] : List Int)) else none
    else none
   else
    some ((), (), ((), (), r54, r135, r158, ()))
  else
   some ((), (), ((), (), r54, r135, r158, ()))
def f12_l20_n (n : Nat) (x : f12_l20_head.den) := f12_l20 x.1.1 x.1.2.1 x.2.2.2.2.1 x.2.2.2.2.2.1 n x.1.2.2.1 x.2.2.2.2.2.2.1
def f12_l20_spec : LSpec := { thaws := [.cell 7 2 158 tI], head := f12_l20_head, outs := f12_l20_outs, fn := fun x => f12_l20_n ((x.1.2.1 - x.1.2.2.1).toNat + 1) x }
def f12 (a0 : Int) (a1 : (List (List Int))) (a2 : Bool) : Option (Gr × Unit) :=
 (f45 a0 (8 : Int)).bind fun y1 =>
 bif a2 then
  let v2 : Int := (IntKind.wrap .i64 ((IntKind.wrap .i64 ((1 : Int) + y1.1)) + (10 : Int)))
  (f12_l6 a0 a1 a2 v2 ((v2 - (0 : Int)).toNat + 1) (0 : Int) []).bind fun o21 =>
  let u22 : Int := o21.1.1
  let u23 : (List (List Int)) := o21.1.2.1
  let u24 : Int := o21.1.2.2.1
  let u25 : (List Vx) := o21.2.2.2.2.1
  (f12_l13 u22 u23 u24 u25 (((u23.length : Int) - (0 : Int)).toNat + 1) (0 : Int) []).bind fun o45 =>
  let u46 : Int := o45.1.1
  let u47 : Int := o45.1.2.1
  let u48 : (List Vx) := o45.2.2.2.2.1
  let u49 : (List Ed) := o45.2.2.2.2.2.1
  (f12_l20 u46 u47 u48 u49 ((u47 - (0 : Int)).toNat + 1) (0 : Int) []).bind fun o53 =>
  let u54 : (List Vx) := o53.2.2.2.2.1
  let u55 : (List Ed) := o53.2.2.2.2.2.1
  let u56 : (List Int) := o53.2.2.2.2.2.2.1
  some ((u54, (u55, (u56, ()))), ())
 else
  (f12_l6 a0 a1 a2 (IntKind.wrap .i64 ((1 : Int) + y1.1)) (((IntKind.wrap .i64 ((1 : Int) + y1.1)) - (0 : Int)).toNat + 1) (0 : Int) []).bind fun o75 =>
  let u76 : Int := o75.1.1
  let u77 : (List (List Int)) := o75.1.2.1
  let u78 : Int := o75.1.2.2.1
  let u79 : (List Vx) := o75.2.2.2.2.1
  (f12_l13 u76 u77 u78 u79 (((u77.length : Int) - (0 : Int)).toNat + 1) (0 : Int) []).bind fun o99 =>
  let u100 : Int := o99.1.1
  let u101 : Int := o99.1.2.1
  let u102 : (List Vx) := o99.2.2.2.2.1
  let u103 : (List Ed) := o99.2.2.2.2.2.1
  (f12_l20 u100 u101 u102 u103 ((u101 - (0 : Int)).toNat + 1) (0 : Int) []).bind fun o107 =>
  let u108 : (List Vx) := o107.2.2.2.2.1
  let u109 : (List Ed) := o107.2.2.2.2.2.1
  let u110 : (List Int) := o107.2.2.2.2.2.2.1
  some ((u108, (u109, (u110, ()))), ())
def f12_spec : PSpec := { args := [tI, (.sl (.arr 5 tI)), .bool], res := [tG], fn := fun x => f12 x.1 x.2.1 x.2.2.1 }
noncomputable def f12_code : Code := Go.Proofs.Tryz.f12.body.getD .skip
noncomputable def f12_env : Env0 := { C := cfg, P := [(45, f45_spec)], L := [(⟨12, 0, 12, 6⟩, f12_l6_spec), (⟨12, 0, 12, 13⟩, f12_l13_spec), (⟨12, 0, 12, 20⟩, f12_l20_spec)], F := [(12, Go.Proofs.Tryz.f12)], S := [], R := [], I := [], tot := [] }
theorem f12_l6_ok : LoopOK f12_env 12 12 0 (loopAt f12_code 6) f12_l6_spec :=
 loopOK_of (by kernel_rfl) f12_l6_n (fun x o h => ⟨_, h⟩) (fun x => by kernel_rfl) (fun n x => by kernel_rfl)
theorem f12_l13_ok : LoopOK f12_env 12 12 0 (loopAt f12_code 13) f12_l13_spec :=
 loopOK_of (by kernel_rfl) f12_l13_n (fun x o h => ⟨_, h⟩) (fun x => by kernel_rfl) (fun n x => by kernel_rfl)
theorem f12_l20_ok : LoopOK f12_env 12 12 0 (loopAt f12_code 20) f12_l20_spec :=
 loopOK_of (by kernel_rfl) f12_l20_n (fun x o h => ⟨_, h⟩) (fun x => by kernel_rfl) (fun n x => by kernel_rfl)
theorem f12_run (x : tysDen (f12_spec).args) : runF f12_env 12 Go.Proofs.Tryz.f12 f12_code (f12_spec).args (f12_spec).res x = f12_spec.fn x := by kernel_rfl
theorem f12_enter : Enterable Go.Proofs.Tryz.prog 12 := enter_fun Go.Proofs.Tryz.func12 (by kernel_rfl)
theorem f12_envOK : EnvOK Go.Proofs.Tryz.prog f12_env := envOK_of cds (by kernel_rfl) cfg_ok ⟨⟨f45_pure, f45_enter⟩, trivial⟩ trivial ⟨⟨Go.Proofs.Tryz.func12, by kernel_rfl⟩, trivial⟩ ⟨⟨Go.Proofs.Tryz.f12, f12_code, rfl, rfl, f12_l6_ok⟩, ⟨Go.Proofs.Tryz.f12, f12_code, rfl, rfl, f12_l13_ok⟩, ⟨Go.Proofs.Tryz.f12, f12_code, rfl, rfl, f12_l20_ok⟩, trivial⟩ trivial trivial
theorem f12_pure : PureOK Go.Proofs.Tryz.prog cfg 12 f12_spec := pure_of_run f12_envOK (fn := Go.Proofs.Tryz.f12) (c := f12_code) rfl rfl f12_spec (fun x _ h => (f12_run x).trans h)
def f55_l2_outs : List (Ex × Ann) := [((.exit 0), { env := [], stk := [], bxs := [] }), (.ret, { env := [(4, TI)], stk := [], bxs := [] })]
def f55_l2 (t1 : Int) (b2g0 : (List Vx)) (b2g1 : (List Ed)) (b2g2 : (List Int)) : Nat → Int → Option (outDen f55_l2_outs)
 | 0, _ => none
 | k + 1, t5 =>
  bif (decide (t5 < (b2g0.length : Int))) then
   bif (inR t5 b2g0.length) then
    let v1 : Int := (at_ tV b2g0 t5).1
    bif (decide (v1 = t1)) then
     some (.inr ((t5, ()), (), ()))
    else
     f55_l2 t1 b2g0 b2g1 b2g2 k (IntKind.wrap .i64 (t5 + (1 : Int)))
   else none
  else
   some (.inl ((), (), ()))
def f55 (a0 : Gr) (a1 : Int) : Option (Int × Unit) :=
 (f55_l2 a1 a0.1 a0.2.1 a0.2.2.1 (((a0.1.length : Int) - (0 : Int)).toNat + 1) (0 : Int)).bind fun o2 =>
 Sum.elim (fun o3 =>
  some ((-1 : Int), ())) (fun o4 =>
  let u5 : Int := o4.1.1
  some (u5, ())) o2
def f171 (a0 : Int) (a1 : Int) (a2 : Int) : Option (Bool × Unit) :=
 bif (decide (a0 ≥ a1)) then
  some ((decide (a0 ≤ a2)), ())
 else
  some (false, ())
def f111 (a0 : Vx) : Option (Bool × Unit) :=
 (f171 a0.1 (0 : Int) (23 : Int)).bind fun y1 =>
 bif y1.1 then
  (f171 a0.2.1 (0 : Int) (3 : Int)).bind fun y2 =>
  some (y2.1, ())
 else
  some (false, ())
def f112 (a0 : Ed) : Option (Bool × Unit) :=
 (f171 a0.1 (0 : Int) (39 : Int)).bind fun y1 =>
 bif y1.1 then
  (f171 a0.2.1 (0 : Int) (23 : Int)).bind fun y2 =>
  bif y2.1 then
   (f171 a0.2.2.1 (0 : Int) (23 : Int)).bind fun y3 =>
   bif y3.1 then
    (f171 a0.2.2.2.2.1 (-1000 : Int) (1000 : Int)).bind fun y4 =>
    bif y4.1 then
     (f171 a0.2.2.2.2.2.1 (0 : Int) (1000 : Int)).bind fun y5 =>
     some (y5.1, ())
    else
     some (false, ())
   else
    some (false, ())
  else
   some (false, ())
 else
  some (false, ())
def f48_l2_outs : List (Ex × Ann) := [((.exit 0), { env := [(1, cP 1)], stk := [], bxs := [(1, .var [.ty (.sl tV), .ty (.sl tE), .ty (.sl tI)])] }), (.ret, { env := [(2, .ty .bool)], stk := [], bxs := [] })]
def f48_l2 (b1g0 : (List Vx)) (b1g1 : (List Ed)) (b1g2 : (List Int)) : Nat → Int → Option (outDen f48_l2_outs)
 | 0, _ => none
 | k + 1, t3 =>
  bif (decide (t3 < (b1g0.length : Int))) then
   bif (inR t3 b1g0.length) then
    (f111 (at_ tV b1g0 t3)).bind fun y1 =>
    bif (!y1.1) then
     some (.inr ((false, ()), (), ()))
    else
     bif (decide (t3 > (0 : Int))) then
      bif (inR t3 b1g0.length) then
       let v2 : Int := (at_ tV b1g0 t3).1
       bif (inR (IntKind.wrap .i64 (t3 - (1 : Int))) b1g0.length) then
        let v3 : Int := (at_ tV b1g0 (IntKind.wrap .i64 (t3 - (1 : Int)))).1
        bif (decide (v2 ≤ v3)) then
         some (.inr ((false, ()), (), ()))
        else
         f48_l2 b1g0 b1g1 b1g2 k (IntKind.wrap .i64 (t3 + (1 : Int)))
       else none
      else none
     else
      f48_l2 b1g0 b1g1 b1g2 k (IntKind.wrap .i64 (t3 + (1 : Int)))
   else none
  else
   some (.inl ((), (), ((b1g0, b1g1, b1g2, ()), ())))
def f48_l7_outs : List (Ex × Ann) := [((.exit 2), { env := [(1, cP 1)], stk := [], bxs := [(1, .var [.ty (.sl tV), .ty (.sl tE), .ty (.sl tI)])] }), (.ret, { env := [(2, .ty .bool)], stk := [], bxs := [] })]
def f48_l7 (b1g0 : (List Vx)) (b1g1 : (List Ed)) (b1g2 : (List Int)) : Nat → Int → Option (outDen f48_l7_outs)
 | 0, _ => none
 | k + 1, t4 =>
  bif (decide (t4 < (b1g1.length : Int))) then
   bif (inR t4 b1g1.length) then
    (f112 (at_ tE b1g1 t4)).bind fun y10 =>
    bif (!y10.1) then
     some (.inr ((false, ()), (), ()))
    else
     bif (decide (t4 > (0 : Int))) then
      let v11 : Int := (at_ tE b1g1 t4).1
      bif (inR (IntKind.wrap .i64 (t4 - (1 : Int))) b1g1.length) then
       let v12 : Int := (at_ tE b1g1 (IntKind.wrap .i64 (t4 - (1 : Int)))).1
       bif (decide (v11 ≤ v12)) then
        some (.inr ((false, ()), (), ()))
       else
        let v13 : Int := (at_ tE b1g1 t4).2.1
        (f55 (b1g0, (b1g1, (b1g2, ()))) v13).bind fun y14 =>
        bif (decide (y14.1 < (0 : Int))) then
         some (.inr ((false, ()), (), ()))
        else
         let v15 : Int := (at_ tE b1g1 t4).2.2.1
         (f55 (b1g0, (b1g1, (b1g2, ()))) v15).bind fun y16 =>
         bif (decide (y16.1 < (0 : Int))) then
          some (.inr ((false, ()), (), ()))
         else
          f48_l7 b1g0 b1g1 b1g2 k (IntKind.wrap .i64 (t4 + (1 : Int)))
      else none
     else
      let v17 : Int := (at_ tE b1g1 t4).2.1
      (f55 (b1g0, (b1g1, (b1g2, ()))) v17).bind fun y18 =>
      bif (decide (y18.1 < (0 : Int))) then
       some (.inr ((false, ()), (), ()))
      else
       let v19 : Int := (at_ tE b1g1 t4).2.2.1
       (f55 (b1g0, (b1g1, (b1g2, ()))) v19).bind fun y20 =>
       bif (decide (y20.1 < (0 : Int))) then
        some (.inr ((false, ()), (), ()))
       else
        f48_l7 b1g0 b1g1 b1g2 k (IntKind.wrap .i64 (t4 + (1 : Int)))
   else none
  else
   some (.inl ((), (), ((b1g0, b1g1, b1g2, ()), ())))
def f48_l13_outs : List (Ex × Ann) := [((.exit 4), { env := [(1, cP 1)], stk := [], bxs := [(1, .var [.ty (.sl tV), .ty (.sl tE), .ty (.sl tI)])] }), (.ret, { env := [(2, .ty .bool)], stk := [], bxs := [] })]
def f48_l13 (b1g0 : (List Vx)) (b1g1 : (List Ed)) (b1g2 : (List Int)) : Nat → Int → Option (outDen f48_l13_outs)
 | 0, _ => none
 | k + 1, t6 =>
  bif (decide (t6 < (b1g2.length : Int))) then
   bif (inR t6 b1g2.length) then
    (f55 (b1g0, (b1g1, (b1g2, ()))) (at_ tI b1g2 t6)).bind fun y27 =>
    bif (decide (y27.1 < (0 : Int))) then
     some (.inr ((false, ()), (), ()))
    else
     bif (decide (t6 > (0 : Int))) then
      bif (inR t6 b1g2.length) then
       bif (inR (IntKind.wrap .i64 (t6 - (1 : Int))) b1g2.length) then
        let v28 : Int := (at_ tI b1g2 (IntKind.wrap .i64 (t6 - (1 : Int))))
        let v29 : Bool := (decide ((at_ tI b1g2 t6) ≤ v28))
        bif v29 then
         some (.inr ((false, ()), (), ()))
        else
         f48_l13 b1g0 b1g1 b1g2 k (IntKind.wrap .i64 (t6 + (1 : Int)))
       else none
      else none
     else
      f48_l13 b1g0 b1g1 b1g2 k (IntKind.wrap .i64 (t6 + (1 : Int)))
   else none
  else
   some (.inl ((), (), ((b1g0, b1g1, b1g2, ()), ())))
def f48 (a0 : Gr) : Option (Bool × Unit) :=
 (f48_l2 a0.1 a0.2.1 a0.2.2.1 (((a0.1.length : Int) - (0 : Int)).toNat + 1) (0 : Int)).bind fun o4 =>
 Sum.elim (fun o5 =>
  let u7 : (List Vx) := o5.2.2.1.1
  let u8 : (List Ed) := o5.2.2.1.2.1
  let u9 : (List Int) := o5.2.2.1.2.2.1
  (f48_l7 u7 u8 u9 (((u8.length : Int) - (0 : Int)).toNat + 1) (0 : Int)).bind fun o21 =>
  Sum.elim (fun o22 =>
   let u24 : (List Vx) := o22.2.2.1.1
   let u25 : (List Ed) := o22.2.2.1.2.1
   let u26 : (List Int) := o22.2.2.1.2.2.1
   (f48_l13 u24 u25 u26 (((u26.length : Int) - (0 : Int)).toNat + 1) (0 : Int)).bind fun o30 =>
   Sum.elim (fun o31 =>
    let u35 : (List Int) := o31.2.2.1.2.2.1
    let v36 : Bool := (decide ((u35.length : Int) ≤ (3 : Int)))
    some (v36, ())) (fun o32 =>
    let u37 : Bool := o32.1.1
    some (u37, ())) o30) (fun o23 =>
   let u38 : Bool := o23.1.1
   some (u38, ())) o21) (fun o6 =>
  let u39 : Bool := o6.1.1
  some (u39, ())) o4
end Go.V.G
