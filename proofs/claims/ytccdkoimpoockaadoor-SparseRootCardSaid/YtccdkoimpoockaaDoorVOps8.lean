/- append. -/
import Derived.Test.YtccdkoimpoockaaDoorVOps7
set_option linter.all false
set_option linter.unusedVariables false
set_option linter.unusedSectionVars false
set_option linter.unusedSimpArgs false
namespace Go.V
variable [Codes]
section
variable {C : Cfg} {P : Program}

/-- What an operand of append or copy gives: so many elements, these cells, in whatever later world. -/
structure Gives (P : Program) (w : World) (size : Nat) (y : Value) (n : Nat) (news : List Value) : Prop where
  len : ∀ w', (Builtin.lenOf y).run P w' = .ok n w'
  cells : ∀ w', (∀ b, b < w.heap.size → w'.heap[b]? = w.heap[b]?) → ∀ k, k ≤ n → (Builtin.firstCells size k y).run P w' = .ok (news.take (k * size)).toArray w'

theorem CellsAt.grow {w w' : World} (hw : ∀ b, b < w.heap.size → w'.heap[b]? = w.heap[b]?) {blk off : Nat} {cs : List Value} (h : CellsAt w blk off cs) : CellsAt w' blk off cs := fun j v e => by
  have h1 := h j v e
  rw [← h1]
  exact World.cell?_of_block (hw blk (World.block_lt_of_cell? w _ h1))

theorem gives_slice {w : World} {size blk off n c : Nat} {cs : List Value} (h : CellsAt w blk off cs) (hl : cs.length = n * size) : Gives P w size (.slice (some ⟨blk, off, none⟩) n c) n cs :=
  ⟨fun w' => rfl, fun w' hw k hk => by
    have h1 := (h.grow hw).take (k * size)
    have h2 : (cs.take (k * size)).length = k * size := by
      rw [List.length_take, hl]
      exact Nat.min_eq_left (Nat.mul_le_mul_right _ hk)
    have h3 := run_loadCells' (P := P) h1
    rw [h2] at h3
    exact h3⟩

theorem gives_nil {w : World} {size n c : Nat} (_hn : n = 0) : Gives P w size (.slice none n c) n [] :=
  ⟨fun w' => rfl, fun w' hw k hk => by simp [Builtin.firstCells]⟩

theorem toBytes_length (s : ByteArray) : (toBytes s).length = s.size := by
  simp [toBytes]

theorem gives_str {w : World} (s : ByteArray) : Gives P w 1 (.string s) s.size ((toBytes s).map (Value.int .u8)) :=
  ⟨fun w' => rfl, fun w' hw k hk => by
    simp only [Builtin.firstCells, Sem.run_pure, Nat.mul_one]
    congr 1
    apply Array.ext'
    simp only [Array.toList_map, toBytes, List.map_map, ← List.map_take]
    have : (s.extract 0 k).data.toList = s.data.toList.take k := by
      simp [ByteArray.extract, ByteArray.copySlice]
    rw [this]
    rfl⟩

/-- A slice's or a string's type. -/
def slStr (d : TypeDesc) : Prop := d = .string ∨ ∃ e, d = .slice e

/-- append where there is room, or nothing to append. -/
theorem run_append_in {w w' : World} {t yt ty e : TypeId} {i : TypeInfo} {d : TypeDesc} (ht : P.underlying t = some (.slice e)) (hyt : P.underlying yt = some d) (hd : slStr d) (hi : P.info? e = some i)
    {base : Option Addr} {n c k : Nat} {y : Value} {news : List Value} (hy : Gives P w i.size y k news) (hl : news.length = k * i.size) (hroom : n + k ≤ c)
    (hst : match base with | some a => (storeCells (a.add (n * i.size)) news).run P w = .ok () w' | none => w' = w) :
    (Builtin.append_ #[t, yt] ty #[.slice base n c, y]).run P w = .ok (.slice base (n + k) c) w' := by
  have h1 := hy.len w
  have h2 := hy.cells w (fun _ _ => rfl) k (Nat.le_refl _)
  rw [← hl, List.take_length] at h2
  cases base with
  | none =>
    simp only at hst
    subst hst
    rcases hd with rfl | ⟨e2, rfl⟩ <;>
    simp [Builtin.append_, run_underlying ht, run_underlying hyt, sizeOf, typeInfo, hi, h1, h2, hroom]
  | some a =>
    simp only at hst
    rcases hd with rfl | ⟨e2, rfl⟩ <;>
    simp [Builtin.append_, run_underlying ht, run_underlying hyt, sizeOf, typeInfo, hi, h1, h2, hroom, hst]

/-- append where there is no room. -/
theorem run_append_out {w : World} {t yt ty e : TypeId} {i : TypeInfo} {d : TypeDesc} {z : Value} (ht : P.underlying t = some (.slice e)) (hyt : P.underlying yt = some d) (hd : slStr d) (hi : P.info? e = some i) (hz : i.zero = some z)
    {base : Option Addr} {n c k : Nat} {y : Value} {olds news : List Value} (ho : Gives P w i.size (.slice base n c) n olds) (hol : olds.length = n * i.size) (hy : Gives P w i.size y k news) (hl : news.length = k * i.size) (hroom : c < n + k)
    (h63 : ((n + k : Nat) : Int) ≤ 9223372036854775807) (hfit : Builtin.nextslicecap (n + k) c * i.bytes ≤ 281474976710656) :
    (Builtin.append_ #[t, yt] ty #[.slice base n c, y]).run P w =
      .ok (.slice (some ⟨w.heap.size, 0, none⟩) (n + k) (grownCap w (n + k) c e)) (w.drew.alloc (.cells (olds ++ news ++ (Builtin.zeroCells z.cells (grownCap w (n + k) c e - (n + k))).toList).toArray e)) := by
  have h1 := hy.len w
  have h2 := hy.cells w.drew (fun _ _ => rfl) k (Nat.le_refl _)
  rw [← hl, List.take_length] at h2
  have h3 := ho.cells w.drew (fun _ _ => rfl) n (Nat.le_refl _)
  rw [← hol, List.take_length] at h3
  have hn : ¬ (n + k ≤ c) := by omega
  have h63' : ¬ (9223372036854775807 < ((n : Int) + (k : Int))) := by omega
  have h48' : ¬ (281474976710656 < Builtin.nextslicecap (n + k) c * i.bytes) := by omega
  have e1 : (olds ++ news ++ (Builtin.zeroCells z.cells (grownCap w (n + k) c e - (n + k))).toList).toArray = olds.toArray ++ news.toArray ++ Builtin.zeroCells z.cells (grownCap w (n + k) c e - (n + k)) := by
    apply Array.ext'
    simp
  rw [e1]
  rcases hd with rfl | ⟨e2, rfl⟩ <;>
  simp [Builtin.append_, run_underlying ht, run_underlying hyt, sizeOf, typeInfo, zeroValue, hi, hz, h1, hn, h63', h48', Question.forced, h2, h3, newRow, grownCap] <;>
  (congr 2; apply Array.ext'; simp)

theorem viewA_ok {g : Gh} {s : St} {tm : Array Value} {tms : List (Array Value)} {w : World} (hs : StR g s tm tms w) {e : Nat} {v : AV} {T : Ty} {l : List T.den} (h : viewA C s.bxs e v = some ⟨T, l⟩) {x : Value} (hx : VR g v x) :
    ∃ news, Gives P w T.size x l.length news ∧ Elems (CR g.fz T) l news := by
  unfold viewA at h
  split at h
  · rename_i b off m lo n
    split at h
    · rename_i gs hb
      split at h
      · rename_i k T' l' gs' hd
        split at h
        · rename_i hk
          have hT1 := hk.2
          simp only [Option.some.injEq, Sigma.mk.injEq] at h
          obtain ⟨rfl, h⟩ := h
          obtain rfl := eq_of_heq h
          have hx' : GR g (.vsl b off m lo n) [x] := hx
          obtain ⟨gb, blk, cap, e1, e2, e3, e4, e5, a, e6, e7, e8⟩ := hx'
          simp only [List.cons.injEq, and_true] at e6
          subst e6
          obtain ⟨gb', k1, k2⟩ := hs.bxs.box _ _ hb
          rw [e1] at k1
          cases k1
          obtain ⟨_, _, blk', cells, k3, k4, k5, _⟩ := k2
          rw [e3] at k3
          cases k3
          obtain ⟨_, h2⟩ := dropGs_rel hd k5
          obtain ⟨c1, c2, h3, h4, _⟩ := h2
          have h4' : CR g.fz (.arr k T') l' c1 := h4
          have hll := h4'.1
          have hT : ∀ (x : T'.den) (cs : List Value), CR g.fz T' x cs → cs.length = T'.size := fun x cs h => h.length
          have hcl := h4'.2.length hT
          have hs1 := h4'.2.split hT lo (by omega)
          have hs2 := hs1.2.split hT n (by rw [List.length_drop]; omega)
          have hlen : ((l'.drop lo).take n).length = n := by rw [List.length_take, List.length_drop]; omega
          refine ⟨_, ?_, hs2.1⟩
          rw [hlen]
          have hcells : CellsAt w blk (off + lo) ((c1.drop (lo * T'.size)).take (n * T'.size)) := by
            have h5 := k4.cellsAt off
            rw [h3] at h5
            have h6 := (h5.left.drop (lo * T'.size)).take (n * T'.size)
            simpa [hT1] using h6
          have hl2 : ((c1.drop (lo * T'.size)).take (n * T'.size)).length = n * T'.size := by
            rw [List.length_take, List.length_drop, hcl, hT1]
            omega
          rcases e8 with h0 | h0
          · have hn0 : n = 0 := by omega
            subst hn0
            obtain ⟨ab, ao, as⟩ := a
            simp only at e7
            subst e7
            rw [Nat.zero_mul, List.take_zero]
            exact gives_slice (fun j v e => by simp at e) (by simp)
          · rw [h0]
            exact gives_slice hcells hl2
        · cases h
      · cases h
    · cases h
  · obtain ⟨a, cap, rfl, h2, h3⟩ := viewT_ok hs h hx
    rcases h3 with ⟨rfl, rfl, _⟩ | ⟨blk, off, cs, rfl, h4, h5, _⟩
    · exact ⟨[], gives_nil rfl, rfl⟩
    · exact ⟨cs, gives_slice h5 (h4.length (fun x cs h => h.length)), h4⟩

theorem elems_ints {fz : Nat → Nat → Option Value} (k : IntKind) : ∀ l : List Int, Elems (CR fz (.int k)) l (l.map (Value.int k))
  | [] => rfl
  | x :: l => ⟨[.int k x], l.map (Value.int k), rfl, rfl, elems_ints k l⟩

theorem moreV_ok {g : Gh} {s : St} {tm : Array Value} {tms : List (Array Value)} {w : World} (hs : StR g s tm tms w) {e : Nat} {y : AV} {T : Ty} {l : List T.den} (h : moreV C s.bxs e y = some ⟨T, l⟩) {b : Value} (hy : VR g y b) :
    ∃ news, Gives P w T.size b l.length news ∧ Elems (CR g.fz T) l news := by
  unfold moreV at h
  split at h
  · rename_i s'
    simp only [Option.some.injEq, Sigma.mk.injEq] at h
    obtain ⟨rfl, h⟩ := h
    obtain rfl := eq_of_heq h
    have hy' : [b] = [Value.string s'] := hy
    simp only [List.cons.injEq, and_true] at hy'
    subst hy'
    refine ⟨_, ?_, elems_ints .u8 (toBytes s')⟩
    rw [toBytes_length]
    exact gives_str s'
  · exact viewA_ok hs h hy

/-- Cells kept for good, laid beside those that are. -/
def fzPut (fz : Nat → Nat → Option Value) (blk from_ : Nat) (cs : List Value) : Nat → Nat → Option Value :=
  fun b o => if b = blk ∧ from_ ≤ o ∧ o < from_ + cs.length then cs[o - from_]? else fz b o

theorem fzPut_new {fz : Nat → Nat → Option Value} {blk from_ : Nat} {cs : List Value} : Fz (fzPut fz blk from_ cs) blk from_ cs := fun j v e => by
  have hlt := (List.getElem?_eq_some_iff.1 e).1
  unfold fzPut
  rw [if_pos ⟨rfl, by omega, by omega⟩, Nat.add_sub_cancel_left]
  exact e

theorem fzPut_old {fz : Nat → Nat → Option Value} {blk from_ : Nat} {cs : List Value} (hn : ∀ o, from_ ≤ o → o < from_ + cs.length → fz blk o = none) {b o : Nat} {v : Value} (h : fz b o = some v) : fzPut fz blk from_ cs b o = some v := by
  unfold fzPut
  split
  · rename_i hc
    obtain ⟨rfl, h1, h2⟩ := hc
    rw [hn o h1 h2] at h
    cases h
  · exact h

theorem fzPut_some {fz : Nat → Nat → Option Value} {blk from_ : Nat} {cs : List Value} {b o : Nat} (h : fzPut fz blk from_ cs b o ≠ none) : fz b o ≠ none ∨ b = blk := by
  unfold fzPut at h
  split at h
  · rename_i hc; exact .inr hc.1
  · exact .inl h

theorem fzPut_none {fz : Nat → Nat → Option Value} {blk from_ : Nat} {cs : List Value} {o : Nat} (h : fz blk o = none) (ho : from_ + cs.length ≤ o) : fzPut fz blk from_ cs blk o = none := by
  unfold fzPut
  rw [if_neg (by omega)]
  exact h

theorem blkIs_new {w : World} (cs : List Value) (e : TypeId) : BlkIs (w.drew.alloc (.cells cs.toArray e)) w.heap.size cs := blkIs_alloc w.drew cs e

/-- The types that an append asks. -/
structure AppT (C : Cfg) (P : Program) (t yt e : Nat) (S : Ty) : Prop where
  out : ∃ (i : TypeInfo) (z : Value) (d : TypeDesc), P.underlying t = some (.slice e) ∧ P.underlying yt = some d ∧ slStr d ∧ P.info? e = some i ∧ i.size = S.size ∧ i.bytes ≤ 65536 ∧ i.zero = some z ∧ z.cells.size = S.size ∧ S.size ≠ 0

theorem appT {t yt e : Nat} {S : Ty} (hC : CfgOK C P) (hu : C.under t = .sl e) (h1 : C.ty e = some S) (h2 : C.size e ≠ 0) (h3 : slOrStr (C.under yt) = true) : AppT C P t yt e S := by
  obtain ⟨h4, i, z, h5, h6, h7, h8, h9, h10⟩ := hC.ty _ _ h1
  have hd : ∃ d, P.underlying yt = some d ∧ slStr d := by
    cases hy : C.under yt <;> rw [hy] at h3 <;> simp only [slOrStr, Bool.false_eq_true] at h3
    · exact ⟨_, hC.str _ hy, .inl rfl⟩
    · exact ⟨_, hC.sl _ _ hy, .inr ⟨_, rfl⟩⟩
  obtain ⟨d, hd1, hd2⟩ := hd
  have := (h10 (fun _ _ => none)).length
  exact ⟨i, z, d, hC.sl _ _ hu, hd1, hd2, h5, by rw [h6, h4], h8, h9, by rw [← this]; simp, by rw [h4]; exact h2⟩

theorem grown_len (w : World) (need old : Nat) (e : TypeId) (z : Value) (n : Nat) (hz : z.cells.size = n) : (Builtin.zeroCells z.cells (grownCap w need old e - need)).toList.length = (grownCap w need old e - need) * n := by
  rw [Array.length_toList, size_zeroCells, hz]

theorem fit_ok {n k c b : Nat} (h : c < n + k) (hl : n + k ≤ appLim) (hb : b ≤ 65536) : Builtin.nextslicecap (n + k) c * b ≤ 281474976710656 := by
  refine growslice_fits h ?_
  have h1 : (n + k) * b ≤ 1073741824 * 65536 := Nat.mul_le_mul hl hb
  omega

/-- A row of the call's own, made of what was there and what is appended. -/
theorem newRow_ok {g : Gh} {w : World} {S : Ty} {L : List S.den} {cs rest : List Value} {e : TypeId} (hL : Elems (CR g.fz S) L cs) {cap : Nat} (hc : L.length ≤ cap) (hr : rest.length = (cap - L.length) * S.size) (hn : ∀ o, g.fz w.heap.size o = none) :
    BoxR g (.row S false L) ⟨true, true, some w.heap.size, 0, L.length, cap, S.size⟩ (w.drew.alloc (.cells (cs ++ rest).toArray e)) := by
  have hlc := hL.length (fun x cs h => h.length)
  refine ⟨rfl, rfl, rfl, hc, cs ++ rest, cs, blkIs_new _ _, ?_, hL, ?_, fun _ => hn, fun h => nomatch h⟩
  · rw [List.length_append, hlc, hr, ← Nat.add_mul]
    simp only
    rw [Nat.zero_add, Nat.add_sub_cancel' hc]
    exact Nat.le_refl _
  · intro j v e
    simp only [Nat.zero_add]
    rw [List.getElem?_append_left (List.getElem?_eq_some_iff.1 e).1]
    exact e

end
end Go.V
