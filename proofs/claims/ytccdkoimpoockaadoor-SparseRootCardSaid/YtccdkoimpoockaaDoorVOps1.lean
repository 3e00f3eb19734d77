/- Loads, stores, addresses: the abstract operation is what the machine does. -/
import Derived.Test.YtccdkoimpoockaaDoorVStep
set_option linter.all false
set_option linter.unusedVariables false
set_option linter.unusedSectionVars false
set_option linter.unusedSimpArgs false
namespace Go.V
variable [Codes]

/-- A field of a struct that may be compared at once. -/
def eqField (i : Nat) (f : Field) : Bool :=
  !(f.name == "_") && Nat.beq f.offset i

def eqFieldsOk : Nat → List Field → Bool
  | _, [] => true
  | i, f :: l => eqField i f && eqFieldsOk (i + 1) l

/-- The program's types are those of the table. -/
structure CfgOK (C : Cfg) (P : Program) : Prop where
  int : ∀ t k, C.under t = .int k → P.underlying t = some (.int k)
  bool : ∀ t, C.under t = .bool → P.underlying t = some .bool
  str : ∀ t, C.under t = .str → P.underlying t = some .string
  ptr : ∀ t e, C.under t = .ptr e → P.underlying t = some (.pointer e)
  sl : ∀ t e, C.under t = .sl e → P.underlying t = some (.slice e)
  arr : ∀ t n e, C.under t = .arr n e → P.underlying t = some (.array n e)
  st : ∀ t fs, C.under t = .st fs → ∃ fields : Array Field, P.underlying t = some (.struct fields) ∧ fields.toList.map (fun f => (f.offset, f.type)) = fs
  fn : ∀ t, C.under t = .fn → ∃ a b c, P.underlying t = some (.func a b c)
  iface : ∀ t, C.under t = .iface → ∃ ms, P.underlying t = some (.interface ms)
  map : ∀ t k e, C.under t = .map k e → P.underlying t = some (.map k e)
  eqs : ∀ t, C.eqs.contains t = true → P.underlying t = some (.struct (P.fieldsOf t)) ∧ P.stoodInHeld t = false ∧ P.eqGuardType P.depth t = false ∧ eqFieldsOk 0 (P.fieldsOf t).toList = true
  size : ∀ t, C.size t ≠ 0 → ∃ i, P.info? t = some i ∧ i.size = C.size t ∧ i.bytes = C.bytes.getD t 0
  zero : ∀ t gs, C.zero t = some gs → ∃ i z, P.info? t = some i ∧ i.size = C.size t ∧ i.bytes = C.bytes.getD t 0 ∧ i.zero = some z ∧ ∀ g, GsR g gs z.cells.toList
  ty : ∀ t T, C.ty t = some T → T.size = C.size t ∧ ∃ i z, P.info? t = some i ∧ i.size = C.size t ∧ i.bytes = C.bytes.getD t 0 ∧ i.bytes ≤ 65536 ∧ i.zero = some z ∧ ∀ fz, CR fz T T.dflt z.cells.toList

section
variable {C : Cfg} {P : Program}

/-- What memory holds from an address on. -/
def CellsAt (w : World) (blk off : Nat) (cs : List Value) : Prop := ∀ j v, cs[j]? = some v → w.cell? ⟨blk, off + j, none⟩ = some v

theorem Fz.cells {g : Gh} {w : World} (h : FzOK g w) {blk off : Nat} {cs : List Value} (hf : Fz g.fz blk off cs) : CellsAt w blk off cs := fun j v e => h _ _ _ (hf j v e)

theorem BlkIs.cellsAt {w : World} {blk : Nat} {cells : List Value} (h : BlkIs w blk cells) (off : Nat) : CellsAt w blk off (cells.drop off) := fun j v e => by
  rw [h.cell]
  simpa using e

theorem CellsAt.drop {w : World} {blk off : Nat} {cs : List Value} (h : CellsAt w blk off cs) (n : Nat) : CellsAt w blk (off + n) (cs.drop n) := fun j v e => by
  have := h (n + j) v (by simpa using e)
  rwa [← Nat.add_assoc] at this

theorem CellsAt.take {w : World} {blk off : Nat} {cs : List Value} (h : CellsAt w blk off cs) (n : Nat) : CellsAt w blk off (cs.take n) := fun j v e => by
  refine h j v ?_
  rw [List.getElem?_take] at e
  split at e
  · exact e
  · cases e

theorem CellsAt.left {w : World} {blk off : Nat} {a b : List Value} (h : CellsAt w blk off (a ++ b)) : CellsAt w blk off a := by
  have := h.take a.length
  rwa [List.take_left] at this

theorem CellsAt.right {w : World} {blk off : Nat} {a b : List Value} (h : CellsAt w blk off (a ++ b)) : CellsAt w blk (off + a.length) b := by
  have := h.drop a.length
  rwa [List.drop_left] at this

theorem add_lit' (blk off j : Nat) : (⟨blk, off, none⟩ : Addr).add j = ⟨blk, off + j, none⟩ := by
  unfold Addr.add
  split
  · rename_i h; subst h; simp
  · rfl

theorem run_loadCells' {w : World} {blk off : Nat} {cs : List Value} (h : CellsAt w blk off cs) : (loadCells ⟨blk, off, none⟩ cs.length).run P w = .ok cs.toArray w :=
  run_loadCells_list w _ cs (fun j v e => by rw [add_lit']; exact h j v e)

theorem run_sizeOf {w : World} {t : TypeId} {i : TypeInfo} (h : P.info? t = some i) : (sizeOf t).run P w = .ok i.size w := by
  simp [sizeOf, typeInfo, h]

/-- Structs and arrays. -/
def aggB : TypeDesc → Bool
  | .struct _ | .array _ _ => true
  | _ => false

theorem run_isAgg {w : World} {t : TypeId} {d : TypeDesc} (h : P.underlying t = some d) : (isAgg t).run P w = .ok (aggB d) w := by
  unfold isAgg
  rw [Sem.run_bind, run_underlying h w]
  cases d <;> simp [aggB]

theorem run_loadVar_agg {w : World} {t : TypeId} {i : TypeInfo} {d : TypeDesc} (hi : P.info? t = some i) (hd : P.underlying t = some d) (ha : (aggB d) = true)
    {blk off : Nat} {cs : List Value} (h : CellsAt w blk off cs) (hl : cs.length = i.size) : (loadVar t ⟨blk, off, none⟩).run P w = .ok (.agg cs.toArray) w := by
  unfold loadVar
  rw [Sem.run_bind, run_isAgg hd, ha]
  simp only [Result.andThen_ok, if_true, Sem.run_bind, run_sizeOf hi, ← hl, run_loadCells' h, Sem.run_pure]

theorem run_loadVar_one {w : World} {t : TypeId} {d : TypeDesc} (hd : P.underlying t = some d) (ha : (aggB d) = false)
    {a : Addr} {c : Value} (h : w.cell? a = some c) : (loadVar t a).run P w = .ok c w := by
  unfold loadVar
  rw [Sem.run_bind, run_isAgg hd, ha]
  simp [run_load, h]

theorem GR.single_one {g : Gh} {v : AV} {cs : List Value} (h : GR g v cs) (hs : v.single = true) : ∃ c, cs = [c] := by
  have hl := h.length
  have : v.size = 1 := by
    cases v <;> simp only [AV.single, Bool.false_eq_true] at hs <;> try rfl
    case val T x => cases T <;> simp only [Bool.false_eq_true] at hs <;> rfl
  rw [this] at hl
  match cs, hl with
  | [c], _ => exact ⟨c, rfl⟩

theorem loadAt_ok (hC : CfgOK C P) {g : Gh} {w : World} {t : Nat} {gs : List AV} {c : Bool} {v : AV} {e : Eff} (h : loadAt C t gs = some (c, v, e)) {blk off : Nat} {cs : List Value}
    (hg : GsR g gs cs) (hw : CellsAt w blk off cs) : e = .none ∧ ∃ x, (loadVar t ⟨blk, off, none⟩).run P w = .ok x w ∧ VR1 g v x := by
  unfold loadAt at h
  split at h
  · rename_i fs hu
    split at h
    · cases h
    · rename_i hz
      split at h
      · rename_i gs' ht
        simp only [ok, Option.some.injEq, Prod.mk.injEq] at h
        obtain ⟨_, rfl, rfl⟩ := h
        obtain ⟨h1, h2⟩ := takeGs_rel ht hg
        obtain ⟨fields, hd, _⟩ := hC.st _ _ hu
        obtain ⟨i, hi, hs, _⟩ := hC.size t hz
        exact ⟨rfl, _, run_loadVar_agg hi hd rfl (hw.take (C.size t)) (by rw [List.length_take, hs]; omega), _, rfl, by simpa using h2⟩
      · cases h
  · rename_i n e' hu
    split at h
    · rename_i m T l gs'
      split at h
      · rename_i hnm
        simp only [ok, Option.some.injEq, Prod.mk.injEq] at h
        obtain ⟨_, rfl, rfl⟩ := h
        obtain ⟨c1, c2, rfl, h1, h2⟩ := hg
        refine ⟨rfl, ?_⟩
        have hl := CR.length h1
        obtain ⟨i, hi, hs, _⟩ := hC.size t hnm.2.2
        exact ⟨_, run_loadVar_agg hi (hC.arr _ _ _ hu) rfl hw.left (by rw [hl, hs, hnm.2.1]; rfl), _, rfl, h1⟩
      · cases h
    · cases h
  · cases h
  · cases h
  · rename_i h1 h2 h3 h4
    split at h
    · rename_i v' gs'
      split at h
      · rename_i hs
        simp only [ok, Option.some.injEq, Prod.mk.injEq] at h
        obtain ⟨_, rfl, rfl⟩ := h
        obtain ⟨c1, c2, rfl, k1, k2⟩ := hg
        obtain ⟨x, rfl⟩ := k1.single_one hs
        have hc : w.cell? ⟨blk, off, none⟩ = some x := by have := hw 0 x (by simp); simpa using this
        refine ⟨rfl, x, ?_, (vr1_single hs).2 k1⟩
        cases hu : C.under t with
        | int k => exact run_loadVar_one (hC.int _ _ hu) rfl hc
        | bool => exact run_loadVar_one (hC.bool _ hu) rfl hc
        | str => exact run_loadVar_one (hC.str _ hu) rfl hc
        | ptr e => exact run_loadVar_one (hC.ptr _ _ hu) rfl hc
        | sl e => exact run_loadVar_one (hC.sl _ _ hu) rfl hc
        | arr n e => exact (h2 _ _ hu).elim
        | st fs => exact (h1 _ hu).elim
        | fn => obtain ⟨_, _, _, hd⟩ := hC.fn _ hu; exact run_loadVar_one hd rfl hc
        | iface => obtain ⟨_, hd⟩ := hC.iface _ hu; exact run_loadVar_one hd rfl hc
        | map k e => exact run_loadVar_one (hC.map _ _ _ hu) rfl hc
        | tup => exact (h4 hu).elim
        | oth => exact (h3 hu).elim
      · cases h
    · cases h

theorem stepsOff_cons (s : Stp) (p : List Stp) : stepsOff (s :: p) = s.i.toNat * s.sz + s.o + stepsOff p := rfl

theorem at_lt {T : Ty} {l : List T.den} {i : Int} (h0 : 0 ≤ i) (h1 : i < l.length) : at_ T l i = l[i.toNat]'(by omega) := by
  unfold at_
  rw [List.getD_eq_getElem?_getD, List.getElem?_eq_getElem (by omega)]
  rfl

/-- The cells of an element of an array. -/
theorem arr_get {fz : Nat → Nat → Option Value} {n : Nat} {T : Ty} {l : List T.den} {cs : List Value} (h : CR fz (.arr n T) l cs) {i : Int} (h0 : 0 ≤ i) (h1 : i < n) :
    ∃ a c b, cs = a ++ (c ++ b) ∧ a.length = i.toNat * T.size ∧ CR fz T (at_ T l i) c := by
  obtain ⟨hl, he⟩ := h
  obtain ⟨a, c, b, e, ha, hc, _⟩ := he.get (n := T.size) (fun x cs h => h.length) i.toNat (by omega)
  exact ⟨a, c, b, e, ha, by rw [at_lt h0 (by omega)]; exact hc⟩

/-- A place of a box, by steps into arrays. -/
theorem gsAt_ok {g : Gh} {w : World} {blk : Nat} : ∀ {p : List Stp} {gs gs' : List AV} {off : Nat} {cs : List Value}, gsAt gs p = some gs' → GsR g gs cs → CellsAt w blk off cs → (∀ s ∈ p, 0 ≤ s.i ∧ s.i < s.n) →
    ∃ cs', GsR g gs' cs' ∧ CellsAt w blk (off + stepsOff p) cs'
  | [], gs, gs', off, cs, h, hg, hw, _ => by
    cases gs <;> (simp only [gsAt, Option.some.injEq] at h; subst h; exact ⟨cs, hg, by simpa [stepsOff] using hw⟩)
  | s :: p, gs, gs', off, cs, h, hg, hw, hp => by
    unfold gsAt at h
    split at h
    · rename_i he; cases he
    · rename_i n T l gs1 s' p' he
      obtain ⟨rfl, rfl⟩ := List.cons.inj he
      split at h
      · rename_i hn
        split at h
        · rename_i gs2 hd
          obtain ⟨c1, c2, rfl, h1, h2⟩ := hg
          obtain ⟨q0, q1⟩ := hp s (by simp)
          obtain ⟨a, c, b, rfl, ha, hc⟩ := arr_get (fz := g.fz) (n := n) (T := T) h1 q0 (by omega)
          obtain ⟨h3, h4⟩ := dropGs_rel hd (gsR_gs hc)
          have hw1 : CellsAt w blk (off + s.i.toNat * s.sz) c := by
            have := hw.left.right
            rw [ha, hn.2] at this
            exact this.left
          obtain ⟨cs', h5, h6⟩ := gsAt_ok h h4 (hw1.drop s.o) (fun s hs => hp s (List.mem_cons_of_mem _ hs))
          refine ⟨cs', h5, ?_⟩
          rw [stepsOff_cons]
          have e : off + s.i.toNat * s.sz + s.o + stepsOff p = off + (s.i.toNat * s.sz + s.o + stepsOff p) := by omega
          rwa [e] at h6
        · cases h
      · cases h
    · cases h

/-- What a row's cells are, wherever it lies. -/
theorem row_get {g : Gh} {w : World} (hf : FzOK g w) {T : Ty} {fz : Bool} {l : List T.den} {gb : Gb} (h : BoxR g (.row T fz l) gb w) {blk : Nat} (hb : gb.blk = some blk) :
    ∃ cs, Elems (CR g.fz T) l cs ∧ CellsAt w blk gb.off cs := by
  obtain ⟨_, _, _, _, h5⟩ := h
  cases ho : gb.own with
  | false =>
    simp only [hb, ho] at h5
    obtain ⟨_, _, cs, k3, k4⟩ := h5
    exact ⟨cs, k3, k4.cells hf⟩
  | true =>
    simp only [hb, ho] at h5
    obtain ⟨cells, cs, k1, k2, k3, k4, _⟩ := h5
    exact ⟨cs, k3, fun j v e => by rw [k1.cell]; exact k4 j v e⟩

theorem elems_at {fz : Nat → Nat → Option Value} {w : World} {blk off : Nat} {T : Ty} {l : List T.den} {cs : List Value} (h : Elems (CR fz T) l cs) (hw : CellsAt w blk off cs) {i : Int} (h0 : 0 ≤ i) (h1 : i < l.length) :
    ∃ c, CR fz T (at_ T l i) c ∧ CellsAt w blk (off + i.toNat * T.size) c := by
  obtain ⟨a, c, b, rfl, ha, hc, _⟩ := h.get (n := T.size) (fun x cs h => h.length) i.toNat (by omega)
  refine ⟨c, by rw [at_lt h0 h1]; exact hc, ?_⟩
  have := hw.right
  rw [ha] at this
  exact this.left

/-- A load. -/
theorem loadV_ok (hC : CfgOK C P) {g : Gh} {s : St} {tm : Array Value} {tms : List (Array Value)} {w : World} (hs : StR g s tm tms w) {t : Nat} {a : AV} {c : Bool} {v : AV} {e : Eff}
    (h : loadV C s.bxs t a = some (c, v, e)) {x : Value} (ha : VR g a x) : e = .none ∧ ∃ y, (Instr.loadAt t x).run P w = .ok y w ∧ VR1 g v y := by
  have main : ∀ (blk off : Nat) (gs : List AV) (cs : List Value), loadAt C t gs = some (c, v, e) → GsR g gs cs → CellsAt w blk off cs → x = .pointer (some ⟨blk, off, none⟩) →
      e = .none ∧ ∃ y, (Instr.loadAt t x).run P w = .ok y w ∧ VR1 g v y := by
    intro blk off gs cs h1 h2 h3 hx
    obtain ⟨e1, y, h4, h5⟩ := loadAt_ok hC h1 h2 h3
    refine ⟨e1, y, ?_, h5⟩
    subst hx
    simp only [Instr.loadAt, Instr.sureAddr, Sem.run_bind, Sem.run_pure, Result.andThen_ok]
    exact h4
  unfold loadV at h
  split at h
  · rename_i gs
    have ha' : GR g (.eptr gs) [x] := ha
    obtain ⟨blk, off, cs', e1, h1, h2⟩ := ha'
    simp only [List.cons.injEq, and_true] at e1
    exact main blk off gs cs' h h1.gsR (h2.cells hs.fz) e1
  · rename_i b off p
    have ha' : GR g (.ptr b off p) [x] := ha
    obtain ⟨gb, blk, e1, e2, e3, e4, e5⟩ := ha'
    simp only [List.cons.injEq, and_true] at e5
    split at h
    · rename_i gs hb
      split at h
      · rename_i gs1 hd
        split at h
        · rename_i gs2 hp
          obtain ⟨gb', k1, k2⟩ := hs.bxs.box _ _ hb
          rw [e1] at k1
          cases k1
          obtain ⟨_, _, blk', cells, k3, k4, k5, _⟩ := k2
          rw [e3] at k3
          cases k3
          obtain ⟨_, h2⟩ := dropGs_rel hd k5
          obtain ⟨cs', h3, h4⟩ := gsAt_ok hp h2 (k4.cellsAt off) e4
          exact main blk _ gs2 cs' h h3 h4 e5
        · cases h
      · cases h
    · cases h
  · rename_i b i o
    have ha' : GR g (.rptr b i o) [x] := ha
    obtain ⟨gb, blk, e1, e2, e3, e4, e5, e6⟩ := ha'
    simp only [List.cons.injEq, and_true] at e6
    split at h
    · rename_i T fz l hb
      split at h
      · rename_i gs1 hd
        obtain ⟨gb', k1, k2⟩ := hs.bxs.box _ _ hb
        rw [e1] at k1
        cases k1
        obtain ⟨cs, k3, k4⟩ := row_get hs.fz k2 e3
        have hsz : gb.sz = T.size := k2.2.1
        have hlen : gb.len = l.length := k2.2.2.1
        obtain ⟨c', k5, k6⟩ := elems_at k3 k4 e4 (by omega)
        obtain ⟨_, h2⟩ := dropGs_rel hd (gsR_gs k5)
        exact main blk _ gs1 _ h h2 (k6.drop o) (by rw [e6, hsz])
      · cases h
    · cases h
  · cases h

end
end Go.V
