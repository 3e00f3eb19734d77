/- len, min, max; conversions; variables. -/
import Derived.Test.YtccdkoimpoockaaDoorVOps11
set_option linter.all false
set_option linter.unusedVariables false
set_option linter.unusedSectionVars false
set_option linter.unusedSimpArgs false
namespace Go.V
variable [Codes]
section
variable {C : Cfg} {P : Program}

theorem run_len_arr {w : World} {t ty : Nat} {n e : Nat} (hd : P.underlying t = some (.array n e)) (x : Value) : (Builtin.len_ #[t] ty #[x]).run P w = .ok (.int .i64 n) w := by
  simp [Builtin.len_, run_underlying hd, goInt]
theorem run_len_ptr {w : World} {t ty a : Nat} {n e : Nat} (hd : P.underlying t = some (.pointer a)) (ha : P.underlying a = some (.array n e)) (x : Value) : (Builtin.len_ #[t] ty #[x]).run P w = .ok (.int .i64 n) w := by
  simp [Builtin.len_, run_underlying hd, run_underlying ha, goInt]
theorem run_len_str {w : World} {t ty : Nat} (hd : P.underlying t = some .string) (s : ByteArray) : (Builtin.len_ #[t] ty #[.string s]).run P w = .ok (.int .i64 s.size) w := by
  simp [Builtin.len_, run_underlying hd, goInt]
theorem run_len_sl {w : World} {t ty e : Nat} (hd : P.underlying t = some (.slice e)) (a : Option Addr) (n c : Nat) : (Builtin.len_ #[t] ty #[.slice a n c]).run P w = .ok (.int .i64 n) w := by
  simp [Builtin.len_, run_underlying hd, goInt]

theorem lenV_ok (hC : CfgOK C P) {g : Gh} {s : St} {tm : Array Value} {tms : List (Array Value)} {w : World} (hs : StR g s tm tms w) {t ty : Nat} {x : AV} {c : Bool} {v : AV} {e : Eff}
    (h : lenV C s.bxs t x = some (c, v, e)) {a : Value} (ha : VR g x a) : e = .none ∧ ∃ z, (Builtin.len_ #[t] ty #[a]).run P w = .ok z w ∧ VR g v z := by
  unfold lenV at h
  split at h
  · rename_i s' hu
    simp only [ok, Option.some.injEq, Prod.mk.injEq] at h
    obtain ⟨_, rfl, rfl⟩ := h
    have ha' : [a] = [.string s'] := ha
    cases ha'
    exact ⟨rfl, _, run_len_str (hC.str t hu) _, rfl⟩
  · rename_i n e' hu
    simp only [ok, Option.some.injEq, Prod.mk.injEq] at h
    obtain ⟨_, rfl, rfl⟩ := h
    exact ⟨rfl, _, run_len_arr (hC.arr t _ _ hu) _, rfl⟩
  · rename_i b hu
    split at h
    · rename_i n e' hb
      simp only [ok, Option.some.injEq, Prod.mk.injEq] at h
      obtain ⟨_, rfl, rfl⟩ := h
      exact ⟨rfl, _, run_len_ptr (hC.ptr t _ hu) (hC.arr b _ _ hb) _, rfl⟩
    · cases h
  · rename_i e' b off m lo n hu
    simp only [ok, Option.some.injEq, Prod.mk.injEq] at h
    obtain ⟨_, rfl, rfl⟩ := h
    obtain ⟨gb, blk, cap, _, _, _, _, _, ad, hcs, _⟩ := ha
    simp only [List.cons.injEq, and_true] at hcs
    subst hcs
    exact ⟨rfl, _, run_len_sl (hC.sl t _ hu) _ _ _, rfl⟩
  · rename_i e' hu _
    split at h
    · rename_i T l hv
      simp only [ok, Option.some.injEq, Prod.mk.injEq] at h
      obtain ⟨_, rfl, rfl⟩ := h
      obtain ⟨ad, cap, rfl, _⟩ := viewT_ok hs hv ha
      exact ⟨rfl, _, run_len_sl (hC.sl t _ hu) _ _ _, rfl⟩
    · cases h
  · cases h

/-- The values of operands. -/
def VsR (g : Gh) : List AV → List Value → Prop
  | [], [] => True
  | v :: l, c :: r => VR g v c ∧ VsR g l r
  | _, _ => False

theorem minV_ok {g : Gh} {w : World} {vs : List AV} {v : AV} (h : minV vs = some v) {args : Array Value} (ha : VsR g vs args.toList) (ts : Array TypeId) (ty : Nat) :
    ∃ z, (Builtin.min_ ts ty args).run P w = .ok z w ∧ VR g v z := by
  unfold minV at h
  split at h
  · rename_i k a j b
    obtain ⟨l⟩ := args
    match l, ha with
    | [x, y], ⟨hx, hy, _⟩ =>
      have hx' : [x] = [.int k a] := hx
      have hy' : [y] = [.int j b] := hy
      cases hx'
      cases hy'
      simp only [Option.some.injEq] at h
      subst h
      refine ⟨_, run_min_int2 w ts ty k j a b, rfl⟩
  · cases h

theorem maxV_ok {g : Gh} {w : World} {vs : List AV} {v : AV} (h : maxV vs = some v) {args : Array Value} (ha : VsR g vs args.toList) (ts : Array TypeId) (ty : Nat) :
    ∃ z, (Builtin.max_ ts ty args).run P w = .ok z w ∧ VR g v z := by
  unfold maxV at h
  split at h
  · rename_i k a j b
    obtain ⟨l⟩ := args
    match l, ha with
    | [x, y], ⟨hx, hy, _⟩ =>
      have hx' : [x] = [.int k a] := hx
      have hy' : [y] = [.int j b] := hy
      cases hx'
      cases hy'
      simp only [Option.some.injEq] at h
      subst h
      refine ⟨.int k (if b > a then b else a), ?_, rfl⟩
      simp [Builtin.max_, Builtin.max2]
  · cases h

theorem toBytes_data (s : ByteArray) : (toBytes s).map (Value.int .u8) = (s.data.map fun b => Value.int .u8 b.toNat).toList := by
  simp [toBytes]

theorem bytes_grown (w : World) (e : TypeId) (s : ByteArray) : w.grownBy (Lib.bytesWorld w e s) none :=
  ⟨rfl, rfl, rfl, by rw [Lib.bytesWorld_size]; omega, fun k hk _ => Lib.bytesWorld_at_old w e s k hk⟩

theorem convertV_ok (hC : CfgOK C P) {g : Gh} {s : St} {tm : Array Value} {tms : List (Array Value)} {w : World} (hs : StR g s tm tms w) {key src dst : Nat} {x v : AV} {e : Eff}
    (h : convertV C s.bxs key src dst x = some (true, v, e)) (hkey : ∀ k b, e = .add k b → find s.bxs k = none) {a : Value} (ha : VR g x a) :
    ∃ z w' g', (convert src dst a).run P w = .ok z w' ∧ VR g' v z ∧ StR g' (e.apply s) tm tms w' ∧ Tr g w g' w' := by
  unfold convertV at h
  split at h
  · rename_i k1 k2 k3 n hu1 hu2
    simp only [ok, Option.some.injEq, Prod.mk.injEq] at h
    obtain ⟨_, rfl, rfl⟩ := h
    have ha' : [a] = [.int k3 n] := ha
    cases ha'
    refine ⟨.int k2 (k2.wrap n), w, g, ?_, rfl, hs, Tr.refl _ _⟩
    simp [convert, run_underlying (hC.int src _ hu1), run_underlying (hC.int dst _ hu2), Conv.intToInt]
  · rename_i s' hu1 hu2
    simp only [ok, Option.some.injEq, Prod.mk.injEq] at h
    obtain ⟨_, rfl, rfl⟩ := h
    have ha' : [a] = [.string s'] := ha
    cases ha'
    refine ⟨.string s', w, g, ?_, rfl, hs, Tr.refl _ _⟩
    simp [convert, run_underlying (hC.str src hu1), run_underlying (hC.str dst hu2)]
  · rename_i e' hu1 hu2
    split at h
    · rename_i hu3
      split at h
      · rename_i l hv
        simp only [ok, Option.some.injEq, Prod.mk.injEq] at h
        obtain ⟨_, rfl, rfl⟩ := h
        obtain ⟨news, hg, hel⟩ := viewA_ok (P := P) hs hv ha
        have hnews : news = l.map (Value.int .u8) := by
          clear hg hv
          induction l generalizing news with
          | nil => exact hel
          | cons n l ih => obtain ⟨c1, c2, rfl, h1, h2⟩ := hel; have h1' : c1 = [.int .u8 n] := h1; rw [h1', ih _ h2]; rfl
        have hform : ∃ o cap, a = .slice o l.length cap := by
          unfold viewA at hv
          split at hv
          · rename_i b off m lo n
            obtain ⟨gb, blk, cap, _, _, _, _, _, ad, hcs, _⟩ := ha
            simp only [List.cons.injEq, and_true] at hcs
            subst hcs
            have h1 := hg.len w
            simp only [Builtin.lenOf, Sem.run_pure, Result.ok.injEq, and_true] at h1
            exact ⟨some ad, cap, by rw [h1]⟩
          · obtain ⟨ad, cap, rfl, _⟩ := viewT_ok hs hv ha
            exact ⟨ad, cap, rfl⟩
        obtain ⟨o, cap, rfl⟩ := hform
        refine ⟨.string (ofBytes l), w, g, ?_, rfl, hs, Tr.refl _ _⟩
        rw [run_convert_bytes_string w src dst e' o l.length cap (hC.sl src _ hu1) (hC.int e' _ hu3) (hC.str dst hu2)]
        cases o with
        | none =>
          have h1 := hg.cells w (fun _ _ => rfl) l.length (Nat.le_refl _)
          simp only [Builtin.firstCells, Sem.run_pure, Result.ok.injEq, and_true, Ty.size, Nat.mul_one] at h1
          have h2 : l = [] := by
            have h3 : (news.take l.length).length = 0 := by rw [← List.size_toArray, ← h1]; rfl
            rw [hnews] at h3
            simpa using h3
          subst h2
          simp [Conv.bytesToString, ofBytes]
          rfl
        | some ad =>
          have h1 := hg.cells w (fun _ _ => rfl) l.length (Nat.le_refl _)
          simp only [Builtin.firstCells, Ty.size, Nat.mul_one] at h1
          rw [hnews, List.take_of_length_le (by simp)] at h1
          rw [run_bytesToString w ad l.length cap l h1, foldl_push_bytes]
          simp [ofBytes, ByteArray.empty, ByteArray.emptyWithCapacity]
          rfl
      · cases h
    · cases h
  · rename_i e' s' hu1 hu2
    split at h
    · rename_i hu3
      simp only [Option.some.injEq, Prod.mk.injEq, true_and] at h
      obtain ⟨rfl, rfl⟩ := h
      have ha' : [a] = [.string s'] := ha
      cases ha'
      have hr := Lib.run_convert_string_bytes (P := P) w src dst e' s' (hC.str src hu1) (hC.sl dst _ hu2) (hC.int e' _ hu3)
      have hblk : BlkIs (Lib.bytesWorld w e' s') w.heap.size ((toBytes s').map (Value.int .u8) ++ List.replicate (grownCap w s'.size 0 e' - s'.size) (.int .u8 0)) := by
        refine ⟨e', (Lib.bytesCells w e' s').size, (Lib.bytesCells w e' s').size + 1, ?_, ?_⟩
        · rw [Lib.bytesWorld_at_new]
          congr 2
          apply Array.ext'
          simp [Lib.bytesCells, toBytes_data]
        · intro o ho
          have : (Lib.bytesCells w e' s').size = ((toBytes s').map (Value.int .u8) ++ List.replicate (grownCap w s'.size 0 e' - s'.size) (Value.int .u8 0)).length := by
            simp [Lib.bytesCells, toBytes]
          omega
      obtain ⟨k1, k2, k3⟩ := fresh2_ok hs (hkey key _ rfl) (cap := grownCap w s'.size 0 e') (elems_ints .u8 (toBytes s')) (by rw [toBytes_length]; exact grownCap_ge _ _ _ _) (by simp [toBytes_length, Ty.size]) (bytes_grown w e' s') hblk
      simp only [toBytes_length] at k1 k2 k3
      exact ⟨_, _, _, hr, k1, k2, k3⟩
    · cases h
  · cases h

/-- A new variable. -/
theorem newVar_ok {g : Gh} {s : St} {tm : Array Value} {tms : List (Array Value)} {w : World} (hs : StR g s tm tms w) {key : Nat} (hk : find s.bxs key = none) {gs : List AV} {z : Value} (hg : GsR g gs z.cells.toList) (t : TypeId) :
    ∃ w' g', (newVar t z).run P w = .ok ⟨w.heap.size, 0, none⟩ w' ∧ VR g' (.ptr key 0 []) (.pointer (some ⟨w.heap.size, 0, none⟩)) ∧ StR g' ((Eff.add key (.var gs)).apply s) tm tms w' ∧ Tr g w g' w' := by
  let gb : Gb := ⟨false, true, some w.heap.size, 0, 0, 0, 0⟩
  have hgr : w.grownBy (w.alloc (.cells z.cells t)) none := World.grownBy_alloc w _ none
  have hx := ext_put gb (hs.bxs.none hk)
  have hblk : BlkIs (w.alloc (.cells z.cells t)) w.heap.size z.cells.toList := by simpa using blkIs_alloc w z.cells.toList t
  obtain ⟨h1, h2, _⟩ := hs.add hk hgr (.var gs) gb ⟨rfl, rfl, w.heap.size, z.cells.toList, rfl, hblk, hg.ext hx (gsClear_none _), fun o => hs.fz.noneAt (Nat.le_refl _) o⟩ (fun blk e1 _ => by cases e1; exact Nat.le_refl _)
  refine ⟨_, _, ?_, ⟨gb, w.heap.size, Gh.put_same _ _ _, rfl, rfl, (fun _ h => nomatch h), rfl⟩, h1, h2⟩
  simp [newVar, newRow]

end
end Go.V
