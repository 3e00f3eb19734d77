/- copy into a window of an array variable. -/
import Derived.Test.YtccdkoimpoockaaDoorVOps12
set_option linter.all false
set_option linter.unusedVariables false
set_option linter.unusedSectionVars false
set_option linter.unusedSimpArgs false
namespace Go.V
variable [Codes]
section
variable {C : Cfg} {P : Program}

theorem run_copy {w w' : World} {t yt ty e : TypeId} {i : TypeInfo} (ht : P.underlying t = some (.slice e)) (hi : P.info? e = some i) {a : Addr} {n c k : Nat} {y : Value} {news : List Value} (hy : Gives P w i.size y k news)
    (hst : (storeCells a (news.take (min k n * i.size))).run P w = .ok () w') : (Builtin.copy_ #[t, yt] ty #[.slice (some a) n c, y]).run P w = .ok (.int .i64 ((min k n : Nat) : Int)) w' := by
  have h1 := hy.len w
  have h2 := hy.cells w (fun _ _ => rfl) (min k n) (Nat.min_le_left _ _)
  have hm : Nat.min k n = min k n := rfl
  simp [Builtin.copy_, run_underlying ht, sizeOf, typeInfo, hi, h1, h2, hst, goInt, hm]

theorem copyV_ok (hC : CfgOK C P) {g : Gh} {s : St} {tm : Array Value} {tms : List (Array Value)} {w : World} (hs : StR g s tm tms w) {t yt ty : Nat} {x y : AV} {c : Bool} {v : AV} {e : Eff}
    (h : copyV C s.bxs t x y = some (c, v, e)) {a b : Value} (hx : VR g x a) (hy : VR g y b) :
    ∃ z w', (Builtin.copy_ #[t, yt] ty #[a, b]).run P w = .ok z w' ∧ VR g v z ∧ StR g (e.apply s) tm tms w' ∧ Tr g w g w' := by
  unfold copyV at h
  split at h
  · rename_i e' hu
    split at h
    · rename_i hsz
      split at h
      · cases h
      · rename_i S m hm
        split at h
        · rename_i bk off q lo n
          split at h
          · rename_i gs hb
            split at h
            · rename_i k T l rest hdr
              split at h
              · rename_i hc
                obtain ⟨hST, rfl, hT1⟩ := hc
                subst hST
                split at h
                · rename_i gs' hput
                  simp only [Option.some.injEq, Prod.mk.injEq] at h
                  obtain ⟨_, rfl, rfl⟩ := h
                  have ht := hC.sl t _ hu
                  obtain ⟨i, hi, his, _⟩ := hC.size e' (by rw [hsz]; decide)
                  obtain ⟨news, hg, hel⟩ := moreV_ok (P := P) hs hm hy
                  have hx' : GR g (.vsl bk off k lo n) [a] := hx
                  obtain ⟨gb, blk, cap, e1, e2, e3, hlo, hcap, ad, hcs, hspot, had⟩ := hx'
                  simp only [List.cons.injEq, and_true] at hcs
                  subst hcs
                  obtain ⟨gb', k1, k2⟩ := hs.bxs.box _ _ hb
                  rw [e1] at k1
                  cases k1
                  obtain ⟨q1, q2, blk', cells, k3, k4, k5, k6⟩ := k2
                  rw [e3] at k3
                  cases k3
                  obtain ⟨p1, c1, c2, p2, p3, p4⟩ := dropGs_rel hdr k5
                  have hl1 : l.length = k := p3.1
                  have hc1 : c1.length = k := by rw [CR.length p3, Ty.size, hT1, Nat.mul_one]
                  have hTl : ∀ (x : S.den) (cs : List Value), CR g.fz S x cs → cs.length = 1 := fun x cs h => by rw [h.length, hT1]
                  have hnl : news.length = m.length := by have := hel.length hTl; simpa using this
                  -- what is stored
                  obtain ⟨nm, hnm⟩ : ∃ nm, nm = min m.length n := ⟨_, rfl⟩
                  have hmt : (m.take n) = m.take nm := by
                    rw [hnm]
                    rcases Nat.le_total m.length n with h | h
                    · rw [Nat.min_eq_left h, List.take_of_length_le h, List.take_of_length_le (Nat.le_refl _)]
                    · rw [Nat.min_eq_right h]
                  have hmtl : (m.take nm).length = nm := by rw [List.length_take, hnm]; omega
                  have hnt : (news.take nm).length = nm := by rw [List.length_take, hnl, hnm]; omega
                  have hnmn : nm ≤ n := by omega
                  have heln : Elems (CR g.fz S) (m.take nm) (news.take nm) := by
                    have := (hel.split hTl nm (by omega)).1
                    simpa using this
                  -- the array behind
                  have harr : CR g.fz (.arr k S) (setRange l lo (m.take n)) (c1.take lo ++ news.take nm ++ c1.drop (lo + nm)) := by
                    rw [hmt]
                    unfold setRange
                    rw [hmtl]
                    have s1 := (p3.2.split hTl lo (by omega)).1
                    have s2 := (p3.2.split hTl (lo + nm) (by omega)).2
                    rw [Nat.mul_one] at s1 s2
                    refine ⟨?_, (s1.append heln).append s2⟩
                    simp only [List.length_append, List.length_take, List.length_drop]
                    omega
                  have hgs1 : GsR g [.val (.arr k S) (setRange l lo (m.take n))] (c1.take lo ++ news.take nm ++ c1.drop (lo + nm)) := ⟨_, [], by simp, harr, rfl⟩
                  obtain ⟨r1, r2⟩ := putGs_rel hgs1 hput k5
                  have hlen : (c1.take lo ++ news.take nm ++ c1.drop (lo + nm)).length = k := by
                    simp only [List.length_append, List.length_take, List.length_drop, hc1, hnt]
                    omega
                  have hcells : cells = cells.take off ++ (c1 ++ c2) := by rw [← p2, List.take_append_drop]
                  have hoff : (cells.take off).length = off := by rw [List.length_take]; omega
                  have htot : off + k ≤ cells.length := by rw [← hlen]; exact r1
                  have hmem : cells.take (off + lo) ++ news.take nm ++ cells.drop (off + lo + (news.take nm).length) = cells.take off ++ (c1.take lo ++ news.take nm ++ c1.drop (lo + nm)) ++ cells.drop (off + (c1.take lo ++ news.take nm ++ c1.drop (lo + nm)).length) := by
                    rw [hlen, hnt]
                    have t1 : cells.take (off + lo) = cells.take off ++ c1.take lo := by
                      rw [List.take_add, p2, List.take_append_of_le_length (by omega)]
                    have t2 : cells.drop (off + lo + nm) = c1.drop (lo + nm) ++ c2 := by
                      rw [show off + lo + nm = off + (lo + nm) by omega, ← List.drop_drop, p2, List.drop_append_of_le_length (by omega)]
                    have t3 : cells.drop (off + k) = c2 := by
                      rw [← List.drop_drop, p2, ← hc1, List.drop_left]
                    rw [t1, t2, t3]
                    simp [List.append_assoc]
                  have hone : ∀ v ∈ news.take nm, v.oneCell' = true := fun v hv => heln.all (fun x cs h => h.one) v hv
                  have hst : ∃ w', (storeCells ad (news.take nm)).run P w = .ok () w' ∧ StW w w' blk ∧ BlkIs w' blk (cells.take (off + lo) ++ news.take nm ++ cells.drop (off + lo + (news.take nm).length)) := by
                    rcases had with h0 | h0
                    · have hz : nm = 0 := by omega
                      have : news.take nm = [] := by rw [hz]; rfl
                      rw [this]
                      exact ⟨w, by simp [storeCells], StW.refl w blk, by simpa using k4⟩
                    · subst h0
                      obtain ⟨w', h1, h2, h3⟩ := run_storeCells_blk (P := P) (off := off + lo) (news.take nm) 0 k4 (by rw [hnt]; omega) hone
                      exact ⟨w', h1, h2, by simpa using h3⟩
                  obtain ⟨w', h1, h2, h3⟩ := hst
                  rw [hmem] at h3
                  have hrun := run_copy (yt := yt) (ty := ty) (c := cap) ht hi (y := b) (k := m.length) (n := n) (a := ad) (w' := w') (by rw [his, hsz, ← hT1]; exact hg) (by rw [his, hsz, Nat.mul_one, ← hnm]; exact h1)
                  have hu := hs.upd e1 e3 q2 k6 h2.os h2.tape h2.output (by rw [h2.size]; exact Nat.le_refl _) (fun b hb _ => h2.other b hb) (.var gs') ⟨q1, q2, blk, _, e3, h3, r2, k6⟩
                  refine ⟨_, w', hrun, ?_, hu.1, hu.2⟩
                  show [_] = [_]
                  rw [hmt, hmtl, hnm]
                · cases h
              · cases h
            · cases h
          · cases h
        · cases h
    · cases h
  · cases h

end
end Go.V
