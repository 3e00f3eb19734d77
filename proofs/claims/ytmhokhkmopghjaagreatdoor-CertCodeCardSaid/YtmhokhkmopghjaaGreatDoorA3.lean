/- Part of the proof. -/
import Derived.Lib.ConvBytes
import Derived.Laws.BytesArg
import Derived.Laws.Tables
import Derived.MapKept
import Derived.Maps.RangeRun
import Derived.Test.YtmhokhkmopghjaaGreatDoorA2
set_option linter.all false
set_option linter.unusedVariables false
set_option linter.unusedSectionVars false
set_option linter.unusedSimpArgs false
namespace Go.V
variable [Codes]
section
variable {C:Cfg} {P:Program}
structure Gives (P:Program) (w:World) (size:Nat) (y:Value) (n:Nat) (news:List Value):Prop where
 len:∀ w',(Builtin.lenOf y).run P w' = .ok n w'
 cells:∀ w',(∀ b,b < w.heap.size→w'.heap[b]? = w.heap[b]?)→∀ k,k≤n→(Builtin.firstCells size k y).run P w' = .ok (news.take (k * size)).toArray w'
theorem zaE.grow {w w':World} (hw:∀ b,b < w.heap.size→w'.heap[b]? = w.heap[b]?) {blk off:Nat} {cs:List Value} (h:zaE w blk off cs):zaE w' blk off cs:=fun j v e=>by
 have h1:=h j v e
 rw [← h1]
 exact World.cell?_of_block (hw blk (World.block_lt_of_cell? w _ h1))
theorem zcq {w:World} {size blk off n c:Nat} {cs:List Value} (h:zaE w blk off cs) (hl:cs.length = n * size):Gives P w size (.slice (some ⟨blk,off,none⟩) n c) n cs :=
 ⟨fun w'=>rfl,fun w' hw k hk=>by
  have h1:=(h.grow hw).take (k * size)
  have h2:(cs.take (k * size)).length = k * size:=by
   rw [List.length_take,hl]
   exact Nat.min_eq_left (Nat.mul_le_mul_right _ hk)
  have h3:=zdQ (P:=P) h1
  rw [h2] at h3
  exact h3⟩
theorem zlZ {w:World} {size n c:Nat} (_hn:n = 0):Gives P w size (.slice none n c) n [] :=
 ⟨fun w'=>rfl,fun w' hw k hk=>by simp [Builtin.firstCells]⟩
theorem zdC {w:World} {size c:Nat} (a:Option Addr):Gives P w size (.slice a 0 c) 0 [] :=
 ⟨fun w'=>rfl,fun w' hw k hk=>by
  obtain rfl:k = 0:=by omega
  cases a <;> simp [Builtin.firstCells,loadCells,loadCellsFrom]⟩
theorem toBytes_length (s:ByteArray):(zau s).length = s.size:=by
 simp [zau]
theorem zl0 {w:World} (s:ByteArray):Gives P w 1 (.string s) s.size ((zau s).map (Value.int .u8)) :=
 ⟨fun w'=>rfl,fun w' hw k hk=>by
  simp only [Builtin.firstCells,Sem.run_pure,Nat.mul_one]
  congr 1
  apply Array.ext'
  simp only [Array.toList_map,zau,List.map_map,← List.map_take]
  have:(s.extract 0 k).data.toList = s.data.toList.take k:=by
   simp [ByteArray.extract,ByteArray.copySlice]
  rw [this]
  rfl⟩
def slStr (d:TypeDesc):Prop:=d = .string ∨ ∃ e,d = .slice e
theorem zbK {w w' : World} {t yt ty e : TypeId} {i : TypeInfo} {d : TypeDesc} (ht : P.underlying t = some (.slice e)) (hyt : P.underlying yt = some d) (hd : slStr d) (hi : P.info? e = some i)
    {base : Option Addr} {n c k : Nat} {y : Value} {news : List Value} (hy : Gives P w i.size y k news) (hl : news.length = k * i.size) (hroom : n + k ≤ c)
    (hst : match base with | some a => (storeCells (a.add (n * i.size)) news).run P w = .ok () w' | none => w' = w) :
    (Builtin.append_ #[t, yt] ty #[.slice base n c, y]).run P w = .ok (.slice base (n + k) c) w' := by
  have h1 := hy.len w
  have h2 := hy.cells w (fun _ _ => rfl) k (Nat.le_refl _)
  rw [← hl, List.take_length] at h2
  cases base with
  | none =>
    simp only at hst
    subst hst
    rcases hd with rfl | ⟨e2, rfl⟩ <;>
    simp [Builtin.append_, run_underlying ht, run_underlying hyt, sizeOf, typeInfo, hi, h1, h2, hroom]
  | some a =>
    simp only at hst
    rcases hd with rfl | ⟨e2, rfl⟩ <;>
    simp [Builtin.append_, run_underlying ht, run_underlying hyt, sizeOf, typeInfo, hi, h1, h2, hroom, hst]
theorem zb0 {w : World} {t yt ty e : TypeId} {i : TypeInfo} {d : TypeDesc} {z : Value} (ht : P.underlying t = some (.slice e)) (hyt : P.underlying yt = some d) (hd : slStr d) (hi : P.info? e = some i) (hz : i.zero = some z)
    {base : Option Addr} {n c k : Nat} {y : Value} {olds news : List Value} (ho : Gives P w i.size (.slice base n c) n olds) (hol : olds.length = n * i.size) (hy : Gives P w i.size y k news) (hl : news.length = k * i.size) (hroom : c < n + k)
    (h63 : ((n + k : Nat) : Int) ≤ 9223372036854775807) (hfit : Builtin.nextslicecap (n + k) c * i.bytes ≤ 281474976710656) :
    (Builtin.append_ #[t, yt] ty #[.slice base n c, y]).run P w =
      .ok (.slice (some ⟨w.heap.size, 0, none⟩) (n + k) (grownCap w (n + k) c e)) (w.drew.alloc (.cells (olds ++ news ++ (Builtin.zeroCells z.cells (grownCap w (n + k) c e - (n + k))).toList).toArray e)) := by
  have h1 := hy.len w
  have h2 := hy.cells w.drew (fun _ _ => rfl) k (Nat.le_refl _)
  rw [← hl, List.take_length] at h2
  have h3 := ho.cells w.drew (fun _ _ => rfl) n (Nat.le_refl _)
  rw [← hol, List.take_length] at h3
  have hn : ¬ (n + k ≤ c) := by omega
  have h63' : ¬ (9223372036854775807 < ((n : Int) + (k : Int))) := by omega
  have h48' : ¬ (281474976710656 < Builtin.nextslicecap (n + k) c * i.bytes) := by omega
  have e1 : (olds ++ news ++ (Builtin.zeroCells z.cells (grownCap w (n + k) c e - (n + k))).toList).toArray = olds.toArray ++ news.toArray ++ Builtin.zeroCells z.cells (grownCap w (n + k) c e - (n + k)) := by
    apply Array.ext'
    simp
  rw [e1]
  rcases hd with rfl | ⟨e2, rfl⟩ <;>
  simp [Builtin.append_, run_underlying ht, run_underlying hyt, sizeOf, typeInfo, zeroValue, hi, hz, h1, hn, h63', h48', Question.forced, h2, h3, newRow, grownCap] <;>
  (congr 2; apply Array.ext'; simp)
theorem zkc {g:Gh} {s:St} {tm:Array Value} {tms:List (Array Value)} {w:World} (hs:StR g s tm tms w) {e:Nat} {v:AV} {T:Ty} {l:List T.den} (h:viewA C s.bxs e v = some ⟨T,l⟩) {x:Value} (hx:VR g v x) :
  ∃ news,Gives P w T.size x l.length news∧Elems (CR g.fz T) l news:=by
 unfold viewA at h
 split at h
 ·rename_i b off m lo n
  split at h
  ·rename_i gs hb
   split at h
   ·rename_i k T' l' gs' hd
    split at h
    ·rename_i hk
     have hT1:=hk.2
     simp only [sI,Sigma.mk.injEq] at h
     obtain ⟨rfl,h⟩:=h
     obtain rfl:=eq_of_heq h
     have hx':GR g (.vsl b off m lo n) [x]:=hx
     obtain ⟨gb,blk,cap,e1,e2,e3,e4,e5,a,e6,e7,e8⟩:=hx'
     simp only [sC,and_true] at e6
     subst e6
     obtain ⟨gb',k1,k2⟩:=hs.bxs.box _ _ hb
     rw [e1] at k1
     cases k1
     obtain ⟨_,_,blk',cells,k3,k4,k5,_⟩:=k2
     rw [e3] at k3
     cases k3
     obtain ⟨_,h2⟩:=za8 hd k5
     obtain ⟨c1,c2,h3,h4,_⟩:=h2
     have h4':CR g.fz (.arr k T') l' c1:=h4
     have hll:=h4'.1
     have hT:∀ (x:T'.den) (cs:List Value),CR g.fz T' x cs→cs.length = T'.size:=fun x cs h=>h.length
     have hcl:=h4'.2.length hT
     have hs1:=h4'.2.split hT lo (by omega)
     have hs2:=hs1.2.split hT n (by rw [List.length_drop]; omega)
     have hlen:((l'.drop lo).take n).length = n:=by rw [List.length_take,List.length_drop]; omega
     refine ⟨_,?_,hs2.1⟩
     rw [hlen]
     have hcells:zaE w blk (off + lo) ((c1.drop (lo * T'.size)).take (n * T'.size)):=by
      have h5:=k4.cellsAt off
      rw [h3] at h5
      have h6:=(h5.left.drop (lo * T'.size)).take (n * T'.size)
      simpa [hT1] using h6
     have hl2:((c1.drop (lo * T'.size)).take (n * T'.size)).length = n * T'.size:=by
      rw [List.length_take,List.length_drop,hcl,hT1]
      omega
     rcases e8 with h0 | h0
     ·have hn0:n = 0:=by omega
      subst hn0
      obtain ⟨ab,ao,as⟩:=a
      simp only at e7
      subst e7
      rw [Nat.zero_mul,List.take_zero]
      exact zcq (fun j v e=>by simp at e) (by simp)
     ·rw [h0]
      exact zcq hcells hl2
    ·cases h
   ·cases h
  ·cases h
 ·obtain ⟨a,cap,rfl,h2,h3⟩:=zc1 hs h hx
  rcases h3 with ⟨rfl,rfl⟩ | ⟨blk,off,cs,rfl,h4,h5,_⟩
  ·exact ⟨[],zdC _,rfl⟩
  ·exact ⟨cs,zcq h5 (h4.length (fun x cs h=>h.length)),h4⟩
theorem elems_ints {fz:Nat→Nat→Option Value} (k:IntKind):∀ l:List Int,Elems (CR fz (.int k)) l (l.map (Value.int k))
 | []=>rfl
 | x :: l=>⟨[.int k x],l.map (Value.int k),rfl,rfl,elems_ints k l⟩
theorem zhs {g:Gh} {s:St} {tm:Array Value} {tms:List (Array Value)} {w:World} (hs:StR g s tm tms w) {e:Nat} {y:AV} {T:Ty} {l:List T.den} (h:moreV C s.bxs e y = some ⟨T,l⟩) {b:Value} (hy:VR g y b) :
  ∃ news,Gives P w T.size b l.length news∧Elems (CR g.fz T) l news:=by
 unfold moreV at h
 split at h
 ·rename_i s'
  simp only [sI,Sigma.mk.injEq] at h
  obtain ⟨rfl,h⟩:=h
  obtain rfl:=eq_of_heq h
  have hy':[b] = [Value.string s']:=hy
  simp only [sC,and_true] at hy'
  subst hy'
  refine ⟨_,?_,elems_ints .u8 (zau s')⟩
  rw [toBytes_length]
  exact zl0 s'
 ·exact zkc hs h hy
def fzPut (fz:Nat→Nat→Option Value) (blk from_:Nat) (cs:List Value):Nat→Nat→Option Value :=
 fun b o=>if b = blk∧from_≤o∧o < from_ + cs.length then cs[o - from_]? else fz b o
theorem zfL {fz:Nat→Nat→Option Value} {blk from_:Nat} {cs:List Value}:Fz (fzPut fz blk from_ cs) blk from_ cs:=fun j v e=>by
 have hlt:=(List.getElem?_eq_some_iff.1 e).1
 unfold fzPut
 rw [if_pos ⟨rfl,by omega,by omega⟩,Nat.add_sub_cancel_left]
 exact e
theorem zek {fz:Nat→Nat→Option Value} {blk from_:Nat} {cs:List Value} (hn:∀ o,from_≤o→o < from_ + cs.length→fz blk o = none) {b o:Nat} {v:Value} (h:fz b o = some v):fzPut fz blk from_ cs b o = some v:=by
 unfold fzPut
 split
 ·rename_i hc
  obtain ⟨rfl,h1,h2⟩:=hc
  rw [hn o h1 h2] at h
  cases h
 ·exact h
theorem zeO {fz:Nat→Nat→Option Value} {blk from_:Nat} {cs:List Value} {b o:Nat} (h:fzPut fz blk from_ cs b o ≠ none):fz b o ≠ none ∨ b = blk:=by
 unfold fzPut at h
 split at h
 ·rename_i hc; exact .inr hc.1
 ·exact .inl h
theorem zeP {fz:Nat→Nat→Option Value} {blk from_:Nat} {cs:List Value} {o:Nat} (h:fz blk o = none) (ho:from_ + cs.length≤o):fzPut fz blk from_ cs blk o = none:=by
 unfold fzPut
 rw [if_neg (by omega)]
 exact h
theorem zif {w:World} (cs:List Value) (e:TypeId):BlkIs (w.drew.alloc (.cells cs.toArray e)) w.heap.size cs:=zbC w.drew cs e
structure AppT (C:Cfg) (P:Program) (t yt e:Nat) (S:Ty):Prop where
 out:∃ (i:TypeInfo) (z:Value) (d:TypeDesc),P.underlying t = some (.slice e)∧P.underlying yt = some d∧slStr d∧P.info? e = some i∧i.size = S.size∧i.bytes≤65536∧i.zero = some z∧z.cells.size = S.size∧S.size ≠ 0
theorem appT {t yt e:Nat} {S:Ty} (hC:CfgOK C P) (hu:C.under t = .sl e) (h1:C.ty e = some S) (h2:C.size e ≠ 0) (h3:ziT (C.under yt) = true):AppT C P t yt e S:=by
 obtain ⟨h4,i,z,h5,h6,h7,h8,h9,h10⟩:=hC.ty _ _ h1
 have hd:∃ d,P.underlying yt = some d∧slStr d:=by
  cases hy:C.under yt <;> rw [hy] at h3 <;> simp only [ziT,sF] at h3
  ·exact ⟨_,hC.str _ hy,.inl rfl⟩
  ·exact ⟨_,hC.sl _ _ hy,.inr ⟨_,rfl⟩⟩
 obtain ⟨d,hd1,hd2⟩:=hd
 have:=(h10 (fun _ _=>none)).length
 exact ⟨i,z,d,hC.sl _ _ hu,hd1,hd2,h5,by rw [h6,h4],h8,h9,by rw [← this]; simp,by rw [h4]; exact h2⟩
theorem zel (w:World) (need old:Nat) (e:TypeId) (z:Value) (n:Nat) (hz:z.cells.size = n):(Builtin.zeroCells z.cells (grownCap w need old e - need)).toList.length = (grownCap w need old e - need) * n:=by
 rw [Array.length_toList,size_zeroCells,hz]
theorem zkd {n k c b:Nat} (h:c < n + k) (hl:n + k≤zac) (hb:b≤65536):Builtin.nextslicecap (n + k) c * b≤281474976710656:=by
 refine growslice_fits h ?_
 have h1:(n + k) * b≤1073741824 * 65536:=Nat.mul_le_mul hl hb
 omega
theorem zl1 {g:Gh} {w:World} {S:Ty} {L:List S.den} {cs rest:List Value} {e:TypeId} (hL:Elems (CR g.fz S) L cs) {cap:Nat} (hc:L.length≤cap) (hr:rest.length = (cap - L.length) * S.size) (hn:∀ o,g.fz w.heap.size o = none) :
  BoxR g (.row S false L) ⟨true,true,some w.heap.size,0,L.length,cap,S.size,none⟩ (w.drew.alloc (.cells (cs++rest).toArray e)):=by
 have hlc:=hL.length (fun x cs h=>h.length)
 refine ⟨rfl,rfl,rfl,hc,cs++rest,cs,zif _ _,?_,hL,?_,fun _=>hn,fun h=>nomatch h⟩
 ·rw [List.length_append,hlc,hr,← Nat.add_mul]
  simp only
  rw [Nat.zero_add,Nat.add_sub_cancel' hc]
  exact Nat.le_refl _
 ·intro j v e
  simp only [Nat.zero_add]
  rw [List.getElem?_append_left (List.getElem?_eq_some_iff.1 e).1]
  exact e
end
end Go.V
namespace Go.V
variable [Codes]
section
theorem FzOK.noneAt {g:Gh} {w:World} (h:FzOK g w) {b:Nat} (hb:w.heap.size≤b) (o:Nat):g.fz b o = none:=by
 cases e:g.fz b o with
 | none=>rfl
 | some v=>have:=h.lt (b:=b) (o:=o) (by rw [e]; simp); omega
theorem zo3 {g:Gh} {s:St} {tm:Array Value} {tms:List (Array Value)} {w:World} (hs:StR g s tm tms w) {k:Nat} {gb:Gb} (hg:g.bx k = some gb) (hr:gb.isRow = true) {S:Ty} {L:List S.den} {cs rest:List Value} {e:TypeId}
  (hL:Elems (CR g.fz S) L cs) {cap:Nat} (hc:L.length≤cap) (hrl:rest.length = (cap - L.length) * S.size) (fz:Bool) :
  ∃ g',VR g' (.row k .whole) (.slice (some ⟨w.heap.size,0,none⟩) L.length cap)∧StR g' ((Eff.app k (.row S fz L)).apply s) tm tms (w.drew.alloc (.cells (cs++rest).toArray e))∧Tr g w g' (w.drew.alloc (.cells (cs++rest).toArray e)):=by
 have hblk:BlkIs (w.drew.alloc (.cells (cs++rest).toArray e)) w.heap.size (cs++rest):=zif _ _
 have hn:=fun o=>hs.fz.noneAt (Nat.le_refl w.heap.size) o
 have hlc:=hL.length (fun x cs h=>h.length)
 let fz':=if fz = true then fzPut g.fz w.heap.size 0 cs else g.fz
 let gb':Gb:=⟨true,true,some w.heap.size,0,L.length,cap,S.size,none⟩
 have hmono:∀ b o v,g.fz b o = some v→fz' b o = some v:=by
  intro b o v e
  show (if fz = true then fzPut g.fz w.heap.size 0 cs else g.fz) b o = some v
  split
  ·exact zek (fun o _ _=>hn o) e
  ·exact e
 have hh:∀ b,b < w.heap.size→(w.drew.alloc (.cells (cs++rest).toArray e)).heap[b]? = w.heap[b]?:=fun b hb=>(zcy w _).block b hb (by simp)
 have hsome:∀ b o,fz' b o ≠ none→g.fz b o ≠ none ∨ b = w.heap.size:=by
  intro b o h
  have h':(if fz = true then fzPut g.fz w.heap.size 0 cs else g.fz) b o ≠ none:=h
  split at h'
  ·exact zeO h'
  ·exact .inl h'
 have hok:FzOK ⟨fz',fun j=>if j = k then some gb' else g.bx j⟩ (w.drew.alloc (.cells (cs++rest).toArray e)):=by
  intro b o v h
  have h':(if fz = true then fzPut g.fz w.heap.size 0 cs else g.fz) b o = some v:=h
  split at h'
  ·unfold fzPut at h'
   split at h'
   ·rename_i hc
    obtain ⟨rfl,_,h3⟩:=hc
    refine zdA ?_ (hL.one v (List.mem_of_getElem? h'))
    rw [hblk.cell,List.getElem?_append_left (by omega)]
    simpa using h'
   ·exact hs.fz.grow hh b o v h'
  ·exact hs.fz.grow hh b o v h'
 have hbox:BoxR ⟨fz',fun j=>if j = k then some gb' else g.bx j⟩ (.row S fz L) gb' (w.drew.alloc (.cells (cs++rest).toArray e)):=by
  refine ⟨rfl,rfl,rfl,hc,cs++rest,cs,hblk,?_,hL.mono (fun x cs h=>h.mono hmono),?_,?_,?_⟩
  ·rw [List.length_append,hlc,hrl,← Nat.add_mul]
   show 0 + cap * S.size≤_
   rw [Nat.zero_add,Nat.add_sub_cancel' hc]
   exact Nat.le_refl _
  ·intro j v e
   show (cs++rest)[0 + j]? = some v
   rw [Nat.zero_add,List.getElem?_append_left (List.getElem?_eq_some_iff.1 e).1]
   exact e
  ·intro hf o
   show (if fz = true then fzPut g.fz w.heap.size 0 cs else g.fz) w.heap.size o = none
   rw [if_neg (by rw [hf]; decide)]
   exact hn o
  ·intro hf
   refine ⟨?_,?_⟩
   ·show Fz (if fz = true then fzPut g.fz w.heap.size 0 cs else g.fz) w.heap.size 0 cs
    rw [if_pos hf]
    exact zfL
   ·intro o ho
    show (if fz = true then fzPut g.fz w.heap.size 0 cs else g.fz) w.heap.size o = none
    rw [if_pos hf]
    exact zeP (hn o) ho
 obtain ⟨h1,h2,_⟩:=hs.app hg hr fz' gb' hmono (fun b o h=>by
   rcases hsome b o h with h | h
   ·exact .inl h
   ·exact .inr (.inl (by omega))) hok rfl rfl rfl (by simp) (fun b _ hb=>hh b hb) (fun blk e1 _=>.inl (by cases e1; exact Nat.le_refl _)) (.row S fz L) hbox
 exact ⟨_,⟨gb',_,if_pos rfl,rfl,rfl,rfl⟩,h1,h2⟩
theorem zoy {g:Gh} {s:St} {tm:Array Value} {tms:List (Array Value)} {w:World} (hs:StR g s tm tms w) {k:Nat} {gb:Gb} (hg:g.bx k = some gb) (hr:gb.isRow = true) {S:Ty} {L:List S.den} {fz:Bool} {gb':Gb} {v:Value}
  (hb:BoxR g (.row S fz L) gb' w) (ho:∀ blk,gb'.blk = some blk→gb'.own = true→gb.blk = some blk∧gb.own = true) (hv:WinR gb' .whole v) :
  ∃ g',VR g' (.row k .whole) v∧StR g' ((Eff.app k (.row S fz L)).apply s) tm tms w∧Tr g w g' w:=by
 obtain ⟨h1,h2,_⟩:=hs.app hg hr g.fz gb' (fun _ _ _ h=>h) (fun _ _ h=>.inl h) (fun b o v h=>hs.fz b o v h) rfl rfl rfl (Nat.le_refl _) (fun _ _ _=>rfl) (fun blk e1 e2=>.inr (ho blk e1 e2)) (.row S fz L)
  (by
   obtain ⟨h1,h2,h3,h4,h5⟩:=hb
   exact ⟨h1,h2,h3,h4,h5⟩)
 exact ⟨_,⟨gb',v,if_pos rfl,hb.1,rfl,hv⟩,h1,h2⟩
theorem appIn {g : Gh} {s : St} {tm : Array Value} {tms : List (Array Value)} {w w' : World} (hs : StR g s tm tms w) {k : Nat} {gb : Gb} (hg : g.bx k = some gb) (hr : gb.isRow = true) {blk : Nat} (hblk : gb.blk = some blk) (hown : gb.own = true)
    {S : Ty} {L m : List S.den} {olds news cells : List Value} {so cap : Nat} {fz : Bool} (hb : BlkIs w blk cells) (ho : Elems (CR g.fz S) L olds) (hn : Elems (CR g.fz S) m news) (hcells : ∀ j v, olds[j]? = some v → cells[so + j]? = some v)
    (hcap : L.length + m.length ≤ cap) (hfit : so + cap * S.size ≤ cells.length) (hw : StW w w' blk) (hb' : BlkIs w' blk (cells.take (so + olds.length) ++ news ++ cells.drop (so + olds.length + news.length)))
    (hff : fz = false → ∀ o, g.fz blk o = none) (hft : fz = true → Fz g.fz blk so olds ∧ ∀ o, so + olds.length ≤ o → g.fz blk o = none) :
    ∃ g', VR g' (.row k .whole) (.slice (some ⟨blk, so, none⟩) (L.length + m.length) cap) ∧ StR g' ((Eff.app k (.row S fz (L ++ m))).apply s) tm tms w' ∧ Tr g w g' w' := by
  have hT : ∀ (x : S.den) (cs : List Value), CR g.fz S x cs → cs.length = S.size := fun x cs h => h.length
  have hol := ho.length hT
  have hnl := hn.length hT
  have hle : so + olds.length + news.length ≤ cells.length := by
    have h1 := Nat.mul_le_mul_right S.size hcap
    rw [Nat.add_mul] at h1
    omega
  let fz' := if fz = true then fzPut g.fz blk (so + olds.length) news else g.fz
  let gb' : Gb := ⟨true, true, some blk, so, (L ++ m).length, cap, S.size, none⟩
  have hmono : ∀ b o v, g.fz b o = some v → fz' b o = some v := by
    intro b o v e
    show (if fz = true then fzPut g.fz blk (so + olds.length) news else g.fz) b o = some v
    split
    · rename_i hf
      exact zek (fun o h1 _ => (hft hf).2 o h1) e
    · exact e
  have hsome : ∀ b o, fz' b o ≠ none → g.fz b o ≠ none ∨ b = blk := by
    intro b o h
    have h' : (if fz = true then fzPut g.fz blk (so + olds.length) news else g.fz) b o ≠ none := h
    split at h'
    · exact zeO h'
    · exact .inl h'
  have hcell : ∀ o, o < so + olds.length ∨ so + olds.length + news.length ≤ o → w'.cell? ⟨blk, o, none⟩ = w.cell? ⟨blk, o, none⟩ := by
    intro o h
    rw [hb'.cell, hb.cell, zcM _ _ _ _ hle]
    rcases h with h | h
    · rw [if_pos h]
    · rw [if_neg (by omega), if_neg (by omega)]
  have hold : ∀ b o v, g.fz b o = some v → Keeps w' b o v := by
    intro b o v e
    by_cases hbb : b = blk
    · subst hbb
      have h1 : fz = true := by
        cases hf : fz
        · rw [hff hf o] at e; cases e
        · rfl
      have h2 : o < so + olds.length := by
        by_cases h3 : o < so + olds.length
        · exact h3
        · rw [(hft h1).2 o (by omega)] at e; cases e
      have k := hs.fz _ _ _ e
      refine ⟨fun hv => (hcell o (.inl h2)).trans (k.1 hv), fun hv => ?_⟩
      obtain ⟨es, ck, _, k2⟩ := k.2 hv
      obtain ⟨_, _, _, k3, _⟩ := hb
      rw [k2] at k3
      cases k3
    · exact (hs.fz b o v e).same (hw.other b hbb)
  have hok : FzOK ⟨fz', fun j => if j = k then some gb' else g.bx j⟩ w' := by
    intro b o v h
    have h' : (if fz = true then fzPut g.fz blk (so + olds.length) news else g.fz) b o = some v := h
    split at h'
    · unfold fzPut at h'
      split at h'
      · rename_i hc
        obtain ⟨rfl, h2, h3⟩ := hc
        refine zdA ?_ (hn.one v (List.mem_of_getElem? h'))
        rw [hb'.cell, zcM _ _ _ _ hle, if_neg (by omega), if_pos h3]
        exact h'
      · exact hold b o v h'
    · exact hold b o v h'
  have hbox : BoxR ⟨fz', fun j => if j = k then some gb' else g.bx j⟩ (.row S fz (L ++ m)) gb' w' := by
    refine ⟨rfl, rfl, rfl, by simp only [List.length_append, gb']; exact hcap, _, olds ++ news, hb', ?_, (ho.append hn).mono (fun x cs h => h.mono hmono), ?_, ?_, ?_⟩
    · simp only [List.length_append, List.length_take, List.length_drop]
      show so + cap * S.size ≤ _
      omega
    · intro j v e
      show (cells.take (so + olds.length) ++ news ++ cells.drop (so + olds.length + news.length))[so + j]? = some v
      rw [zcM _ _ _ _ hle]
      by_cases hj : j < olds.length
      · rw [List.getElem?_append_left hj] at e
        rw [if_pos (by omega)]
        exact hcells j v e
      · rw [List.getElem?_append_right (by omega)] at e
        have := (List.getElem?_eq_some_iff.1 e).1
        rw [if_neg (by omega), if_pos (by omega), show so + j - (so + olds.length) = j - olds.length by omega]
        exact e
    · intro hf o
      show (if fz = true then fzPut g.fz blk (so + olds.length) news else g.fz) blk o = none
      rw [if_neg (by rw [hf]; decide)]
      exact hff hf o
    · intro hf
      refine ⟨?_, ?_⟩
      · show Fz (if fz = true then fzPut g.fz blk (so + olds.length) news else g.fz) blk so (olds ++ news)
        rw [if_pos hf]
        intro j v e
        by_cases hj : j < olds.length
        · rw [List.getElem?_append_left hj] at e
          exact zek (fun o h1 _ => (hft hf).2 o h1) ((hft hf).1 j v e)
        · rw [List.getElem?_append_right (by omega)] at e
          have := zfL (fz := g.fz) (blk := blk) (from_ := so + olds.length) (cs := news) (j - olds.length) v e
          rwa [show so + olds.length + (j - olds.length) = so + j by omega] at this
      · intro o h
        show (if fz = true then fzPut g.fz blk (so + olds.length) news else g.fz) blk o = none
        rw [if_pos hf]
        have h2 : so + (olds ++ news).length ≤ o := h
        rw [List.length_append] at h2
        exact zeP ((hft hf).2 o (by omega)) (by omega)
  obtain ⟨h1, h2, _⟩ := hs.app hg hr fz' gb' hmono (fun b o h => by
      rcases hsome b o h with h | h
      · exact .inl h
      · exact .inr (.inr (by rw [h]; exact ⟨hblk, hown⟩))) hok hw.os hw.tape hw.output (by rw [hw.size]; exact Nat.le_refl _) (fun b h1 _ => hw.other b (fun e => h1 (by rw [e]; exact ⟨hblk, hown⟩)))
      (fun blk' e1 _ => .inr (by cases e1; exact ⟨hblk, hown⟩)) (.row S fz (L ++ m)) hbox
  exact ⟨_, ⟨gb', _, if_pos rfl, rfl, rfl, by simp only [WinR, gb', List.length_append]⟩, h1, h2⟩
end
end Go.V
namespace Go.V
variable [Codes]
section
variable {C:Cfg} {P:Program}
theorem zcr {g g':Gh} (h:g'.fz = g.fz) {T:Ty} {fz:Bool} {l:List T.den} {gb:Gb} {w:World} (hb:BoxR g (.row T fz l) gb w):BoxR g' (.row T fz l) gb w:=by
 obtain ⟨h1,h2,h3,h4,h5⟩:=hb
 refine ⟨h1,h2,h3,h4,?_⟩
 rw [h]
 exact h5
theorem zht {g:Gh} {s:St} {tm:Array Value} {tms:List (Array Value)} {w:World} (hs:StR g s tm tms w) {key:Nat} (hk:find s.bxs key = none) {S:Ty} {L:List S.den} {cs rest:List Value} {e:TypeId}
  (hL:Elems (CR g.fz S) L cs) {cap:Nat} (hc:L.length≤cap) (hr:rest.length = (cap - L.length) * S.size) :
  let gb:Gb:=⟨true,true,some w.heap.size,0,L.length,cap,S.size,none⟩
  let w':=w.drew.alloc (.cells (cs++rest).toArray e)
  VR (g.put key gb) (.row key .whole) (.slice (some ⟨w.heap.size,0,none⟩) L.length cap)∧StR (g.put key gb) ((Eff.add key (.row S false L)).apply s) tm tms w'∧Tr g w (g.put key gb) w':=by
 intro gb w'
 have hb:=zcr (g':=g.put key gb) rfl (zl1 (w:=w) (e:=e) hL hc hr (fun o=>hs.fz.noneAt (Nat.le_refl _) o))
 obtain ⟨h1,h2,_⟩:=hs.add hk (zcy w _) (.row S false L) gb hb (fun blk e1 _=>by cases e1; exact Nat.le_refl _)
 exact ⟨⟨gb,_,Gh.put_same _ _ _,rfl,rfl,rfl⟩,h1,h2⟩
theorem StR.frzB {g:Gh} {s:St} {tm:Array Value} {tms:List (Array Value)} {w:World} (h:StR g s tm tms w) (b:Nat) :
  ∃ fz',StR ⟨fz',g.bx⟩ { s with bxs:=frzB s.bxs b } tm tms w∧Tr g w ⟨fz',g.bx⟩ w:=by
 unfold V.frzB
 split
 case h_2=>exact ⟨g.fz,h,Tr.refl g w⟩
 rename_i T l hf
 obtain ⟨gb,hgb,k1,k2,k3,k4,k5⟩:=h.bxs.box b _ hf
 have fin:∀ fz':Nat→Nat→Option Value,(∀ b o v,g.fz b o = some v→fz' b o = some v)→(∀ x o,fz' x o ≠ none→g.fz x o ≠ none ∨ (gb.blk = some x∧gb.own = true))→FzOK ⟨fz',g.bx⟩ w →
   BoxR ⟨fz',g.bx⟩ (.row T true l) gb w→∃ fz',StR ⟨fz',g.bx⟩ { s with bxs:=setB s.bxs b (.row T true l) } tm tms w∧Tr g w ⟨fz',g.bx⟩ w:=by
  intro fz' hfz hnew hok hbox
  have hx:ExtBut none g ⟨fz',g.bx⟩:=⟨hfz,fun _ _ _ h=>h,fun _ _ h _=>nomatch h⟩
  refine ⟨fz',⟨h.env.grow hx,h.stk.grow hx,⟨?_,?_,h.bxs.sep⟩,hok⟩,⟨rfl,rfl,rfl,Nat.le_refl _,hfz,?_,fun b h=>.inl h,fun _ _ _=>rfl⟩⟩
  ·intro j c e
   by_cases hj:b = j
   ·subst hj
    simp only [zaF,sI] at e
    subst e
    exact ⟨gb,hgb,hbox⟩
   ·simp only [zav _ _ hj] at e
    obtain ⟨a,e1,e2⟩:=h.bxs.box j c e
    refine ⟨a,e1,e2.ext hx (fun _ _ _=>rfl) (fun blk k1 k2 o k3=>?_) ?_⟩
    ·cases hz:fz' blk o with
     | none=>exact hz
     | some v =>
      rcases hnew blk o (by rw [hz]; simp) with h1 | h1
      ·exact absurd k3 h1
      ·exact (h.bxs.sep b j gb a blk hj hgb e1 h1.1 h1.2 k1 k2).elim
    ·exact zaK _
  ·intro j a e
   by_cases hj:b = j
   ·subst hj; simp only [zaF]; rfl
   ·simp only [zav _ _ hj]; exact h.bxs.dom j a e
  ·intro x o e
   rcases hnew x o e with h1 | h1
   ·exact .inl h1
   ·exact .inr (.inr ⟨b,gb,hgb,h1.1,h1.2⟩)
 cases hb:gb.blk with
 | none =>
  refine fin g.fz (fun _ _ _ h=>h) (fun _ _ h=>.inl h) h.fz ⟨k1,k2,k3,k4,?_⟩
  simp only [hb] at k5 ⊢
  exact k5
 | some blk =>
  cases ho:gb.own with
  | false =>
   refine fin g.fz (fun _ _ _ h=>h) (fun _ _ h=>.inl h) h.fz ⟨k1,k2,k3,k4,?_⟩
   simp only [hb,ho] at k5 ⊢
   exact ⟨.inl trivial,k5.2⟩
  | true =>
   simp only [hb,ho] at k5
   obtain ⟨cells,cs,c1,c2,c3,c4,c5,_⟩:=k5
   have hno:=c5 trivial
   have hold:∀ b o v,g.fz b o = some v→fzPut g.fz blk gb.off cs b o = some v:=fun b o v e=>zek (fun o _ _=>hno o) e
   refine fin (fzPut g.fz blk gb.off cs) hold (fun x o e=>?_) ?_ ⟨k1,k2,k3,k4,?_⟩
   ·rcases zeO e with h1 | h1
    ·exact .inl h1
    ·exact .inr ⟨by rw [hb,h1],ho⟩
   ·intro x o v e
    show Keeps w x o v
    have e':fzPut g.fz blk gb.off cs x o = some v:=e
    unfold fzPut at e'
    split at e'
    ·rename_i hc
     obtain ⟨rfl,h1,h2⟩:=hc
     refine zdA ?_ (c3.one v (List.mem_of_getElem? e'))
     rw [c1.cell]
     have:=c4 _ _ e'
     rwa [show gb.off + (o - gb.off) = o by omega] at this
    ·exact h.fz x o v e'
   ·simp only [hb,ho]
    refine ⟨cells,cs,c1,c2,c3.mono (fun x cs h=>h.mono hold),c4,(fun e=>nomatch e),(fun _=>⟨zfL,fun o h=>zeP (hno o) h⟩)⟩
theorem zke {g:Gh} {s:St} {tm:Array Value} {tms:List (Array Value)} {w:World} {key:Nat} {S:Ty} {L:List S.den} {v:Value} {g0:Gh} {w':World}
  (h:VR g0 (.row key .whole) v∧StR g0 ((Eff.add key (.row S false L)).apply s) tm tms w'∧Tr g w g0 w') :
  ∃ g',VR g' (.row key .whole) v∧StR g' ((Eff.add key (.row S true L)).apply s) tm tms w'∧Tr g w g' w':=by
 obtain ⟨h1,h2,h3⟩:=h
 obtain ⟨fz',h4,h5⟩:=h2.frzB key
 refine ⟨⟨fz',g0.bx⟩,h1,?_,h3.trans h5⟩
 have e:V.frzB ((Eff.add key (.row S false L)).apply s).bxs key = ((Eff.add key (.row S true L)).apply s).bxs:=by
  simp only [Eff.apply,V.frzB,zad,setB,Nat.beq_refl,cond_true]
 rw [e] at h4
 exact h4
theorem zl2 {g:Gh} {w:World} {S:Ty} {fz:Bool} {l:List S.den} {gb:Gb} (k2:BoxR g (.row S fz l) gb w) {wn:Win} {a0:Option Addr} {c:Nat} (hw:WinR gb wn (.slice a0 (wn.app l).length c)) (_hf:FzOK g w)
  (hbf:(!fz || wn.isWhole) = true) (hnc:(wn.app l).length≤c) :
  ∃ gb',BoxR g (.row S fz (wn.app l)) gb' w∧(∀ blk,gb'.blk = some blk→gb'.own = true→gb.blk = some blk∧gb.own = true)∧WinR gb' .whole (.slice a0 (wn.app l).length c):=by
 cases wn with
 | whole=>exact ⟨gb,k2,fun _ h1 h2=>⟨h1,h2⟩,hw⟩
 | part off n full =>
  have hfz:fz = false ∨ full = true:=by
   cases fz with
   | false=>exact .inl rfl
   | true=>exact .inr (by simpa [Win.isWhole] using hbf)
  obtain ⟨h1,h2,h3,h4,h5⟩:=k2
  cases hblk:gb.blk with
  | none =>
   simp only [WinR,hblk] at hw
   obtain ⟨rfl,rfl,h0,hv⟩:=hw
   simp only [hblk] at h5
   obtain ⟨rfl,ho,hc⟩:=h5
   refine ⟨gb,⟨h1,h2,by simpa [Win.app] using h3,h4,?_⟩,(fun _ h1 _=>by rw [hblk] at h1; cases h1),?_⟩
   ·simp only [hblk]
    exact ⟨by simp [Win.app],ho,hc⟩
   ·simp only [WinR,hblk]
    exact ⟨hv,h0⟩
  | some blk =>
   simp only [WinR,hblk] at hw
   obtain ⟨w1,a,c',hv,wsp,w2,w3,w4,w5⟩:=hw
   have hlw:(Win.app (.part off n full) l).length = n:=by simp only [Win.app,List.length_take,List.length_drop]; omega
   simp only [Value.slice.injEq] at hv
   obtain ⟨rfl,hn,rfl⟩:=hv
   by_cases hc0:c = 0
   ·have hnil:Win.app (.part off n full) l = []:=List.eq_nil_of_length_eq_zero (by omega)
    rw [hnil]
    obtain ⟨ab,ao,as⟩:=a
    simp only at wsp
    subst wsp
    exact ⟨⟨true,false,some ab,ao,0,0,S.size,none⟩,⟨rfl,rfl,rfl,Nat.le_refl _,.inr rfl,rfl,[],rfl,fun j v e=>by simp at e⟩,(fun _ _ h=>nomatch h),by simp [WinR,hc0]⟩
   ·have ha:a = ⟨blk,gb.off + off * gb.sz,none⟩:=by
     rcases w5 with h0 | h0
     ·exact (hc0 h0).elim
     ·exact h0
    have hT:∀ (x:S.den) (cs:List Value),CR g.fz S x cs→cs.length = S.size:=fun x cs h=>h.length
    cases fz with
    | true =>
     have hfull:full = true:=by
      rcases hfz with h | h
      ·cases h
      ·exact h
     have hcn:=w3 hfull
     have hfzc:∃ cs,Elems (CR g.fz S) l cs∧Fz g.fz blk gb.off cs:=by
      cases ho:gb.own with
      | false=>simp only [hblk,ho] at h5; obtain ⟨_,_,cs,q1,q2⟩:=h5; exact ⟨cs,q1,q2⟩
      | true=>simp only [hblk,ho] at h5; obtain ⟨_,cs,_,_,q1,_,_,q2⟩:=h5; exact ⟨cs,q1,(q2 trivial).1⟩
     obtain ⟨cs,q1,q2⟩:=hfzc
     have hs1:=q1.split hT off (by omega)
     have hs2:=hs1.2.split hT n (by rw [List.length_drop]; omega)
     refine ⟨⟨true,false,some blk,gb.off + off * gb.sz,(Win.app (.part off n full) l).length,c,S.size,none⟩,⟨rfl,rfl,rfl,hnc,.inl rfl,by show c = (Win.app (.part off n full) l).length; omega,_,hs2.1,?_⟩,(fun _ _ h=>nomatch h),by simp only [WinR,ha]⟩
     intro j v e
     rw [List.getElem?_take] at e
     split at e
     ·rw [List.getElem?_drop] at e
      have:=q2 _ v e
      simp only [h2]
      rwa [← Nat.add_assoc] at this
     ·cases e
    | false =>
    refine ⟨⟨true,gb.own,some blk,gb.off + off * gb.sz,(Win.app (.part off n full) l).length,c,S.size,none⟩,⟨rfl,rfl,rfl,hnc,?_⟩,(fun b e1 e2=>⟨by cases e1; rfl,e2⟩),by simp only [WinR,ha]⟩
    cases ho:gb.own with
    | false =>
     simp only [hblk,ho] at h5
     obtain ⟨q1,q2,_⟩:=h5
     rcases q1 with q1 | q1
     ·exact absurd q1 (by decide)
     ·subst q1
      simp only [List.length_nil] at h3
      omega
    | true =>
     simp only [hblk,ho] at h5
     obtain ⟨cells,cs,q1,q2,q3,q4,q5,q6⟩:=h5
     have hs1:=q3.split hT off (by omega)
     have hs2:=hs1.2.split hT n (by rw [List.length_drop]; omega)
     refine ⟨cells,_,q1,?_,hs2.1,?_,(fun _=>by first | exact q5 trivial | exact q5 rfl),(fun h=>nomatch h)⟩
     ·simp only [h2]
      have:=Nat.mul_le_mul_right S.size w4
      rw [Nat.add_mul] at this
      omega
     ·intro j v e
      rw [List.getElem?_take] at e
      split at e
      ·rw [List.getElem?_drop] at e
       have:=q4 _ v e
       simp only [h2]
       rwa [← Nat.add_assoc] at this
      ·cases e
theorem zkT {g:Gh} {w:World} {S:Ty} {fz:Bool} {l:List S.den} {gb:Gb} (k2:BoxR g (.row S fz l) gb w) {wn:Win} {a0:Option Addr} {c:Nat} (hw:WinR gb wn (.slice a0 (wn.app l).length c))
  (hbf:(!fz || wn.isWhole) = true) (hlt:(wn.app l).length < c) :
  ∃ blk so cells,gb.blk = some blk∧gb.own = true∧a0 = some ⟨blk,so,none⟩∧BlkIs w blk cells∧so + c * S.size≤cells.length∧True∧True ∧
   ∃ cs,Elems (CR g.fz S) (wn.app l) cs∧(∀ j v,cs[j]? = some v→cells[so + j]? = some v)∧(fz = false→∀ o,g.fz blk o = none)∧(fz = true→Fz g.fz blk so cs∧∀ o,so + cs.length≤o→g.fz blk o = none):=by
 obtain ⟨h1,h2,h3,h4,h5⟩:=k2
 cases hblk:gb.blk with
 | none =>
  exfalso
  cases wn with
  | whole=>simp only [WinR,hblk] at hw; simp only [Value.slice.injEq] at hw; omega
  | part off n full=>simp only [WinR,hblk] at hw; simp only [Value.slice.injEq] at hw; omega
 | some blk =>
  cases ho:gb.own with
  | false =>
   exfalso
   simp only [hblk,ho] at h5
   obtain ⟨q1,q2,_⟩:=h5
   cases wn with
   | whole =>
    simp only [WinR,hblk,Value.slice.injEq,Win.app] at hw hlt
    omega
   | part off n full =>
    rcases q1 with q1 | q1
    ·subst q1
     have hfull:full = true:=by simpa [Win.isWhole] using hbf
     simp only [WinR,hblk] at hw
     obtain ⟨w1,a,c',hv,_,w2,w3,w4,_⟩:=hw
     simp only [Value.slice.injEq] at hv
     have:=w3 hfull
     omega
    ·subst q1
     simp only [List.length_nil] at h3
     simp only [WinR,hblk] at hw
     obtain ⟨w1,a,c',hv,_,w2,_,w4,_⟩:=hw
     simp only [Value.slice.injEq] at hv
     omega
  | true =>
   simp only [hblk,ho] at h5
   obtain ⟨cells,cs,q1,q2,q3,q4,q5,q6⟩:=h5
   cases wn with
   | whole =>
    simp only [WinR,hblk,Value.slice.injEq] at hw
    obtain ⟨rfl,_,rfl⟩:=hw
    exact ⟨blk,gb.off,cells,rfl,rfl,rfl,q1,q2,trivial,trivial,cs,q3,q4,q5,q6⟩
   | part off n full =>
    simp only [WinR,hblk] at hw
    obtain ⟨w1,a,c',hv,_,w2,w3,w4,w5⟩:=hw
    simp only [Value.slice.injEq] at hv
    obtain ⟨rfl,hn,rfl⟩:=hv
    have hfz:fz = false:=by
     cases fz with
     | false=>rfl
     | true =>
      have hfull:full = true:=by simpa [Win.isWhole] using hbf
      have:=w3 hfull
      omega
    subst hfz
    have ha:a = ⟨blk,gb.off + off * gb.sz,none⟩:=by
     rcases w5 with h0 | h0
     ·omega
     ·exact h0
    have hT:∀ (x:S.den) (cs:List Value),CR g.fz S x cs→cs.length = S.size:=fun x cs h=>h.length
    have hs1:=q3.split hT off (by omega)
    have hs2:=hs1.2.split hT n (by rw [List.length_drop]; omega)
    refine ⟨blk,gb.off + off * gb.sz,cells,rfl,rfl,by rw [ha],q1,?_,trivial,trivial,_,hs2.1,?_,(fun _=>by first | exact q5 trivial | exact q5 rfl),(fun h=>nomatch h)⟩
    ·rw [h2]
     have:=Nat.mul_le_mul_right S.size w4
     rw [Nat.add_mul] at this
     omega
    ·intro j v e
     rw [List.getElem?_take] at e
     split at e
     ·rw [List.getElem?_drop] at e
      have:=q4 _ v e
      rw [h2]
      rwa [← Nat.add_assoc] at this
     ·cases e
theorem zkU (hC:CfgOK C P) {g:Gh} {s:St} {tm:Array Value} {tms:List (Array Value)} {w:World} (hs:StR g s tm tms w) {key t yt ty:Nat} {x y v:AV} {eff:Eff} (h:zcc C s.bxs key t x y yt = some (true,v,eff))
  (hkey:∀ k b,eff = .add k b→find s.bxs k = none) {a b:Value} (hx:VR g x a) (hy:VR g y b) :
  ∃ z w' g',(Builtin.append_ #[t,yt] ty #[a,b]).run P w = .ok z w'∧VR g' v z∧StR g' (eff.apply s) tm tms w'∧Tr g w g' w':=by
 unfold zcc at h
 split at h
 ·rename_i e hu
  split at h
  ·cases h
  ·rename_i S m hm
   split at h
   ·rename_i hcond
    obtain ⟨hty,hnz,hyt⟩:=hcond
    obtain ⟨i,z,d,ht,hd,hsl,hi,his,hby,hz,hzs,hS0⟩:=(appT hC hu hty hnz hyt).out
    obtain ⟨news,hg,hel⟩:=zhs (P:=P) hs hm hy
    rw [← his] at hg
    have hT:∀ (x:S.den) (cs:List Value),CR g.fz S x cs→cs.length = S.size:=fun x cs h=>h.length
    have hnl:news.length = m.length * i.size:=by rw [his]; exact hel.length hT
    have hone:∀ c∈news,c.oneCell' = true:=hel.all (fun x cs h=>h.one)
    have h63:∀ q:Nat,q≤zac→((q:Nat):Int)≤9223372036854775807:=fun q hq=>by unfold zac at hq; omega
    split at h
    ·-- nil
     simp only [sI,sM,decide_eq_true_eq] at h
     obtain ⟨hlim,rfl,rfl⟩:=h
     have hk:=hkey _ _ rfl
     have hx':[a] = [Value.slice none 0 0]:=hx
     simp only [sC,and_true] at hx'
     subst hx'
     by_cases hm0:m = []
     ·subst hm0
      have hn0:news = []:=hel
      subst hn0
      have hrun:=zbK (ty:=ty) (w:=w) (w':=w) ht hd hsl hi (base:=none) (n:=0) (c:=0) (k:=0) hg (by simp) (Nat.le_refl 0) rfl
      let gb:Gb:=⟨true,false,none,0,0,0,S.size,none⟩
      obtain ⟨h1,h2,_⟩:=hs.add hk (⟨rfl,rfl,rfl,Nat.le_refl _,fun _ _ _=>rfl⟩:w.grownBy w none) (.row S false []) gb ⟨rfl,rfl,rfl,Nat.le_refl _,rfl,rfl,rfl⟩ (fun blk e1 _=>by cases e1)
      exact ⟨_,w,_,hrun,⟨gb,_,Gh.put_same _ _ _,rfl,rfl,rfl,rfl⟩,h1,h2⟩
     ·have hpos:0 < 0 + m.length:=by cases m with | nil=>exact (hm0 rfl).elim | cons=>simp
      have hrun:=zb0 (ty:=ty) (w:=w) (z:=z) ht hd hsl hi hz (base:=none) (n:=0) (c:=0) (zlZ rfl) (by simp) hg hnl hpos (h63 _ (by omega)) (zkd hpos (by omega) hby)
      have hge:=grownCap_ge w (0 + m.length) 0 e
      have hr:=zht hs hk (L:=m) (cs:=news) (rest:=(Builtin.zeroCells z.cells (grownCap w (0 + m.length) 0 e - (0 + m.length))).toList) (e:=e) hel (cap:=grownCap w (0 + m.length) 0 e) (by omega) (by rw [zel _ _ _ _ _ _ hzs,Nat.zero_add])
      simp only [List.nil_append,Nat.zero_add] at hrun hr
      exact ⟨_,_,_,hrun,hr.1,hr.2.1,hr.2.2⟩
    ·-- an empty literal
     rename_i T
     simp only [sI,sM,decide_eq_true_eq] at h
     obtain ⟨hlim,rfl,rfl⟩:=h
     have hk:=hkey _ _ rfl
     have hx':GR g (.full T []) [a]:=hx
     have hnil:∃ base:Option Addr,a = .slice base 0 0:=by
      rcases hx' with ⟨_,b0,e1⟩ | ⟨blk,off,cs',e1,_,_⟩
      ·simp only [sC,and_true] at e1
       exact ⟨b0,e1⟩
      ·simp only [sC,and_true,List.length_nil] at e1
       exact ⟨_,e1⟩
     obtain ⟨base,rfl⟩:=hnil
     have main:∃ z w' g',(Builtin.append_ #[t,yt] ty #[.slice base 0 0,b]).run P w = .ok z w'∧VR g' (.row key .whole) z∧StR g' ((Eff.add key (.row S false m)).apply s) tm tms w'∧Tr g w g' w':=by
      by_cases hm0:m = []
      ·subst hm0
       have hn0:news = []:=hel
       subst hn0
       have hrun:=zbK (ty:=ty) (w:=w) (w':=w) ht hd hsl hi (base:=base) (n:=0) (c:=0) (k:=0) hg (by simp) (Nat.le_refl 0) (by cases base <;> simp [storeCells])
       let gb:Gb:=⟨true,false,none,0,0,0,S.size,base⟩
       obtain ⟨h1,h2,_⟩:=hs.add hk (⟨rfl,rfl,rfl,Nat.le_refl _,fun _ _ _=>rfl⟩:w.grownBy w none) (.row S false []) gb ⟨rfl,rfl,rfl,Nat.le_refl _,rfl,rfl,rfl⟩ (fun blk e1 _=>by cases e1)
       exact ⟨_,w,_,hrun,⟨gb,_,Gh.put_same _ _ _,rfl,rfl,rfl,rfl⟩,h1,h2⟩
      ·have hpos:0 < 0 + m.length:=by cases m with | nil=>exact (hm0 rfl).elim | cons=>simp
       have hgv:Gives P w i.size (.slice base 0 0) 0 []:=zdC _
       have hrun:=zb0 (ty:=ty) (w:=w) (z:=z) ht hd hsl hi hz (base:=base) (n:=0) (c:=0) (olds:=[]) hgv (by simp) hg hnl hpos (h63 _ (by omega)) (zkd hpos (by omega) hby)
       have hge:=grownCap_ge w (0 + m.length) 0 e
       have hr:=zht hs hk (L:=m) (cs:=news) (rest:=(Builtin.zeroCells z.cells (grownCap w (0 + m.length) 0 e - (0 + m.length))).toList) (e:=e) hel (cap:=grownCap w (0 + m.length) 0 e) (by omega) (by rw [zel _ _ _ _ _ _ hzs,Nat.zero_add])
       simp only [List.nil_append,Nat.zero_add] at hrun hr
       exact ⟨_,_,_,hrun,hr.1,hr.2.1,hr.2.2⟩
     obtain ⟨z,w',g',m1,m2,m3,m4⟩:=main
     cases C.frz.any (Nat.beq t) with
     | false=>exact ⟨z,w',g',m1,m2,m3,m4⟩
     | true =>
      obtain ⟨g2,k1,k2,k3⟩:=zke ⟨m2,m3,m4⟩
      exact ⟨z,w',g2,m1,k1,k2,k3⟩
    ·-- a literal
     rename_i T l hne
     split at h
     ·rename_i hST
      subst hST
      simp only [sI,sM,decide_eq_true_eq] at h
      obtain ⟨hlim,rfl,rfl⟩:=h
      have hk:=hkey _ _ rfl
      have hx':GR g (.full S l) [a]:=hx
      have hform:∃ (base:Option Addr) (cs':List Value),a = .slice base l.length l.length∧Elems (CR g.fz S) l cs'∧Gives P w i.size (.slice base l.length l.length) l.length cs'∧cs'.length = l.length * i.size∧((l = []) ∨ ∃ blk off,base = some ⟨blk,off,none⟩∧Fz g.fz blk off cs'):=by
       rcases hx' with ⟨rfl,b0,e1⟩ | ⟨blk,off,cs',e1,k1,k2⟩
       ·simp only [sC,and_true] at e1
        exact ⟨b0,[],e1,rfl,zdC _,by simp,.inl rfl⟩
       ·simp only [sC,and_true] at e1
        have hol:cs'.length = l.length * i.size:=by rw [his]; exact k1.length hT
        exact ⟨_,cs',e1,k1,zcq (k2.cells hs.fz k1.one) hol,hol,.inr ⟨blk,off,rfl,k2⟩⟩
      obtain ⟨base,cs',rfl,k1,hgv,hol,hbase⟩:=hform
      by_cases hm0:m = []
      ·subst hm0
       have hn0:news = []:=hel
       subst hn0
       rw [List.append_nil]
       have hrun:=zbK (ty:=ty) (w:=w) (w':=w) ht hd hsl hi (base:=base) (n:=l.length) (c:=l.length) (k:=0) hg (by simp) (Nat.le_refl _) (by cases base <;> simp [storeCells])
       rw [Nat.add_zero] at hrun
       rcases hbase with rfl | ⟨blk,off,rfl,k2⟩
       ·let gb:Gb:=⟨true,false,none,0,0,0,S.size,base⟩
        obtain ⟨h1,h2,_⟩:=hs.add hk (⟨rfl,rfl,rfl,Nat.le_refl _,fun _ _ _=>rfl⟩:w.grownBy w none) (.row S true []) gb ⟨rfl,rfl,rfl,Nat.le_refl _,rfl,rfl,rfl⟩ (fun blk e1 _=>by cases e1)
        exact ⟨_,w,_,hrun,⟨gb,_,Gh.put_same _ _ _,rfl,rfl,rfl,rfl⟩,h1,h2⟩
       ·let gb:Gb:=⟨true,false,some blk,off,l.length,l.length,S.size,none⟩
        obtain ⟨h1,h2,_⟩:=hs.add hk (⟨rfl,rfl,rfl,Nat.le_refl _,fun _ _ _=>rfl⟩:w.grownBy w none) (.row S true l) gb ⟨rfl,rfl,rfl,Nat.le_refl _,.inl rfl,rfl,cs',k1,k2⟩ (fun blk e1 e2=>by cases e2)
        exact ⟨_,w,_,hrun,⟨gb,_,Gh.put_same _ _ _,rfl,rfl,rfl⟩,h1,h2⟩
      ·have hpos:l.length < l.length + m.length:=by cases m with | nil=>exact (hm0 rfl).elim | cons=>simp
       have hrun:=zb0 (ty:=ty) (w:=w) (z:=z) ht hd hsl hi hz hgv hol hg hnl hpos (h63 _ hlim) (zkd hpos hlim hby)
       have hge:=grownCap_ge w (l.length + m.length) l.length e
       have hr:=zht hs hk (L:=l++m) (cs:=cs'++news) (rest:=(Builtin.zeroCells z.cells (grownCap w (l.length + m.length) l.length e - (l.length + m.length))).toList) (e:=e) (k1.append hel) (cap:=grownCap w (l.length + m.length) l.length e) (by rw [List.length_append]; omega) (by rw [zel _ _ _ _ _ _ hzs,List.length_append])
       rw [List.length_append] at hr
       obtain ⟨g2,q1,q2,q3⟩:=zke hr
       exact ⟨_,_,g2,hrun,q1,q2,q3⟩
     ·cases h
    ·-- a row
     rename_i bk wn
     split at h
     ·rename_i T fz l hb
      split at h
      ·rename_i hST
       subst hST
       cases hbf:(!fz || wn.isWhole) with
       | false=>rw [hbf] at h; cases h
       | true =>
        rw [hbf] at h
        simp only [cond_true,sI,sM,decide_eq_true_eq] at h
        obtain ⟨hlim,rfl,rfl⟩:=h
        have hx':GR g (.row bk wn) [a]:=hx
        obtain ⟨gb,v0,e1,e2,e3,hw⟩:=hx'
        simp only [sC,and_true] at e3
        subst e3
        obtain ⟨gb',k1,k2⟩:=hs.bxs.box _ _ hb
        rw [e1] at k1
        cases k1
        have hview:viewT C s.bxs e (.row bk wn) = some ⟨S,wn.app l⟩:=by simp only [viewT,hb]
        obtain ⟨a0,c,rfl,hnc,hcont⟩:=zc1 hs hview hx
        have hold:∃ olds,Gives P w i.size (.slice a0 (wn.app l).length c) (wn.app l).length olds∧Elems (CR g.fz S) (wn.app l) olds:=by
         rcases hcont with ⟨hnil,_⟩ | ⟨blk,off,cs,rfl,h4,h5,_⟩
         ·rw [hnil]
          exact ⟨[],zdC _,rfl⟩
         ·exact ⟨cs,zcq h5 (by rw [his]; exact h4.length hT),h4⟩
        obtain ⟨olds,hgo,heo⟩:=hold
        have hol:olds.length = (wn.app l).length * i.size:=by rw [his]; exact heo.length hT
        by_cases hroom:(wn.app l).length + m.length≤c
        ·-- there is room
         by_cases hm0:m = []
         ·subst hm0
          have hn0:news = []:=hel
          subst hn0
          have hrun:=zbK (ty:=ty) (w:=w) (w':=w) ht hd hsl hi hg (by simp) hroom (base:=a0) (by cases a0 <;> simp [storeCells])
          have hs':∃ gb',BoxR g (.row S fz (wn.app l)) gb' w∧(∀ blk,gb'.blk = some blk→gb'.own = true→gb.blk = some blk∧gb.own = true)∧WinR gb' .whole (.slice a0 (wn.app l).length c):=by
           exact zl2 k2 hw hs.fz hbf hnc
          obtain ⟨gb',p1,p2,p3⟩:=hs'
          obtain ⟨g',q1,q2,q3⟩:=zoy hs e1 e2 p1 p2 p3
          simp only [List.length_nil,Nat.add_zero,List.append_nil] at hrun ⊢
          exact ⟨_,_,g',hrun,q1,q2,q3⟩
         ·-- in place
          have hmpos:0 < m.length:=by cases m with | nil=>exact (hm0 rfl).elim | cons=>simp
          obtain ⟨blk,so,cells,p1,p2,p3,p4,p5,p6,p7,p8⟩:=zkT k2 hw hbf (by omega)
          obtain ⟨cs,q1,q2,q3,q4⟩:=p8
          subst p3
          have hcl:cs.length = (wn.app l).length * i.size:=by rw [his]; exact q1.length hT
          have hfit:so + (wn.app l).length * i.size + news.length≤cells.length:=by
           have h1:=Nat.mul_le_mul_right S.size hroom
           rw [Nat.add_mul] at h1
           rw [hnl,his]
           omega
          obtain ⟨w',r1,r2,r3⟩:=zaU (P:=P) (off:=so + (wn.app l).length * i.size) news 0 p4 (by simpa using hfit) hone
          have hrun:=zbK (ty:=ty) (w:=w) (w':=w') ht hd hsl hi hg hnl hroom (base:=some ⟨blk,so,none⟩) (by simpa [zaZ] using r1)
          rw [Nat.add_zero,← hcl] at r3
          obtain ⟨g',s1,s2,s3⟩:=appIn hs e1 e2 p1 p2 p4 q1 hel q2 hroom p5 r2 r3 q3 q4
          exact ⟨_,_,g',hrun,s1,s2,s3⟩
        ·-- in new memory
         have hlt:c < (wn.app l).length + m.length:=by omega
         have hrun:=zb0 (ty:=ty) (w:=w) (z:=z) ht hd hsl hi hz hgo hol hg hnl hlt (h63 _ hlim) (zkd hlt hlim hby)
         have hge:=grownCap_ge w ((wn.app l).length + m.length) c e
         obtain ⟨g',r1,r2,r3⟩:=zo3 hs e1 e2 (L:=wn.app l++m) (cs:=olds++news) (rest:=(Builtin.zeroCells z.cells (grownCap w ((wn.app l).length + m.length) c e - ((wn.app l).length + m.length))).toList) (e:=e) (heo.append hel)
          (cap:=grownCap w ((wn.app l).length + m.length) c e) (by rw [List.length_append]; exact hge) (by rw [zel _ _ _ _ _ _ hzs,List.length_append]) fz
         rw [List.length_append] at r1
         exact ⟨_,_,g',hrun,r1,r2,r3⟩
      ·cases h
     ·cases h
    ·cases h
   ·cases h
 ·cases h
end
end Go.V
namespace Go.V
variable [Codes]
section
variable {C:Cfg} {P:Program}
theorem ze4 (off:Nat):∀ (vs:List Value) (k:Nat) (cs:Array Value),off + k + vs.length≤cs.size →
  ((vs.zipIdx k).foldl (fun cs (x:Value × Nat)=>cs.setIfInBounds (off + x.2) x.1) cs).toList = cs.toList.take (off + k)++vs++cs.toList.drop (off + k + vs.length)
 | [],k,cs,h=>by simp
 | v :: vs,k,cs,h=>by
  simp only [List.length_cons] at h
  simp only [List.zipIdx_cons,List.foldl_cons]
  rw [ze4 off vs (k + 1) _ (by rw [Array.size_setIfInBounds]; omega)]
  simp only [Array.toList_setIfInBounds]
  have e1:(cs.toList.set (off + k) v).drop (off + (k + 1) + vs.length) = cs.toList.drop (off + k + (v :: vs).length):=by
   rw [List.drop_set_of_lt (show off + k < off + (k + 1) + vs.length by omega)]
   congr 1
   simp only [List.length_cons]
   omega
  have e2:(cs.toList.set (off + k) v).take (off + (k + 1)) = cs.toList.take (off + k)++[v]:=by
   rw [show off + (k + 1) = (off + k) + 1 by omega,List.take_succ_eq_append_getElem (show off + k < (cs.toList.set (off + k) v).length by simp; omega),List.take_set_of_le (Nat.le_refl _)]
   simp
  rw [e1,e2]
  simp
theorem zih {place:Nat→Option (Nat × Nat)} {cells:Array Value} {i:Nat} {v:Value} {ps:List (Nat × Value)} {off size:Nat} (hp:place i = some (off,size)) (hs:v.cells.size = size) (hl:off + size≤cells.size) :
  ∃ cells':Array Value,Instr.fill place cells ((i,v) :: ps) = Instr.fill place cells' ps∧cells'.toList = cells.toList.take off++v.cells.toList++cells.toList.drop (off + v.cells.toList.length):=by
 refine ⟨v.cells.zipIdx.foldl (fun cs (c,j)=>cs.setIfInBounds (off + j) c) cells,?_,?_⟩
 ·have h:¬ ((v.cells.size ≠ size || off + v.cells.size > cells.size) = true):=by simp; omega
  simp only [Instr.fill,hp]
  rw [if_neg h]
 ·have:=ze4 off v.cells.toList 0 cells (by simp; omega)
  rw [← Array.foldl_toList]
  simpa using this
theorem zii {bxs:Bxs} {T:Ty} {v:AV} {x:T.den} (h:norm bxs T v = some x):T.rd bxs v.gs = some (x,[])∧v.isAgg = T.isAgg:=by
 unfold norm at h
 split at h
 ·rename_i y hy
  cases hb:v.isAgg == T.isAgg
  ·simp [hb] at h
  ·simp only [hb,cond_true,sI] at h
   subst h
   exact ⟨hy,by simpa using hb⟩
 ·cases h
theorem zjh {g:Gh} {bxs:Bxs} {w:World} (hb:BxW g bxs w) (hf:FzOK g w) {T:Ty} {v:AV} {x:T.den} (h:norm bxs T v = some x) {cs:List Value} (hg:GsR g v.gs cs):CR g.fz T x cs :=
 rd_all hb hf (zii h).1 hg
def zfM (g:Gh):List (Nat × AV)→List (Nat × Value)→Prop
 | [],[]=>True
 | (i,v) :: l,(j,c) :: r=>i = j∧VR g v c∧zfM g l r
 | _,_=>False
theorem zeQ {g:Gh} {place:Nat→Option (Nat × Nat)} {fs:List (Nat × Nat)} (hpl:∀ i o t,fs[i]? = some (o,t)→C.size t ≠ 0→place i = some (o,C.size t)):∀ {ps:List (Nat × AV)} {vs:List (Nat × Value)} {gs gs':List AV} {cells:Array Value},
  zeA C fs ps gs = some gs'→zfM g ps vs→GsR g gs cells.toList→∃ cells',Instr.fill place cells vs = some cells'∧GsR g gs' cells'.toList
 | [],[],gs,gs',cells,h,_,hg=>by
  simp only [zeA,sI] at h
  subst h
  exact ⟨cells,rfl,hg⟩
 | [],_ :: _,_,_,_,_,hp,_=>hp.elim
 | _ :: _,[],_,_,_,_,hp,_=>hp.elim
 | (i,v) :: ps,(j,c) :: vs,gs,gs',cells,h,⟨hij,hv,hp⟩,hg=>by
  subst hij
  simp only [zeA] at h
  split at h
  ·rename_i o t hf
   split at h
   ·rename_i hc
    split at h
    ·rename_i gs1 hput
     have hgs:=hv.gs hc.1
     obtain ⟨h1,h2⟩:=zb5 hgs hput hg
     have hsz:c.cells.size = C.size t:=by rw [← hc.2.1,← hgs.length]; simp
     obtain ⟨cells',h3,h4⟩:=zih (ps:=vs) (v:=c) (cells:=cells) (hpl i o t hf hc.2.2) hsz (by rw [← hsz]; simpa using h1)
     rw [← h4] at h2
     obtain ⟨cells2,h5,h6⟩:=zeQ hpl h hp h2
     exact ⟨cells2,by rw [h3]; exact h5,h6⟩
    ·cases h
   ·cases h
  ·cases h
theorem zem {g:Gh} {bxs:Bxs} {w:World} (hb:BxW g bxs w) (hf:FzOK g w) {T:Ty}:∀ {ps:List (Nat × AV)} {vs:List (Nat × Value)} {l l':List T.den} {cells:Array Value},
  zdM bxs T ps l = some l'→zfM g ps vs→Elems (CR g.fz T) l cells.toList→l'.length = l.length∧∃ cells',Instr.fill (fun i=>some (i * T.size,T.size)) cells vs = some cells'∧Elems (CR g.fz T) l' cells'.toList
 | [],[],l,l',cells,h,_,hg=>by
  simp only [zdM,sI] at h
  subst h
  exact ⟨rfl,cells,rfl,hg⟩
 | [],_ :: _,_,_,_,_,hp,_=>hp.elim
 | _ :: _,[],_,_,_,_,hp,_=>hp.elim
 | (i,v) :: ps,(j,c) :: vs,l,l',cells,h,⟨hij,hv,hp⟩,hg=>by
  subst hij
  simp only [zdM] at h
  split at h
  ·rename_i hc
   split at h
   ·rename_i x hx
    have hT:∀ (x:T.den) (cs:List Value),CR g.fz T x cs→cs.length = T.size:=fun x cs h=>h.length
    have hcr:=zjh hb hf hx (hv.gs hc.1)
    obtain ⟨a,b,c0,ea,ha,h0,hset⟩:=hg.set hT i hc.2 hcr
    have hsz:c.cells.size = T.size:=by rw [← hcr.length]; simp
    have hlen:=hg.length hT
    have hle:i * T.size + T.size≤cells.size:=by
     have h1:(i + 1) * T.size≤l.length * T.size:=Nat.mul_le_mul_right _ hc.2
     rw [Nat.succ_mul] at h1
     rw [← Array.length_toList,hlen]
     exact h1
    obtain ⟨cells',h3,h4⟩:=zih (ps:=vs) (v:=c) (cells:=cells) (place:=fun i=>some (i * T.size,T.size)) rfl hsz hle
    have hc0:c0.length = c.cells.toList.length:=by rw [hT _ _ h0]; simp [hsz]
    have h5:cells'.toList = a++(c.cells.toList++b):=by
     rw [h4,ea,← ha,List.take_left,← hc0,← List.append_assoc a c0 b,← List.length_append,List.drop_left,List.append_assoc]
    rw [← h5] at hset
    obtain ⟨h6,cells2,h7,h8⟩:=zem hb hf h hp hset
    exact ⟨by rw [h6,List.length_set],cells2,by rw [h3]; exact h7,h8⟩
   ·cases h
  ·cases h
theorem zcz (z:Array Value):∀ n,((List.range (n * z.size)).map fun k=>z[k % z.size]!) = (List.replicate n z.toList).flatten
 | 0=>by simp
 | n + 1=>by
  by_cases hz:z.size = 0
  ·have:z.toList = []:=List.eq_nil_of_length_eq_zero (by simpa using hz)
   simp [hz,this]
  ·rw [Nat.succ_mul,Nat.add_comm,List.range_add,List.map_append,List.replicate_succ,List.flatten_cons,List.map_map]
   congr 1
   ·apply List.ext_getElem
    ·simp
    ·intro i h1 h2
     have hi:i < z.size:=by simpa using h2
     simp [Nat.mod_eq_of_lt hi,hi]
   ·rw [← zcz z n]
    apply List.map_congr_left
    intro k _
    simp
theorem zb9 {α:Type} {R:α→List Value→Prop} {x:α} {cs:List Value} (h:R x cs):∀ n,Elems R (List.replicate n x) (List.replicate n cs).flatten
 | 0=>rfl
 | n + 1=>⟨cs,(List.replicate n cs).flatten,rfl,h,zb9 h n⟩
end
end Go.V
namespace Go.V
variable [Codes]
section
variable {C:Cfg} {P:Program}
theorem zl3 (hC:CfgOK C P):∀ (fs:List Field),(∀ f∈fs,C.size f.type ≠ 0) →
  fs.mapM (fun f=>(P.info? f.type).map fun i=>(f.offset,i.size)) = some (fs.map fun f=>(f.offset,C.size f.type))
 | [],_=>rfl
 | f :: fs,h=>by
  obtain ⟨i,h1,h2,_⟩:=hC.size f.type (h f (by simp))
  simp [List.mapM_cons,h1,h2,zl3 hC fs (fun f hf=>h f (by simp [hf]))]
theorem zl4 (hC:CfgOK C P) {g:Gh} {s:St} {tm:Array Value} {tms:List (Array Value)} {w:World} (hs:StR g s tm tms w) {t:Nat} {ps:List (Nat × AV)} {c:Bool} {v:AV} {e:Eff}
  (h:zhV C s.bxs t ps = some (c,v,e)) {vs:Array (Nat × Value)} (hp:zfM g ps vs.toList):e = .none∧∃ z,(Instr.build t vs).run P w = .ok z w∧VR g v z:=by
 unfold zhV at h
 split at h
 ·rename_i fs hu
  split at h
  ·rename_i gs hz
   split at h
   ·rename_i hall
    split at h
    ·rename_i gs' hb
     simp only [ok,sI,sM] at h
     obtain ⟨_,rfl,rfl⟩:=h
     obtain ⟨fields,hd,hf⟩:=hC.st t fs hu
     obtain ⟨i,z,hi,_,_,hiz,hg⟩:=hC.zero t gs hz
     have hne:∀ f∈fields.toList,C.size f.type ≠ 0:=fun f hm=>by
      have h1:=List.all_eq_true.1 hall (f.offset,f.type) (by rw [← hf]; exact List.mem_map.2 ⟨f,hm,rfl⟩)
      simp only [Bool.not_eq_true'] at h1
      intro h2
      rw [h2] at h1
      cases h1
     have hpl:=zl3 hC fields.toList hne
     obtain ⟨cells,h1,h2⟩:=zeQ (place:=((fields.toList.map fun f=>(f.offset,C.size f.type)).toArray[·]?)) (fun i o t hfi hn=>by
       rw [← hf,List.getElem?_map,Option.map_eq_some_iff] at hfi
       obtain ⟨f,hfi,he⟩:=hfi
       simp only [sM] at he
       simp only [List.getElem?_toArray,List.getElem?_map,hfi,Option.map_some,he.1,he.2]) hb hp (hg g)
     refine ⟨rfl,.agg cells,run_build w t vs cells ?_,⟨cells,rfl,h2⟩⟩
     unfold Program.built
     simp only [hi,hd,hiz,hpl]
     exact h1
    ·cases h
   ·cases h
  ·cases h
 ·rename_i n e' hu
  split at h
  ·rename_i m T hT
   split at h
   ·rename_i hc
    obtain ⟨rfl,hsz,hnz⟩:=hc
    split at h
    ·rename_i l hl
     simp only [ok,sI,sM] at h
     obtain ⟨_,rfl,rfl⟩:=h
     have hd:=hC.arr t _ _ hu
     obtain ⟨_,i,z,hi,_,_,_,hiz,hg⟩:=hC.ty t _ hT
     obtain ⟨ie,hie,hies,_⟩:=hC.size e' hnz
     obtain ⟨_,hel⟩:=hg g.fz
     obtain ⟨h0,cells,h1,h2⟩:=zem hs.bxs.w hs.fz hl hp hel
     refine ⟨rfl,.agg cells,run_build w t vs cells ?_,⟨cells,rfl,by rw [h0,List.length_replicate],h2⟩⟩
     unfold Program.built
     simp only [hi,hd,hiz,hie,hies,← hsz]
     exact h1
    ·cases h
   ·cases h
  ·split at h
   ·rename_i gs hz
    split at h
    ·rename_i hnz
     split at h
     ·rename_i gs' hb
      simp only [ok,sI,sM] at h
      obtain ⟨_,rfl,rfl⟩:=h
      have hd:=hC.arr t _ _ hu
      obtain ⟨i,z,hi,_,_,hiz,hg⟩:=hC.zero t gs hz
      obtain ⟨ie,hie,hies,_⟩:=hC.size e' hnz
      obtain ⟨cells,h1,h2⟩:=zeQ (place:=fun i=>some (i * ie.size,ie.size)) (fun i o t hfi hn=>by
        unfold fsArr at hfi
        rw [List.getElem?_map,Option.map_eq_some_iff] at hfi
        obtain ⟨j,hj,he⟩:=hfi
        obtain ⟨hlt,rfl⟩:=List.getElem?_eq_some_iff.1 hj
        simp only [List.getElem_range,sM] at he
        obtain ⟨rfl,rfl⟩:=he
        simp only [hies]) hb hp (hg g)
      refine ⟨rfl,.agg cells,run_build w t vs cells ?_,⟨cells,rfl,h2⟩⟩
      unfold Program.built
      simp only [hi,hd,hiz,hie]
      exact h1
     ·cases h
    ·cases h
   ·cases h
 ·cases h
theorem run_buildSlice {w:World} {t len e:Nat} {vs:Array (Nat × Value)} {i:TypeInfo} {z:Value} (hd:P.underlying t = some (.slice e)) (hi:P.info? e = some i) (hz:i.zero = some z) (hl:len * i.size≤16777216)
  (hzs:z.cells.size = i.size) {cells:Array Value} (hf:Instr.fill (fun k=>some (k * i.size,i.size)) (List.replicate len z.cells.toList).flatten.toArray vs.toList = some cells) :
  (Instr.buildSlice t len vs).run P w = .ok (.slice (some ⟨w.heap.size,0,none⟩) len len) (w.alloc (.cells cells e)):=by
 have hn:¬ (16777216 < len * i.size):=by omega
 have e1:∀ z':Array Value,(len * i.size = 0 ∨ z' = z.cells)→((Array.range (len * i.size)).map (z'[· % z'.size]!)) = (List.replicate len z.cells.toList).flatten.toArray:=by
  intro z' hz'
  rw [← zcz,hzs]
  rcases hz' with h | rfl
  ·simp [h]
  ·apply Array.ext'
   simp only [Array.toList_map,Array.toList_range,hzs]
 by_cases h0:len * i.size = 0
 ·have e2:=e1 #[] (.inl h0)
  rw [← e2] at hf
  simp only [Array.size_empty] at hf
  simp [Instr.buildSlice,run_underlying hd,sizeOf,typeInfo,hi,h0,newRow] at hf ⊢
  simp [hf]
 ·have e2:=e1 z.cells (.inr rfl)
  rw [← e2] at hf
  simp [Instr.buildSlice,run_underlying hd,sizeOf,typeInfo,zeroValue,hi,hz,hn,h0,newRow,hf]
theorem zgi (hC:CfgOK C P) {g:Gh} {s:St} {tm:Array Value} {tms:List (Array Value)} {w:World} (hs:StR g s tm tms w) {t len:Nat} {ps:List (Nat × AV)} {c:Bool} {v:AV} {e:Eff}
  (h:zbq C s.bxs t len ps = some (c,v,e)) {vs:Array (Nat × Value)} (hp:zfM g ps vs.toList) :
  e = .none∧∃ z w' g',(Instr.buildSlice t len vs).run P w = .ok z w'∧VR g' v z∧StR g' s tm tms w'∧Tr g w g' w':=by
 unfold zbq at h
 split at h
 ·rename_i e' hu
  split at h
  ·rename_i T hT
   split at h
   ·rename_i hc
    split at h
    ·rename_i l hl
     simp only [ok,sI,sM] at h
     obtain ⟨_,rfl,rfl⟩:=h
     have hd:=hC.sl t _ hu
     obtain ⟨hts,i,z,hi,his,_,_,hiz,hg⟩:=hC.ty e' _ hT
     have hzs:z.cells.size = i.size:=by rw [his,← hts,← (hg g.fz).length]; simp
     have hel:Elems (CR g.fz T) (List.replicate len T.dflt) (List.replicate len z.cells.toList).flatten.toArray.toList:=zb9 (hg g.fz) len
     obtain ⟨h0,cells,h1,h2⟩:=zem hs.bxs.w hs.fz hl hp hel
     rw [hts,← his] at h1
     have hr:=run_buildSlice (w:=w) hd hi hiz (by rw [his]; exact hc.2) hzs h1
     obtain ⟨k1,k2,k3,k4⟩:=hs.lit cells.toList h2.one e'
     simp only [Array.toArray_toList] at k1 k2 k3
     refine ⟨rfl,_,_,_,hr,?_,k1,k2⟩
     refine .inr ⟨w.heap.size,0,cells.toList,?_,h2.mono (fun x cs h=>h.mono k3.fz),k4⟩
     rw [h0,List.length_replicate]
    ·cases h
   ·cases h
  ·cases h
 ·cases h
theorem zji (hC:CfgOK C P) {g:Gh} {s:St} {tm:Array Value} {tms:List (Array Value)} {w:World} (hs:StR g s tm tms w) {t len key:Nat} {ps:List (Nat × AV)} {T:Ty} {l:List T.den}
  (h:zbq C s.bxs t len ps = some (true,.full T l,.none)) (hk:find s.bxs key = none) {vs:Array (Nat × Value)} (hp:zfM g ps vs.toList) :
  ∃ z w' g',(Instr.buildSlice t len vs).run P w = .ok z w'∧VR g' (.row key .whole) z∧StR g' ((Eff.add key (.row T false l)).apply s) tm tms w'∧Tr g w g' w':=by
 unfold zbq at h
 split at h
 ·rename_i e' hu
  split at h
  ·rename_i T' hT
   split at h
   ·rename_i hc
    split at h
    ·rename_i l' hl
     simp only [ok,sI,sM,true_and,and_true,AV.full.injEq] at h
     obtain ⟨rfl,h⟩:=h
     obtain rfl:=eq_of_heq h
     have hd:=hC.sl t _ hu
     obtain ⟨hts,i,z,hi,his,_,_,hiz,hg⟩:=hC.ty e' _ hT
     have hzs:z.cells.size = i.size:=by rw [his,← hts,← (hg g.fz).length]; simp
     have hel:Elems (CR g.fz T') (List.replicate len T'.dflt) (List.replicate len z.cells.toList).flatten.toArray.toList:=zb9 (hg g.fz) len
     obtain ⟨h0,cells,h1,h2⟩:=zem hs.bxs.w hs.fz hl hp hel
     rw [hts,← his] at h1
     have hr:=run_buildSlice (w:=w) hd hi hiz (by rw [his]; exact hc.2) hzs h1
     rw [List.length_replicate] at h0
     have hlc:=h2.length (fun x cs h=>h.length)
     let gb:Gb:=⟨true,true,some w.heap.size,0,len,len,T'.size,none⟩
     have hbx:BoxR (g.put key gb) (.row T' false l') gb (w.alloc (.cells cells e')) :=
      ⟨rfl,rfl,h0.symm,Nat.le_refl _,cells.toList,cells.toList,by simpa using zbC w cells.toList e',by simp only [gb]; rw [hlc,h0,Nat.zero_add]; exact Nat.le_refl _,h2,fun j v e=>by simpa [gb] using e,fun _ o=>hs.fz.noneAt (Nat.le_refl _) o,fun h=>nomatch h⟩
     obtain ⟨k1,k2,_⟩:=hs.add hk (World.grownBy_alloc w _ none) (.row T' false l') gb hbx (fun blk e1 _=>by cases e1; exact Nat.le_refl _)
     exact ⟨_,_,_,hr,⟨gb,_,Gh.put_same _ _ _,rfl,rfl,rfl⟩,k1,k2⟩
    ·cases h
   ·cases h
  ·cases h
 ·cases h
theorem zij {g:Gh} {s:St} {tm:Array Value} {tms:List (Array Value)} {w w':World} (hs:StR g s tm tms w) {key:Nat} (hk:find s.bxs key = none) {S:Ty} {L:List S.den} {cs rest:List Value}
  (hL:Elems (CR g.fz S) L cs) {cap:Nat} (hc:L.length≤cap) (hr:rest.length = (cap - L.length) * S.size) (hgr:w.grownBy w' none) (hb:BlkIs w' w.heap.size (cs++rest)) :
  let gb:Gb:=⟨true,true,some w.heap.size,0,L.length,cap,S.size,none⟩
  VR (g.put key gb) (.row key .whole) (.slice (some ⟨w.heap.size,0,none⟩) L.length cap)∧StR (g.put key gb) ((Eff.add key (.row S false L)).apply s) tm tms w'∧Tr g w (g.put key gb) w':=by
 intro gb
 have hlc:=hL.length (fun x cs h=>h.length)
 have hbx:BoxR g (.row S false L) gb w':=by
  refine ⟨rfl,rfl,rfl,hc,cs++rest,cs,hb,?_,hL,?_,fun _ o=>hs.fz.noneAt (Nat.le_refl _) o,fun h=>nomatch h⟩
  ·rw [List.length_append,hlc,hr,← Nat.add_mul]
   simp only [gb]
   rw [Nat.zero_add,Nat.add_sub_cancel' hc]
   exact Nat.le_refl _
  ·intro j v e
   simp only [gb,Nat.zero_add]
   rw [List.getElem?_append_left (List.getElem?_eq_some_iff.1 e).1]
   exact e
 have hb:=zcr (g':=g.put key gb) rfl hbx
 obtain ⟨h1,h2,_⟩:=hs.add hk hgr (.row S false L) gb hb (fun blk e1 _=>by cases e1; exact Nat.le_refl _)
 exact ⟨⟨gb,_,Gh.put_same _ _ _,rfl,rfl,rfl⟩,h1,h2⟩
theorem zhu (hC:CfgOK C P) {g:Gh} {s:St} {tm:Array Value} {tms:List (Array Value)} {w:World} (hs:StR g s tm tms w) {key t:Nat} {n c v:AV} {e:Eff}
  (h:zeB C key t n c = some (true,v,e)) (hk:find s.bxs key = none) {x y:Value} (hx:VR g n x) (hy:VR g c y) :
  ∃ z w' g',(Instr.makeSlice t x y).run P w = .ok z w'∧VR g' v z∧StR g' (e.apply s) tm tms w'∧Tr g w g' w':=by
 unfold zeB at h
 split at h
 ·rename_i e' n' c' hu hn hc
  split at h
  ·rename_i T hT
   split at h
   ·simp only [sI,sM] at h
    obtain ⟨hcond,rfl,rfl⟩:=h
    obtain ⟨kn,rfl⟩:=zid hn hx
    obtain ⟨kc,rfl⟩:=zid hc hy
    simp only [sA,decide_eq_true_eq] at hcond
    obtain ⟨⟨h0,h1⟩,h2'⟩:=hcond
    have h2:c'≤1073741824:=h2'
    have hd:=hC.sl t _ hu
    obtain ⟨hts,i,z,hi,his,_,hbt,hiz,hg⟩:=hC.ty e' _ hT
    have hb':(i.bytes:Int) * c'≤281474976710656:=by
     have h3:(i.bytes:Int) * c'≤(65536:Int) * 1073741824:=Int.mul_le_mul (by omega) (by omega) (by omega) (by omega)
     omega
    have hr:=run_make (P:=P) w t e' i z hd hi hiz kn kc n' c' h0 h1 hb' (by omega)
    have hzs:z.cells.size = i.size:=by rw [his,← hts,← (hg g.fz).length]; simp
    have hcells:(madeCells z.cells (c'.toNat * i.size)).toList = (List.replicate n'.toNat z.cells.toList).flatten++(List.replicate (c'.toNat - n'.toNat) z.cells.toList).flatten:=by
     rw [← List.flatten_append,List.replicate_append_replicate,show n'.toNat + (c'.toNat - n'.toNat) = c'.toNat by omega,← zcz,hzs]
     simp only [madeCells,Array.toList_map,Array.toList_range,hzs]
    have hL:Elems (CR g.fz T) (List.replicate n'.toNat T.dflt) (List.replicate n'.toNat z.cells.toList).flatten:=zb9 (hg g.fz) _
    have hlen:(List.replicate (c'.toNat - n'.toNat) z.cells.toList).flatten.length = (c'.toNat - (List.replicate n'.toNat T.dflt).length) * T.size:=by
     simp [hzs,his,hts]
    have hblk:BlkIs (w.alloc (.cells (madeCells z.cells (c'.toNat * i.size)) e')) w.heap.size ((List.replicate n'.toNat z.cells.toList).flatten++(List.replicate (c'.toNat - n'.toNat) z.cells.toList).flatten):=by
     rw [← hcells]
     have:=zbC w (madeCells z.cells (c'.toNat * i.size)).toList e'
     simpa using this
    obtain ⟨k1,k2,k3⟩:=zij hs hk (cap:=c'.toNat) hL (by simp; omega) hlen (World.grownBy_alloc w _ none) hblk
    refine ⟨_,_,_,hr,?_,k2,k3⟩
    simpa using k1
   ·cases h
  ·cases h
 ·cases h
end
end Go.V
namespace Go.V
variable [Codes]
section
variable {C:Cfg} {P:Program}
theorem zjj {w:World} {t ty:Nat} {n e:Nat} (hd:P.underlying t = some (.array n e)) (x:Value):(Builtin.len_ #[t] ty #[x]).run P w = .ok (.int .i64 n) w:=by
 simp [Builtin.len_,run_underlying hd,goInt]
theorem zjk {w:World} {t ty a:Nat} {n e:Nat} (hd:P.underlying t = some (.pointer a)) (ha:P.underlying a = some (.array n e)) (x:Value):(Builtin.len_ #[t] ty #[x]).run P w = .ok (.int .i64 n) w:=by
 simp [Builtin.len_,run_underlying hd,run_underlying ha,goInt]
theorem zjl {w:World} {t ty:Nat} (hd:P.underlying t = some .string) (s:ByteArray):(Builtin.len_ #[t] ty #[.string s]).run P w = .ok (.int .i64 s.size) w:=by
 simp [Builtin.len_,run_underlying hd,goInt]
theorem zgG {w:World} {t ty e:Nat} (hd:P.underlying t = some (.slice e)) (a:Option Addr) (n c:Nat):(Builtin.len_ #[t] ty #[.slice a n c]).run P w = .ok (.int .i64 n) w:=by
 simp [Builtin.len_,run_underlying hd,goInt]
theorem zoz (hC:CfgOK C P) {g:Gh} {s:St} {tm:Array Value} {tms:List (Array Value)} {w:World} (hs:StR g s tm tms w) {t ty:Nat} {x:AV} {c:Bool} {v:AV} {e:Eff}
  (h:lenV C s.bxs t x = some (c,v,e)) {a:Value} (ha:VR g x a):e = .none∧∃ z,(Builtin.len_ #[t] ty #[a]).run P w = .ok z w∧VR g v z:=by
 unfold lenV at h
 split at h
 ·rename_i s' hu
  simp only [ok,sI,sM] at h
  obtain ⟨_,rfl,rfl⟩:=h
  have ha':[a] = [.string s']:=ha
  cases ha'
  exact ⟨rfl,_,zjl (hC.str t hu) _,rfl⟩
 ·rename_i n e' hu
  simp only [ok,sI,sM] at h
  obtain ⟨_,rfl,rfl⟩:=h
  exact ⟨rfl,_,zjj (hC.arr t _ _ hu) _,rfl⟩
 ·rename_i b hu
  split at h
  ·rename_i n e' hb
   simp only [ok,sI,sM] at h
   obtain ⟨_,rfl,rfl⟩:=h
   exact ⟨rfl,_,zjk (hC.ptr t _ hu) (hC.arr b _ _ hb) _,rfl⟩
  ·cases h
 ·rename_i e' b off m lo n hu
  simp only [ok,sI,sM] at h
  obtain ⟨_,rfl,rfl⟩:=h
  obtain ⟨gb,blk,cap,_,_,_,_,_,ad,hcs,_⟩:=ha
  simp only [sC,and_true] at hcs
  subst hcs
  exact ⟨rfl,_,zgG (hC.sl t _ hu) _ _ _,rfl⟩
 ·rename_i e' hu _
  split at h
  ·rename_i T l hv
   simp only [ok,sI,sM] at h
   obtain ⟨_,rfl,rfl⟩:=h
   obtain ⟨ad,cap,rfl,_⟩:=zc1 hs hv ha
   exact ⟨rfl,_,zgG (hC.sl t _ hu) _ _ _,rfl⟩
  ·cases h
 ·rename_i k' e' b hu
  split at h
  ·rename_i K V l hb
   simp only [ok,sI,sM] at h
   obtain ⟨_,rfl,rfl⟩:=h
   obtain ⟨gb,r,es,ck,rfl,_,_,_,_,q4,q5,_⟩:=zlS hs hb ha
   have hl:es.size = l.length:=by rw [← Array.length_toList]; exact q5.length
   exact ⟨rfl,_,by simp [Builtin.len_,run_underlying (hC.map t _ _ hu),getObj,Sem.run,q4,Result.andThen,hl]; rfl,rfl⟩
  ·cases h
 ·cases h
def VsR (g:Gh):List AV→List Value→Prop
 | [],[]=>True
 | v :: l,c :: r=>VR g v c∧VsR g l r
 | _,_=>False
theorem zoA {g:Gh} {w:World} {vs:List AV} {v:AV} (h:minV vs = some v) {args:Array Value} (ha:VsR g vs args.toList) (ts:Array TypeId) (ty:Nat) :
  ∃ z,(Builtin.min_ ts ty args).run P w = .ok z w∧VR g v z:=by
 unfold minV at h
 split at h
 ·rename_i k a j b
  obtain ⟨l⟩:=args
  match l,ha with
  | [x,y],⟨hx,hy,_⟩ =>
   have hx':[x] = [.int k a]:=hx
   have hy':[y] = [.int j b]:=hy
   cases hx'
   cases hy'
   simp only [sI] at h
   subst h
   refine ⟨_,run_min_int2 w ts ty k j a b,rfl⟩
 ·cases h
theorem zoB {g:Gh} {w:World} {vs:List AV} {v:AV} (h:maxV vs = some v) {args:Array Value} (ha:VsR g vs args.toList) (ts:Array TypeId) (ty:Nat) :
  ∃ z,(Builtin.max_ ts ty args).run P w = .ok z w∧VR g v z:=by
 unfold maxV at h
 split at h
 ·rename_i k a j b
  obtain ⟨l⟩:=args
  match l,ha with
  | [x,y],⟨hx,hy,_⟩ =>
   have hx':[x] = [.int k a]:=hx
   have hy':[y] = [.int j b]:=hy
   cases hx'
   cases hy'
   simp only [sI] at h
   subst h
   refine ⟨.int k (if b > a then b else a),?_,rfl⟩
   simp [Builtin.max_,Builtin.max2]
 ·cases h
theorem zik (s:ByteArray):(zau s).map (Value.int .u8) = (s.data.map fun b=>Value.int .u8 b.toNat).toList:=by
 simp [zau]
theorem zjm (w:World) (e:TypeId) (s:ByteArray):w.grownBy (Lib.bytesWorld w e s) none :=
 ⟨rfl,rfl,rfl,by rw [Lib.bytesWorld_size]; omega,fun k hk _=>Lib.bytesWorld_at_old w e s k hk⟩
theorem zjn (hC:CfgOK C P) {g:Gh} {s:St} {tm:Array Value} {tms:List (Array Value)} {w:World} (hs:StR g s tm tms w) {key src dst:Nat} {x v:AV} {e:Eff}
  (h:zd7 C s.bxs key src dst x = some (true,v,e)) (hkey:∀ k b,e = .add k b→find s.bxs k = none) {a:Value} (ha:VR g x a) :
  ∃ z w' g',(convert src dst a).run P w = .ok z w'∧VR g' v z∧StR g' (e.apply s) tm tms w'∧Tr g w g' w':=by
 unfold zd7 at h
 split at h
 ·rename_i k1 k2 k3 n hu1 hu2
  simp only [ok,sI,sM] at h
  obtain ⟨_,rfl,rfl⟩:=h
  have ha':[a] = [.int k3 n]:=ha
  cases ha'
  refine ⟨.int k2 (k2.wrap n),w,g,?_,rfl,hs,Tr.refl _ _⟩
  simp [convert,run_underlying (hC.int src _ hu1),run_underlying (hC.int dst _ hu2),Conv.intToInt]
 ·rename_i s' hu1 hu2
  simp only [ok,sI,sM] at h
  obtain ⟨_,rfl,rfl⟩:=h
  have ha':[a] = [.string s']:=ha
  cases ha'
  refine ⟨.string s',w,g,?_,rfl,hs,Tr.refl _ _⟩
  simp [convert,run_underlying (hC.str src hu1),run_underlying (hC.str dst hu2)]
 ·rename_i e' hu1 hu2
  split at h
  ·rename_i hu3
   split at h
   ·rename_i l hv
    simp only [ok,sI,sM] at h
    obtain ⟨_,rfl,rfl⟩:=h
    obtain ⟨news,hg,hel⟩:=zkc (P:=P) hs hv ha
    have hnews:news = l.map (Value.int .u8):=by
     clear hg hv
     induction l generalizing news with
     | nil=>exact hel
     | cons n l ih=>obtain ⟨c1,c2,rfl,h1,h2⟩:=hel; have h1':c1 = [.int .u8 n]:=h1; rw [h1',ih _ h2]; rfl
    have hform:∃ o cap,a = .slice o l.length cap:=by
     unfold viewA at hv
     split at hv
     ·rename_i b off m lo n
      obtain ⟨gb,blk,cap,_,_,_,_,_,ad,hcs,_⟩:=ha
      simp only [sC,and_true] at hcs
      subst hcs
      have h1:=hg.len w
      simp only [Builtin.lenOf,Sem.run_pure,Result.ok.injEq,and_true] at h1
      exact ⟨some ad,cap,by rw [h1]⟩
     ·obtain ⟨ad,cap,rfl,_⟩:=zc1 hs hv ha
      exact ⟨ad,cap,rfl⟩
    obtain ⟨o,cap,rfl⟩:=hform
    refine ⟨.string (ofBytes l),w,g,?_,rfl,hs,Tr.refl _ _⟩
    rw [run_convert_bytes_string w src dst e' o l.length cap (hC.sl src _ hu1) (hC.int e' _ hu3) (hC.str dst hu2)]
    cases o with
    | none =>
     have h1:=hg.cells w (fun _ _=>rfl) l.length (Nat.le_refl _)
     simp only [Builtin.firstCells,Sem.run_pure,Result.ok.injEq,and_true,Ty.size,Nat.mul_one] at h1
     have h2:l = []:=by
      have h3:(news.take l.length).length = 0:=by rw [← List.size_toArray,← h1]; rfl
      rw [hnews] at h3
      simpa using h3
     subst h2
     simp [Conv.bytesToString,ofBytes]
     rfl
    | some ad =>
     have h1:=hg.cells w (fun _ _=>rfl) l.length (Nat.le_refl _)
     simp only [Builtin.firstCells,Ty.size,Nat.mul_one] at h1
     rw [hnews,List.take_of_length_le (by simp)] at h1
     rw [run_bytesToString w ad l.length cap l h1,foldl_push_bytes]
     simp [ofBytes,ByteArray.empty,ByteArray.emptyWithCapacity]
     rfl
   ·cases h
  ·cases h
 ·rename_i e' s' hu1 hu2
  split at h
  ·rename_i hu3
   simp only [sI,sM,true_and] at h
   obtain ⟨rfl,rfl⟩:=h
   have ha':[a] = [.string s']:=ha
   cases ha'
   have hr:=Lib.run_convert_string_bytes (P:=P) w src dst e' s' (hC.str src hu1) (hC.sl dst _ hu2) (hC.int e' _ hu3)
   have hblk:BlkIs (Lib.bytesWorld w e' s') w.heap.size ((zau s').map (Value.int .u8)++List.replicate (grownCap w s'.size 0 e' - s'.size) (.int .u8 0)):=by
    refine ⟨e',(Lib.bytesCells w e' s').size,(Lib.bytesCells w e' s').size + 1,?_,?_⟩
    ·rw [Lib.bytesWorld_at_new]
     congr 2
     apply Array.ext'
     simp [Lib.bytesCells,zik]
    ·intro o ho
     have:(Lib.bytesCells w e' s').size = ((zau s').map (Value.int .u8)++List.replicate (grownCap w s'.size 0 e' - s'.size) (Value.int .u8 0)).length:=by
      simp [Lib.bytesCells,zau]
     omega
   obtain ⟨k1,k2,k3⟩:=zij hs (hkey key _ rfl) (cap:=grownCap w s'.size 0 e') (elems_ints .u8 (zau s')) (by rw [toBytes_length]; exact grownCap_ge _ _ _ _) (by simp [toBytes_length,Ty.size]) (zjm w e' s') hblk
   simp only [toBytes_length] at k1 k2 k3
   exact ⟨_,_,_,hr,k1,k2,k3⟩
  ·cases h
 ·cases h
theorem zil {g:Gh} {s:St} {tm:Array Value} {tms:List (Array Value)} {w:World} (hs:StR g s tm tms w) {key:Nat} (hk:find s.bxs key = none) {gs:List AV} {z:Value} (hg:GsR g gs z.cells.toList) (t:TypeId) :
  ∃ w' g',(newVar t z).run P w = .ok ⟨w.heap.size,0,none⟩ w'∧VR g' (.ptr key 0 []) (.pointer (some ⟨w.heap.size,0,none⟩))∧StR g' ((Eff.add key (.var gs)).apply s) tm tms w'∧Tr g w g' w':=by
 let gb:Gb:=⟨false,true,some w.heap.size,0,0,0,0,none⟩
 have hgr:w.grownBy (w.alloc (.cells z.cells t)) none:=World.grownBy_alloc w _ none
 have hx:=zeM gb (hs.bxs.none hk)
 have hblk:BlkIs (w.alloc (.cells z.cells t)) w.heap.size z.cells.toList:=by simpa using zbC w z.cells.toList t
 obtain ⟨h1,h2,_⟩:=hs.add hk hgr (.var gs) gb ⟨rfl,rfl,w.heap.size,z.cells.toList,rfl,hblk,hg.ext hx (zdl _),fun o=>hs.fz.noneAt (Nat.le_refl _) o⟩ (fun blk e1 _=>by cases e1; exact Nat.le_refl _)
 refine ⟨_,_,?_,⟨gb,w.heap.size,Gh.put_same _ _ _,rfl,rfl,(fun _ h=>nomatch h),rfl⟩,h1,h2⟩
 simp [newVar,newRow]
end
end Go.V
namespace Go.V
variable [Codes]
section
variable {C:Cfg} {P:Program}
theorem StR.bxSame {g:Gh} {s:St} {tm:Array Value} {tms:List (Array Value)} {w:World} (h:StR g s tm tms w) {b:Nat} {x:Box} (hb:find s.bxs b = some x):StR g ((Eff.upd b x).apply s) tm tms w:=by
 have e:∀ k,find (setB s.bxs b x) k = find s.bxs k:=fun k=>by
  by_cases hk:b = k
  ·subst hk; rw [zaF,hb]
  ·exact zav _ _ hk
 exact ⟨h.env,h.stk,⟨fun k x hx=>h.bxs.box k x (by rw [← e k]; exact hx),fun k gb hk=>by show (find (setB s.bxs b x) k).isSome = true; rw [e k]; exact h.bxs.dom k gb hk,h.bxs.sep⟩,h.fz⟩
theorem zkf {w w':World} {t yt ty e:TypeId} {i:TypeInfo} (ht:P.underlying t = some (.slice e)) (hi:P.info? e = some i) {a:Addr} {n c k:Nat} {y:Value} {news:List Value} (hy:Gives P w i.size y k news)
  (hst:(storeCells a (news.take (min k n * i.size))).run P w = .ok () w'):(Builtin.copy_ #[t,yt] ty #[.slice (some a) n c,y]).run P w = .ok (.int .i64 ((min k n:Nat):Int)) w':=by
 have h1:=hy.len w
 have h2:=hy.cells w (fun _ _=>rfl) (min k n) (Nat.min_le_left _ _)
 have hm:Nat.min k n = min k n:=rfl
 simp [Builtin.copy_,run_underlying ht,sizeOf,typeInfo,hi,h1,h2,hst,goInt,hm]
theorem zim {g:Gh} {s:St} {tm:Array Value} {tms:List (Array Value)} {w:World} (hs:StR g s tm tms w) {T:Ty} (hT0:T.size ≠ 0) {l m:List T.den} {b:Nat}
  (hb:find s.bxs b = some (.row T false l)) {gb:Gb} (hg:g.bx b = some gb) {off:Nat} (hoff:off + m.length≤l.length) {news:List Value} (hel:Elems (CR g.fz T) m news) {a:Addr} (ha:m ≠ []→∃ blk,gb.blk = some blk∧a = ⟨blk,gb.off + off * gb.sz,none⟩) :
  ∃ w',(storeCells a news).run P w = .ok () w'∧StR g ((Eff.upd b (.row T false (zaB l off m))).apply s) tm tms w'∧Tr g w g w':=by
 by_cases hn:m = []
 ·subst hn
  have h0:news = []:=hel
  subst h0
  have hl:zaB l off ([]:List T.den) = l:=by simp [zaB]
  rw [hl]
  exact ⟨w,by simp [storeCells],hs.bxSame hb,Tr.refl _ _⟩
 ·obtain ⟨blk,e1,rfl⟩:=ha hn
  obtain ⟨gb',k1,k2,k3,k4,k5,k6⟩:=hs.bxs.box b _ hb
  rw [hg] at k1
  cases k1
  simp only [e1] at k6
  have hm0:0 < m.length:=List.length_pos_iff.2 hn
  cases ho:gb.own with
  | false =>
   simp only [ho] at k6
   rcases k6.1 with h | h
   ·cases h
   ·subst h; simp only [List.length_nil] at hoff; omega
  | true =>
   simp only [ho] at k6
   obtain ⟨cells,cs,q1,q2,q3,q4,q5,q6⟩:=k6
   have hTl:∀ (x:T.den) (cs:List Value),CR g.fz T x cs→cs.length = T.size:=fun x cs h=>h.length
   have hzsl:news.length = m.length * T.size:=hel.length hTl
   have hcsl:cs.length = l.length * T.size:=q3.length hTl
   have hle:(off + m.length) * T.size≤l.length * T.size:=Nat.mul_le_mul_right _ hoff
   have hle2:l.length * T.size≤gb.cap * T.size:=Nat.mul_le_mul_right _ (by omega)
   rw [Nat.add_mul] at hle
   have hone:∀ v∈news,v.oneCell' = true:=hel.one
   obtain ⟨w',h1,h2,h3⟩:=zaU (P:=P) (off:=gb.off + off * gb.sz) news 0 q1 (by rw [k3,hzsl]; omega) hone
   rw [Nat.add_zero,k3] at h3
   have hnew:Elems (CR g.fz T) (zaB l off m) (cs.take (off * T.size)++news++cs.drop ((off + m.length) * T.size)):=by
    unfold zaB
    have s1:=(q3.split hTl off (by omega)).1
    have s2:=(q3.split hTl (off + m.length) (by omega)).2
    exact (s1.append hel).append s2
   have hlen:(zaB l off m).length = l.length:=by
    unfold zaB
    simp only [List.length_append,List.length_take,List.length_drop]
    omega
   have hcl:(cells.take (gb.off + off * T.size)++news++cells.drop (gb.off + off * T.size + news.length)).length = cells.length:=by
    simp only [List.length_append,List.length_take,List.length_drop]
    omega
   refine ⟨w',by simpa using h1,?_⟩
   refine hs.upd hg e1 ho (q5 trivial) h2.os h2.tape h2.output (by rw [h2.size]; exact Nat.le_refl _) (fun b hb _=>h2.other b hb) (.row T false (zaB l off m)) ⟨k2,k3,by rw [k4,hlen],k5,?_⟩
   simp only [e1,ho]
   refine ⟨_,_,h3,by rw [hcl]; exact q2,hnew,fun j v e=>?_,fun _=>q5 trivial,fun h=>nomatch h⟩
   have hjl:j < (cs.take (off * T.size)++news++cs.drop ((off + m.length) * T.size)).length:=(List.getElem?_eq_some_iff.1 e).1
   have a1:(cs.take (off * T.size)).length = off * T.size:=by rw [List.length_take]; omega
   have a2:(cells.take (gb.off + off * T.size)).length = gb.off + off * T.size:=by rw [List.length_take]; omega
   rw [List.append_assoc] at e ⊢
   by_cases hj1:j < off * T.size
   ·rw [List.getElem?_append_left (by rw [a1]; exact hj1),List.getElem?_take_of_lt hj1] at e
    rw [List.getElem?_append_left (by rw [a2]; omega),List.getElem?_take_of_lt (by omega)]
    exact q4 j v e
   ·rw [List.getElem?_append_right (by rw [a1]; omega),a1] at e
    rw [List.getElem?_append_right (by rw [a2]; omega),a2]
    have ej:gb.off + j - (gb.off + off * T.size) = j - off * T.size:=by omega
    rw [ej]
    by_cases hj2:j - off * T.size < news.length
    ·rw [List.getElem?_append_left hj2] at e ⊢
     exact e
    ·rw [List.getElem?_append_right (by omega)] at e ⊢
     rw [List.getElem?_drop] at e ⊢
     have e2:(off + m.length) * T.size + (j - off * T.size - news.length) = j:=by rw [Nat.add_mul]; omega
     have e3:gb.off + off * T.size + news.length + (j - off * T.size - news.length) = gb.off + j:=by omega
     rw [e2] at e
     rw [e3]
     exact q4 j v e
theorem run_copy_none {w:World} {t yt ty e:TypeId} {i:TypeInfo} (ht:P.underlying t = some (.slice e)) (hi:P.info? e = some i) {c k:Nat} {y:Value} {news:List Value} (hy:Gives P w i.size y k news) :
  (Builtin.copy_ #[t,yt] ty #[.slice none 0 c,y]).run P w = .ok (.int .i64 0) w:=by
 have h1:=hy.len w
 have h2:=hy.cells w (fun _ _=>rfl) 0 (Nat.zero_le _)
 have hm:Nat.min k 0 = 0:=Nat.min_zero k
 rw [Nat.zero_mul,List.take_zero] at h2
 simp [Builtin.copy_,run_underlying ht,sizeOf,typeInfo,hi,h1,h2,goInt,hm]
theorem zdD (hC : CfgOK C P) {g : Gh} {s : St} {tm : Array Value} {tms : List (Array Value)} {w : World} (hs : StR g s tm tms w) {t yt ty e' : Nat} {y : AV} (hu : C.under t = .sl e') (hsz : C.size e' = 1) {T : Ty} {l m : List T.den} (hm : moreV C s.bxs e' y = some ⟨T, m⟩)
    {b : Nat} (hb : find s.bxs b = some (.row T false l)) {gb : Gb} (hg : g.bx b = some gb) {off n : Nat} (hoff : off + n ≤ l.length) {a : Option Addr} {c : Nat} (ha : n ≠ 0 → ∃ blk, gb.blk = some blk ∧ a = some ⟨blk, gb.off + off * gb.sz, none⟩) {v : Value} (hy : VR g y v) (hTe : T.size = C.size e') :
    ∃ w', (Builtin.copy_ #[t, yt] ty #[.slice a n c, v]).run P w = .ok (.int .i64 (((m.take n).length : Nat) : Int)) w' ∧ StR g ((Eff.upd b (.row T false (zaB l off (m.take n)))).apply s) tm tms w' ∧ Tr g w g w' := by
  have ht := hC.sl t _ hu
  obtain ⟨i, hi, his, _⟩ := hC.size e' (by rw [hsz]; decide)
  obtain ⟨news, hgv, hel⟩ := zhs (P := P) hs hm hy
  have hT1 : T.size = 1 := by rw [hTe, hsz]
  have hTl : ∀ (x : T.den) (cs : List Value), CR g.fz T x cs → cs.length = 1 := fun x cs h => by rw [h.length, hT1]
  have hnl : news.length = m.length := by have := hel.length hTl; simpa using this
  have hgv' : Gives P w i.size v m.length news := by rw [his, hsz, ← hT1]; exact hgv
  have hmin : (m.take n).length = min m.length n := by rw [List.length_take]; exact Nat.min_comm _ _
  have hmt : m.take n = m.take (min m.length n) := by
    rcases Nat.le_total m.length n with h | h
    · rw [Nat.min_eq_left h, List.take_of_length_le h, List.take_of_length_le (Nat.le_refl _)]
    · rw [Nat.min_eq_right h]
  have heln : Elems (CR g.fz T) (m.take n) (news.take (min m.length n)) := by
    rw [hmt]
    have := (hel.split hTl (min m.length n) (Nat.min_le_left _ _)).1
    simpa using this
  have hfit : off + (m.take n).length ≤ l.length := by rw [hmin]; omega
  cases a with
  | none =>
    have hn0 : n = 0 := by
      by_cases h : n = 0
      · exact h
      · obtain ⟨_, _, h2⟩ := ha h; cases h2
    subst hn0
    have hl : zaB l off (m.take 0) = l := by simp [zaB]
    rw [hl]
    exact ⟨w, by simpa using run_copy_none (yt := yt) (ty := ty) ht hi hgv', hs.bxSame hb, Tr.refl _ _⟩
  | some ad =>
    obtain ⟨w', h1, h2, h3⟩ := zim (P := P) hs (by rw [hT1]; decide) hb hg hfit heln (a := ad) (fun hne => by
      have hn0 : n ≠ 0 := by intro h; subst h; exact hne (by simp)
      obtain ⟨blk, q1, q2⟩ := ha hn0
      cases q2
      exact ⟨blk, q1, rfl⟩)
    refine ⟨w', ?_, h2, h3⟩
    have := zkf (yt := yt) (ty := ty) (c := c) ht hi (y := v) (k := m.length) (n := n) (a := ad) (w' := w') hgv' (by rw [his, hsz, Nat.mul_one]; exact h1)
    rw [hmin]
    exact this
theorem znf (hC:CfgOK C P) {g:Gh} {s:St} {tm:Array Value} {tms:List (Array Value)} {w:World} (hs:StR g s tm tms w) {t yt ty:Nat} {x y:AV} {c:Bool} {v:AV} {e:Eff}
  (h:copyV C s.bxs t x y = some (c,v,e)) {a b:Value} (hx:VR g x a) (hy:VR g y b) :
  ∃ z w',(Builtin.copy_ #[t,yt] ty #[a,b]).run P w = .ok z w'∧VR g v z∧StR g (e.apply s) tm tms w'∧Tr g w g w':=by
 unfold copyV at h
 split at h
 ·rename_i e' hu
  split at h
  ·rename_i hsz
   split at h
   ·cases h
   ·rename_i S m hm
    split at h
    ·rename_i bk off q lo n
     split at h
     ·rename_i gs hb
      split at h
      ·rename_i k T l rest hdr
       split at h
       ·rename_i hc
        obtain ⟨hST,rfl,hT1⟩:=hc
        subst hST
        split at h
        ·rename_i gs' hput
         simp only [sI,sM] at h
         obtain ⟨_,rfl,rfl⟩:=h
         have ht:=hC.sl t _ hu
         obtain ⟨i,hi,his,_⟩:=hC.size e' (by rw [hsz]; decide)
         obtain ⟨news,hg,hel⟩:=zhs (P:=P) hs hm hy
         have hx':GR g (.vsl bk off k lo n) [a]:=hx
         obtain ⟨gb,blk,cap,e1,e2,e3,hlo,hcap,ad,hcs,hspot,had⟩:=hx'
         simp only [sC,and_true] at hcs
         subst hcs
         obtain ⟨gb',k1,k2⟩:=hs.bxs.box _ _ hb
         rw [e1] at k1
         cases k1
         obtain ⟨q1,q2,blk',cells,k3,k4,k5,k6⟩:=k2
         rw [e3] at k3
         cases k3
         obtain ⟨p1,c1,c2,p2,p3,p4⟩:=za8 hdr k5
         have hl1:l.length = k:=p3.1
         have hc1:c1.length = k:=by rw [CR.length p3,Ty.size,hT1,Nat.mul_one]
         have hTl:∀ (x:S.den) (cs:List Value),CR g.fz S x cs→cs.length = 1:=fun x cs h=>by rw [h.length,hT1]
         have hnl:news.length = m.length:=by have:=hel.length hTl; simpa using this
         obtain ⟨nm,hnm⟩:∃ nm,nm = min m.length n:=⟨_,rfl⟩
         have hmt:(m.take n) = m.take nm:=by
          rw [hnm]
          rcases Nat.le_total m.length n with h | h
          ·rw [Nat.min_eq_left h,List.take_of_length_le h,List.take_of_length_le (Nat.le_refl _)]
          ·rw [Nat.min_eq_right h]
         have hmtl:(m.take nm).length = nm:=by rw [List.length_take,hnm]; omega
         have hnt:(news.take nm).length = nm:=by rw [List.length_take,hnl,hnm]; omega
         have hnmn:nm≤n:=by omega
         have heln:Elems (CR g.fz S) (m.take nm) (news.take nm):=by
          have:=(hel.split hTl nm (by omega)).1
          simpa using this
         have harr:CR g.fz (.arr k S) (zaB l lo (m.take n)) (c1.take lo++news.take nm++c1.drop (lo + nm)):=by
          rw [hmt]
          unfold zaB
          rw [hmtl]
          have s1:=(p3.2.split hTl lo (by omega)).1
          have s2:=(p3.2.split hTl (lo + nm) (by omega)).2
          rw [Nat.mul_one] at s1 s2
          refine ⟨?_,(s1.append heln).append s2⟩
          simp only [List.length_append,List.length_take,List.length_drop]
          omega
         have hgs1:GsR g [.val (.arr k S) (zaB l lo (m.take n))] (c1.take lo++news.take nm++c1.drop (lo + nm)):=⟨_,[],by simp,harr,rfl⟩
         obtain ⟨r1,r2⟩:=zb5 hgs1 hput k5
         have hlen:(c1.take lo++news.take nm++c1.drop (lo + nm)).length = k:=by
          simp only [List.length_append,List.length_take,List.length_drop,hc1,hnt]
          omega
         have hcells:cells = cells.take off++(c1++c2):=by rw [← p2,List.take_append_drop]
         have hoff:(cells.take off).length = off:=by rw [List.length_take]; omega
         have htot:off + k≤cells.length:=by rw [← hlen]; exact r1
         have hmem:cells.take (off + lo)++news.take nm++cells.drop (off + lo + (news.take nm).length) = cells.take off++(c1.take lo++news.take nm++c1.drop (lo + nm))++cells.drop (off + (c1.take lo++news.take nm++c1.drop (lo + nm)).length):=by
          rw [hlen,hnt]
          have t1:cells.take (off + lo) = cells.take off++c1.take lo:=by
           rw [List.take_add,p2,List.take_append_of_le_length (by omega)]
          have t2:cells.drop (off + lo + nm) = c1.drop (lo + nm)++c2:=by
           rw [show off + lo + nm = off + (lo + nm) by omega,← List.drop_drop,p2,List.drop_append_of_le_length (by omega)]
          have t3:cells.drop (off + k) = c2:=by
           rw [← List.drop_drop,p2,← hc1,List.drop_left]
          rw [t1,t2,t3]
          simp [List.append_assoc]
         have hone:∀ v∈news.take nm,v.oneCell' = true:=fun v hv=>heln.all (fun x cs h=>h.one) v hv
         have hst:∃ w',(storeCells ad (news.take nm)).run P w = .ok () w'∧StW w w' blk∧BlkIs w' blk (cells.take (off + lo)++news.take nm++cells.drop (off + lo + (news.take nm).length)):=by
          rcases had with h0 | h0
          ·have hz:nm = 0:=by omega
           have:news.take nm = []:=by rw [hz]; rfl
           rw [this]
           exact ⟨w,by simp [storeCells],StW.refl w blk,by simpa using k4⟩
          ·subst h0
           obtain ⟨w',h1,h2,h3⟩:=zaU (P:=P) (off:=off + lo) (news.take nm) 0 k4 (by rw [hnt]; omega) hone
           exact ⟨w',h1,h2,by simpa using h3⟩
         obtain ⟨w',h1,h2,h3⟩:=hst
         rw [hmem] at h3
         have hrun:=zkf (yt:=yt) (ty:=ty) (c:=cap) ht hi (y:=b) (k:=m.length) (n:=n) (a:=ad) (w':=w') (by rw [his,hsz,← hT1]; exact hg) (by rw [his,hsz,Nat.mul_one,← hnm]; exact h1)
         have hu:=hs.upd e1 e3 q2 k6 h2.os h2.tape h2.output (by rw [h2.size]; exact Nat.le_refl _) (fun b hb _=>h2.other b hb) (.var gs') ⟨q1,q2,blk,_,e3,h3,r2,k6⟩
         refine ⟨_,w',hrun,?_,hu.1,hu.2⟩
         show [_] = [_]
         rw [hmt,hmtl,hnm]
        ·cases h
       ·cases h
      ·cases h
     ·cases h
    ·rename_i bk wn
     split at h
     ·rename_i T l hb
      split at h
      ·rename_i hc
       obtain ⟨hST,hT1⟩:=hc
       subst hST
       obtain ⟨gb,a0,e1,e2,e3,hw⟩:=hx
       simp only [sC,and_true] at e3
       subst e3
       obtain ⟨gb',k1,k2,k3,k4,k5,k6⟩:=hs.bxs.box _ _ hb
       rw [e1] at k1
       cases k1
       have hTe:S.size = C.size e':=by rw [hT1,hsz]
       split at h
       ·simp only [sI,sM] at h
        obtain ⟨_,rfl,rfl⟩:=h
        unfold WinR at hw
        cases hbl:gb.blk with
        | none =>
         simp only [hbl] at hw
         obtain ⟨rfl,h0⟩:=hw
         have hl0:l.length = 0:=by omega
         obtain ⟨w',q1,q2,q3⟩:=zdD hC hs hu hsz hm hb e1 (off:=0) (n:=0) (a:=gb.ad) (c:=0) (yt:=yt) (ty:=ty) (by omega) (fun h=>absurd rfl h) hy hTe
         rw [hl0]
         exact ⟨_,w',q1,rfl,q2,q3⟩
        | some blk =>
         simp only [hbl] at hw
         subst hw
         obtain ⟨w',q1,q2,q3⟩:=zdD hC hs hu hsz hm hb e1 (off:=0) (n:=l.length) (a:=some ⟨blk,gb.off,none⟩) (c:=gb.cap) (yt:=yt) (ty:=ty) (by omega) (fun _=>⟨blk,hbl,by rw [Nat.zero_mul,Nat.add_zero]⟩) hy hTe
         rw [k4]
         exact ⟨_,w',q1,rfl,q2,q3⟩
       ·rename_i off n full
        simp only [sI,sM] at h
        obtain ⟨_,rfl,rfl⟩:=h
        unfold WinR at hw
        cases hbl:gb.blk with
        | none =>
         simp only [hbl] at hw
         obtain ⟨rfl,rfl,h0,rfl⟩:=hw
         obtain ⟨w',q1,q2,q3⟩:=zdD hC hs hu hsz hm hb e1 (off:=0) (n:=0) (a:=gb.ad) (c:=0) (yt:=yt) (ty:=ty) (by omega) (fun h=>absurd rfl h) hy hTe
         exact ⟨_,w',q1,rfl,q2,q3⟩
        | some blk =>
         simp only [hbl] at hw
         obtain ⟨h1,ad,cc,rfl,_,h2,_,_,h3⟩:=hw
         obtain ⟨w',q1,q2,q3⟩:=zdD hC hs hu hsz hm hb e1 (off:=off) (n:=n) (a:=some ad) (c:=cc) (yt:=yt) (ty:=ty) (by omega) (fun hn=>by
          rcases h3 with h3 | h3
          ·omega
          ·exact ⟨blk,hbl,by rw [h3]⟩) hy hTe
         exact ⟨_,w',q1,rfl,q2,q3⟩
      ·cases h
     ·cases h
    ·cases h
  ·cases h
 ·cases h
end
end Go.V
namespace Go.V
variable [Codes]
section
variable {C:Cfg} {P:Program}
theorem GsR.split {g:Gh}:∀ {l m:List AV} {cs:List Value},GsR g (l++m) cs→∃ c1 c2,cs = c1++c2∧GsR g l c1∧GsR g m c2
 | [],m,cs,h=>⟨[],cs,rfl,rfl,h⟩
 | v :: l,m,cs,⟨c1,c2,e,h1,h2⟩=>by
  obtain ⟨d1,d2,rfl,h3,h4⟩:=h2.split
  exact ⟨c1++d1,d2,by rw [e,List.append_assoc],⟨c1,d1,rfl,h1,h3⟩,h4⟩
theorem zfN {g:Gh}:∀ {T:Ty} {x:T.den} {cs:List Value},GsR g (T.gs x) cs→CR g.fz T x cs
 | .int _,_,_,⟨c1,c2,e,h1,h2⟩=>by have h2':c2 = []:=h2; subst h2'; simp only [List.append_nil] at e; subst e; exact h1
 | .bool,_,_,⟨c1,c2,e,h1,h2⟩=>by have h2':c2 = []:=h2; subst h2'; simp only [List.append_nil] at e; subst e; exact h1
 | .str,_,_,⟨c1,c2,e,h1,h2⟩=>by have h2':c2 = []:=h2; subst h2'; simp only [List.append_nil] at e; subst e; exact h1
 | .sl _,_,_,⟨c1,c2,e,h1,h2⟩=>by have h2':c2 = []:=h2; subst h2'; simp only [List.append_nil] at e; subst e; exact h1
 | .arr _ _,_,_,⟨c1,c2,e,h1,h2⟩=>by have h2':c2 = []:=h2; subst h2'; simp only [List.append_nil] at e; subst e; exact h1
 | .unit,_,_,h=>h
 | .pair a b,x,cs,h=>by
  obtain ⟨c1,c2,rfl,h1,h2⟩:=GsR.split h
  exact ⟨c1,c2,rfl,zfN h1,zfN h2⟩
theorem TV.vr {g:Gh} {T:Ty} {x:T.den} {c:Value} (h:TV g.fz T x c):VR1 g (T.av x) c:=by
 obtain ⟨arr,h1,rfl⟩:=h
 cases T <;> exact vr_av h1
theorem zng {g:Gh} {T:Ty} {x:T.den} {c:Value} (h:VR1 g (T.av x) c):TV g.fz T x c:=by
 cases T
 case pair a b=>obtain ⟨arr,h1,h2⟩:=h; exact ⟨arr,zfN h2,h1⟩
 case unit=>obtain ⟨arr,h1,h2⟩:=h; exact ⟨arr,h2,h1⟩
 case arr n e=>obtain ⟨arr,h1,h2⟩:=h; exact ⟨arr,h2,h1⟩
 all_goals exact ⟨#[c],h,rfl⟩
theorem zjo {bxs:Bxs} {T:Ty} (hT:T.isAgg = false) {v:AV} {x:T.den} (h:conv bxs T v = some x):v.single = true:=by
 unfold conv at h
 split at h
 ·rename_i S y
  split at h
  ·rename_i hS
   subst hS
   cases S <;> first | rfl | (simp [Ty.isAgg] at hT)
  ·cases h
 ·rfl
 ·rfl
 ·rfl
 ·rfl
 ·cases h
theorem zd0 {g : Gh} {bxs : Bxs} {w : World} (hb : BxW g bxs w) (hf : FzOK g w) {T : Ty} {v : AV} {x : T.den} (h : norm bxs T v = some x) {c : Value} (hv : VR g v c) : TV g.fz T x c := by
  obtain ⟨hr, ha⟩ := zii h
  cases hT : T.isAgg with
  | true =>
    rw [hT] at ha
    have key : ∀ arr : Array Value, c = .agg arr → GsR g v.gs arr.toList → TV g.fz T x c := by
      intro arr hc hg
      have := zjh hb hf h hg
      refine ⟨arr, this, ?_⟩
      cases T <;> first | exact hc | (simp [Ty.isAgg] at hT)
    cases v <;> simp only [AV.isAgg, sF] at ha
    case val S l =>
      cases S <;> simp only [AV.isAgg, sF] at ha
      obtain ⟨arr, h1, h2⟩ := hv
      exact key arr h1 ⟨arr.toList, [], by simp, h2, rfl⟩
    case agg gs =>
      obtain ⟨arr, h1, h2⟩ := hv
      exact key arr h1 h2
  | false =>
    rw [hT] at ha
    have hgs : v.gs = [v] := by cases v <;> first | rfl | (simp [AV.isAgg] at ha)
    rw [hgs] at hr
    have hc : conv bxs T v = some x := by
      cases T <;> first
        | (simp [Ty.isAgg] at hT; done)
        | (simp only [Ty.rd] at hr
           split at hr
           · rename_i y hy
             simp only [sI, sM, and_true] at hr
             rw [hy, hr]
           · cases hr)
    have hs := zjo hT hc
    have hok : v.okGs = true := by cases v <;> first | rfl | (simp [AV.single] at hs)
    have hg := (zbR hs).1 (VR.vr1 hok hv)
    have := zjh hb hf h (cs := [c]) (by rw [hgs]; exact ⟨[c], [], rfl, hg, rfl⟩)
    refine ⟨#[c], this, ?_⟩
    cases T <;> first | rfl | (simp [Ty.isAgg] at hT)
theorem EntR.append {fz:Nat→Nat→Option Value} {K V:Ty}:∀ {l m:List (K.den × V.den)} {es fs:List MapEntry},EntR fz K V l es→EntR fz K V m fs→EntR fz K V (l++m) (es++fs)
 | [],_,[],_,_,h=>h
 | _ :: _,_,_ :: _,_,⟨h1,h2,h3⟩,h=>⟨h1,h2,h3.append h⟩
 | [],_,_ :: _,_,h,_=>h.elim
 | _ :: _,_,[],_,h,_=>h.elim
theorem zl5 {fz:Nat→Nat→Option Value} {k:IntKind} {x:Int} {c:Value}:TV fz (.int k) x c ↔ c = .int k x:=by
 constructor
 ·rintro ⟨arr,h1,rfl⟩
  have h1':arr.toList = [.int k x]:=h1
  obtain ⟨l⟩:=arr
  simp only at h1'
  subst h1'
  rfl
 ·rintro rfl
  exact ⟨#[.int k x],rfl,rfl⟩
theorem zgH {fz:Nat→Nat→Option Value} {k k':IntKind} {V:Ty} (x:Int):∀ (l:List (Int × V.den)) (es:List MapEntry) (i:Nat),EntR fz (.int k) V l es →
  (zaY (.int k) V l x = false∧Instr.findNow (.int k') (.int k x) es i = some none∧∀ y,zbr (.int k) V l x y = l++[(x,y)]) ∨
  (zaY (.int k) V l x = true∧∃ j e,Instr.findNow (.int k') (.int k x) es i = some (some (i + j,e.val))∧es[j]? = some e∧e.key = .int k x∧TV fz V (zai (.int k) V l x) e.val ∧
   ∀ (y:V.den) (c:Value),TV fz V y c→EntR fz (.int k) V (zbr (.int k) V l x y) (es.modify j fun e=>{ e with key:=.int k x,val:=c }))
 | [],[],i,_=>.inl ⟨rfl,rfl,fun _=>rfl⟩
 | [],_ :: _,_,h=>h.elim
 | _ :: _,[],_,h=>h.elim
 | (z,u) :: l,e :: es,i,⟨h1,h2,h3⟩=>by
  have hk:e.key = .int k z:=zl5.1 h1
  by_cases hz:x = z
  ·subst hz
   refine .inr ⟨by simp [zaY,keyEq],0,e,?_,rfl,hk,by simpa [zai,keyEq] using h2,fun y c hy=>?_⟩
   ·simp [Instr.findNow,hk,Instr.sameNow]
   ·simp only [zbr,keyEq,decide_true,cond_true,List.modify_zero_cons]
    exact ⟨zl5.2 rfl,hy,h3⟩
  ·have hs:Instr.findNow (.int k') (.int k x) (e :: es) i = Instr.findNow (.int k') (.int k x) es (i + 1):=by
    have:(x == z) = false:=by simpa using hz
    simp only [Instr.findNow,hk,Instr.sameNow,if_true,this]
   have e1:zaY (.int k) V ((z,u) :: l) x = zaY (.int k) V l x:=by simp [zaY,keyEq,hz]
   have e2:zai (.int k) V ((z,u) :: l) x = zai (.int k) V l x:=by simp [zai,keyEq,hz]
   have e3:∀ y,zbr (.int k) V ((z,u) :: l) x y = (z,u) :: zbr (.int k) V l x y:=fun y=>by simp [zbr,keyEq,hz]
   rw [hs,e1,e2]
   rcases zgH x l es (i + 1) h3 with ⟨q1,q2,q3⟩ | ⟨q1,j,e',q2,q3,q4,q5,q6⟩
   ·exact .inl ⟨q1,q2,fun y=>by rw [e3,q3]; rfl⟩
   ·refine .inr ⟨q1,j + 1,e',?_,by simpa using q3,q4,q5,fun y c hy=>?_⟩
    ·rw [q2]; congr 3; omega
    ·rw [e3]
     simp only [List.modify_succ_cons]
     exact ⟨h1,h2,q6 y c hy⟩
theorem zen {fz:Nat→Nat→Option Value} {k:IntKind}:∀ (l:List Int),Elems (CR fz (.int k)) l (l.map (Value.int k))
 | []=>rfl
 | x :: l=>⟨[.int k x],l.map (Value.int k),rfl,rfl,zen l⟩
theorem zjq {fz:Nat→Nat→Option Value} {n:Nat} {k:IntKind} {x:List Int} {c:Value}:TV fz (.arr n (.int k)) x c ↔ x.length = n∧c = .agg (x.map (Value.int k)).toArray:=by
 constructor
 ·rintro ⟨arr,⟨h1,h2⟩,rfl⟩
  refine ⟨h1,?_⟩
  have:=zdB h2
  show Value.agg arr = _
  rw [← this]
 ·rintro ⟨h1,rfl⟩
  exact ⟨(x.map (Value.int k)).toArray,⟨h1,zen x⟩,rfl⟩
theorem zeR {kt n:Nat} {k:IntKind} (hf:zd8 C kt (.arr n (.int k)) = true):∃ e,C.under kt = .arr n e∧C.under e = .int k∧C.size e = 1:=by
 simp only [zd8] at hf
 split at hf
 ·rename_i m e hu
  split at hf
  ·rename_i i hi
   simp only [sA,decide_eq_true_eq] at hf
   obtain ⟨rfl,h1,h2⟩:=hf
   exact ⟨e,by rw [hu,sB h1],hi,sB h2⟩
  ·cases hf
 ·cases hf
theorem zgj (hC:CfgOK C P) {w:World} {kt n:Nat} {k:IntKind} (hf:zd8 C kt (.arr n (.int k)) = true) {a b:List Int} (ha:a.length = n) (hb:b.length = n) :
  (Op.equal kt (.agg (a.map (Value.int k)).toArray) (.agg (b.map (Value.int k)).toArray)).run P w = .ok (decide (a = b)) w:=by
 obtain ⟨e,h1,h2,h3⟩:=zeR hf
 obtain ⟨ei,hei,hes,_⟩:=hC.size e (by rw [h3]; decide)
 have hc:P.cellsOf e = 1:=by unfold Program.cellsOf; rw [hei]; simp [hes,h3]
 have e0:∀ x y,Op.equal kt x y = Op.equalIn (9999 + 1) kt x y:=fun _ _=>rfl
 rw [e0,run_equalIn_array w 9999 _ _ (hC.arr kt _ _ h1) hei,hc,List.range_eq_range']
 have:=zcd (w:=w) 9998 (hC.int _ _ h2) (a:=a) (b:=b) (xs:=(a.map (Value.int k)).toArray) (ys:=(b.map (Value.int k)).toArray) rfl rfl (by rw [ha,hb]) n 0 (by rw [ha,Nat.zero_add])
 simpa using this
theorem zeS (hC:CfgOK C P) {w:World} {kt n:Nat} {k:IntKind} (hf:zd8 C kt (.arr n (.int k)) = true) {a:List Int} (ha:a.length = n) (em:Bool) :
  (Instr.checkKey em 10000 kt (.agg (a.map (Value.int k)).toArray)).run P w = .ok () w:=by
 obtain ⟨e,h1,h2,h3⟩:=zeR hf
 obtain ⟨ei,hei,hes,_⟩:=hC.size e (by rw [h3]; decide)
 have hd:=hC.int _ _ h2
 have e0:∀ x,Instr.checkKey em 10000 kt x = Instr.checkKey em (9999 + 1) kt x:=fun _=>rfl
 rw [e0,Instr.checkKey]
 simp only [Sem.run_bind,run_underlying (hC.arr kt _ _ h1),Result.andThen_ok]
 simp only [Std.Legacy.Range.forIn_eq_forIn_range',Std.Legacy.Range.size,Nat.sub_zero,Nat.add_one_sub_one,Nat.div_one]
 have key:∀ m j,j + m = n→(forIn (List.range' j m) PUnit.unit (fun i (_:PUnit)=>do Instr.checkKey em 9999 e (← part e (a.map (Value.int k)).toArray (i * (← sizeOf e))); pure (ForInStep.yield PUnit.unit)):Sem PUnit).run P w = .ok PUnit.unit w:=by
  intro m
  induction m with
  | zero=>intro j _; simp
  | succ m ih =>
   intro j hj
   have hja:j < a.length:=by omega
   have hx:((a.map (Value.int k)).toArray)[j]? = some (.int k a[j]):=by
    rw [← Array.getElem?_toList,List.getElem?_map,List.getElem?_eq_getElem hja]; rfl
   have hp:(part e (a.map (Value.int k)).toArray (j * 1)).run P w = .ok (.int k a[j]) w:=by rw [Nat.mul_one]; exact zb8 hd rfl hx
   rw [List.range'_succ]
   simp only [List.forIn_cons,Sem.run_bind,run_sizeOf hei,Result.andThen_ok,hes,h3,hp,MapKept.run_checkKey hd (show MapKept.IsKey (.int k) (.int k a[j]) from rfl) em 9998,Sem.run_pure]
   exact ih (j + 1) (by omega)
 have:=key n 0 (by omega)
 rw [this]
 rfl
theorem zhv (k:IntKind) (a:List Int):Instr.sameBits 10000 (.agg (a.map (Value.int k)).toArray) (.agg (a.map (Value.int k)).toArray) = true:=by
 have e0:∀ x y,Instr.sameBits 10000 x y = Instr.sameBits (9999 + 1) x y:=fun _ _=>rfl
 rw [e0]
 simp only [Instr.sameBits,beq_self_eq_true,Bool.true_and]
 induction a with
 | nil=>rfl
 | cons x a ih =>
  simp only [List.map_cons,List.zip_cons_cons,List.all_cons,sA] at ih ⊢
  refine ⟨?_,ih⟩
  have e1:∀ x y,Instr.sameBits 9999 x y = Instr.sameBits (9998 + 1) x y:=fun _ _=>rfl
  rw [e1]
  simp [Instr.sameBits]
theorem zeo (hC:CfgOK C P) {w:World} {kt n:Nat} {k:IntKind} (hf:zd8 C kt (.arr n (.int k)) = true) {fz:Nat→Nat→Option Value} {V:Ty} {x:List Int} (hx:x.length = n):∀ (l:List (List Int × V.den)) (es:List MapEntry) (i:Nat),EntR fz (.arr n (.int k)) V l es →
  (zaY (.arr n (.int k)) V l x = false∧(Instr.findAsking kt (.agg (x.map (Value.int k)).toArray) es i).run P w = .ok none w∧∀ y,zbr (.arr n (.int k)) V l x y = l++[(x,y)]) ∨
  (zaY (.arr n (.int k)) V l x = true∧∃ j e,(Instr.findAsking kt (.agg (x.map (Value.int k)).toArray) es i).run P w = .ok (some (i + j,e.val)) w∧es[j]? = some e∧e.key = .agg (x.map (Value.int k)).toArray∧TV fz V (zai (.arr n (.int k)) V l x) e.val ∧
   ∀ (y:V.den) (c:Value),TV fz V y c→EntR fz (.arr n (.int k)) V (zbr (.arr n (.int k)) V l x y) (es.modify j fun e=>{ e with key:=.agg (x.map (Value.int k)).toArray,val:=c }))
 | [],[],i,_=>.inl ⟨rfl,rfl,fun _=>rfl⟩
 | [],_ :: _,_,h=>h.elim
 | _ :: _,[],_,h=>h.elim
 | (z,u) :: l,e :: es,i,⟨h1,h2,h3⟩=>by
  obtain ⟨hzl,hk⟩:=zjq.1 h1
  have hq:(Op.equal kt (.agg (x.map (Value.int k)).toArray) e.key).run P w = .ok (decide (x = z)) w:=by rw [hk]; exact zgj hC hf hx hzl
  by_cases hz:x = z
  ·subst hz
   refine .inr ⟨by simp [zaY,keyEq],0,e,?_,rfl,hk,by simpa [zai,keyEq] using h2,fun y c hy=>?_⟩
   ·simp only [Instr.findAsking,Sem.run_bind,hq,Result.andThen_ok,decide_true,if_true,Nat.add_zero]
    rfl
   ·simp only [zbr,keyEq,decide_true,cond_true,List.modify_zero_cons]
    exact ⟨zjq.2 ⟨hx,rfl⟩,hy,h3⟩
  ·have hs:(Instr.findAsking kt (.agg (x.map (Value.int k)).toArray) (e :: es) i).run P w = (Instr.findAsking kt (.agg (x.map (Value.int k)).toArray) es (i + 1)).run P w:=by
    simp only [Instr.findAsking,Sem.run_bind,hq,Result.andThen_ok,decide_eq_false hz,sF,if_false]
   have e1:zaY (.arr n (.int k)) V ((z,u) :: l) x = zaY (.arr n (.int k)) V l x:=by simp [zaY,keyEq,hz]
   have e2:zai (.arr n (.int k)) V ((z,u) :: l) x = zai (.arr n (.int k)) V l x:=by simp [zai,keyEq,hz]
   have e3:∀ y,zbr (.arr n (.int k)) V ((z,u) :: l) x y = (z,u) :: zbr (.arr n (.int k)) V l x y:=fun y=>by simp [zbr,keyEq,hz]
   rw [hs,e1,e2]
   rcases zeo hC hf hx l es (i + 1) h3 with ⟨q1,q2,q3⟩ | ⟨q1,j,e',q2,q3,q4,q5,q6⟩
   ·exact .inl ⟨q1,q2,fun y=>by rw [e3,q3]; rfl⟩
   ·refine .inr ⟨q1,j + 1,e',?_,by simpa using q3,q4,q5,fun y c hy=>?_⟩
    ·rw [q2]; congr 3; omega
    ·rw [e3]
     simp only [List.modify_succ_cons]
     exact ⟨h1,h2,q6 y c hy⟩
theorem zfO {w:World} {kt:TypeId} {d:TypeDesc} (hd:P.underlying kt = some d) (arr:Array Value) (es:List MapEntry):(Instr.findKey kt (.agg arr) es).run P w = (Instr.findAsking kt (.agg arr) es 0).run P w:=by
 simp only [Instr.findKey,Sem.run_bind,run_underlying hd,Result.andThen_ok]
 cases es with
 | nil=>simp [Instr.findNow,Instr.findAsking]
 | cons e es =>
  have:Instr.sameNow d (.agg arr) e.key = none:=by unfold Instr.sameNow; split <;> first | rfl | (rename_i h _; cases h) | (rename_i h; cases h)
  simp [Instr.findNow,this]
theorem key_ok (hC : CfgOK C P) {w : World} {K V : Ty} {kt : Nat} (hk : K.keyOk = true) (ht : C.ty kt = some K) (hf : zd8 C kt K = true) {fz : Nat → Nat → Option Value} {x : K.den} {c : Value} (hx : TV fz K x c)
    {l : List (K.den × V.den)} {es : List MapEntry} (he : EntR fz K V l es) :
    (∀ em, (Instr.checkKey em 10000 kt c).run P w = .ok () w) ∧ (Instr.keyThatStays c c).run P w = .ok c w ∧
    ((zaY K V l x = false ∧ (Instr.findKey kt c es).run P w = .ok none w ∧ ∀ y, zbr K V l x y = l ++ [(x, y)]) ∨
     (zaY K V l x = true ∧ ∃ j e, (Instr.findKey kt c es).run P w = .ok (some (j, e.val)) w ∧ es[j]? = some e ∧ e.key = c ∧ TV fz V (zai K V l x) e.val ∧
      ∀ (y : V.den) (cc : Value), TV fz V y cc → EntR fz K V (zbr K V l x y) (es.modify j fun e => { e with key := c, val := cc }))) := by
  cases K with
  | int kk =>
    have hd := hC.keyTy kt kk ht
    have hxk := zl5.1 hx
    subst hxk
    have hk : MapKept.IsKey (.int kk) (.int kk x) := rfl
    refine ⟨fun em => MapKept.run_checkKey hd hk em 9999, MapKept.run_keyThatStays hk, ?_⟩
    rcases zgH (k' := kk) x l es 0 he with ⟨f1, f2, f3⟩ | ⟨f1, j, en, f2, f3, f4, f5, f6⟩
    · exact .inl ⟨f1, MapKept.run_findKey hd f2, f3⟩
    · exact .inr ⟨f1, j, en, MapKept.run_findKey hd (by rw [f2, Nat.zero_add]), f3, f4, f5, f6⟩
  | arr n e =>
    cases e with
    | int kk =>
      obtain ⟨hxl, rfl⟩ := zjq.1 hx
      obtain ⟨e', h1, _, _⟩ := zeR hf
      refine ⟨fun em => zeS hC hf hxl em, ?_, ?_⟩
      · simp [Instr.keyThatStays, zhv]
      · rw [zfO (hC.arr kt _ _ h1)]
        rcases zeo hC (w := w) hf hxl l es 0 he with ⟨f1, f2, f3⟩ | ⟨f1, j, en, f2, f3, f4, f5, f6⟩
        · exact .inl ⟨f1, f2, f3⟩
        · exact .inr ⟨f1, j, en, by rw [f2, Nat.zero_add], f3, f4, f5, f6⟩
    | _ => simp [Ty.keyOk] at hk
  | _ => simp [Ty.keyOk] at hk
theorem BornR.push {es:Array MapEntry} {ck:Nat} (h:BornR es.toList ck) (k v:Value):BornR (es.push ⟨k,v,ck⟩).toList (ck + 1):=by
 obtain ⟨h1,h2⟩:=h
 rw [Array.toList_push]
 refine ⟨fun x hx=>?_,?_⟩
 ·rcases List.mem_append.1 hx with hx | hx
  ·exact Nat.lt_succ_of_lt (h1 x hx)
  ·have:x = ⟨k,v,ck⟩:=by simpa using hx
   subst this
   exact Nat.lt_succ_self _
 ·rw [List.map_append]
  refine List.nodup_append.2 ⟨h2,by simp,?_⟩
  intro a ha b hb
  obtain ⟨x,hx,rfl⟩:=List.mem_map.1 ha
  have:b = ck:=by simpa using hb
  subst this
  exact Nat.ne_of_lt (h1 x hx)
theorem zfP (f:MapEntry→MapEntry) (hf:∀ e,(f e).born = e.born):∀ (es:List MapEntry) (j:Nat),(es.modify j f).map (·.born) = es.map (·.born)
 | [],_=>by simp
 | e :: es,0=>by simp [hf]
 | e :: es,j + 1=>by simp [zfP f hf es j]
theorem BornR.modify {es:List MapEntry} {ck:Nat} (h:BornR es ck) (j:Nat) (f:MapEntry→MapEntry) (hf:∀ e,(f e).born = e.born):BornR (es.modify j f) ck:=by
 obtain ⟨h1,h2⟩:=h
 have e:=zfP f hf es j
 refine ⟨fun x hx=>?_,by rw [e]; exact h2⟩
 have:x.born∈(es.modify j f).map (·.born):=List.mem_map.2 ⟨x,hx,rfl⟩
 rw [e] at this
 obtain ⟨y,hy,hxy⟩:=List.mem_map.1 this
 rw [← hxy]
 exact h1 y hy
theorem zjr (hC:CfgOK C P) {g:Gh} {s:St} {tm:Array Value} {tms:List (Array Value)} {w:World} (hs:StR g s tm tms w) {key t:Nat} {v:AV} {e:Eff}
  (h:zg2 C key t = some (true,v,e)) (hk:find s.bxs key = none) :
  ∃ z w' g',(Instr.makeMap t none).run P w = .ok z w'∧VR g' v z∧StR g' (e.apply s) tm tms w'∧Tr g w g' w':=by
 unfold zg2 at h
 split at h
 ·split at h
  ·rename_i K V hK hV
   simp only [sI,sM,true_and] at h
   obtain ⟨rfl,rfl⟩:=h
   let gb:Gb:=⟨false,true,some w.heap.size,0,0,0,0,none⟩
   have hgr:w.grownBy (w.alloc (.map #[] 0)) none:=World.grownBy_alloc w _ none
   have hx:=zeM gb (hs.bxs.none hk)
   have hbn:BornR (#[]:Array MapEntry).toList 0:=⟨fun x h=>by simp at h,by simp⟩
   obtain ⟨h1,h2,_⟩:=hs.add hk hgr (.map K V []) gb ⟨rfl,rfl,w.heap.size,#[],0,rfl,heap_alloc_new w _,trivial,hbn,fun o=>hs.fz.noneAt (Nat.le_refl _) o⟩ (fun blk e1 _=>by cases e1; exact Nat.le_refl _)
   refine ⟨.map (some w.heap.size),_,_,?_,⟨gb,w.heap.size,Gh.put_same _ _ _,rfl,rfl,rfl⟩,h1,h2⟩
   simp [Instr.makeMap,newObj]
   rfl
  ·cases h
 ·cases h
theorem zfQ {w:World} {r:Nat} {o:Obj} (h:r < w.heap.size):({ w with heap:=w.heap.setIfInBounds r o }:World).heap[r]? = some o:=by
 simp [h]
theorem zhw (hC:CfgOK C P) {g:Gh} {s:St} {tm:Array Value} {tms:List (Array Value)} {w:World} (hs:StR g s tm tms w) {t:Nat} {m k v u:AV} {c:Bool} {e:Eff}
  (h:zeC C s.bxs t m k v = some (c,u,e)) {a x y:Value} (ha:VR g m a) (hx:VR g k x) (hy:VR g v y) :
  u = .tup []∧∃ w',(Instr.mapUpdate t a x y).run P w = .ok () w'∧StR g (e.apply s) tm tms w'∧Tr g w g w':=by
 unfold zeC at h
 split at h
 ·rename_i kt et b hu
  split at h
  ·rename_i K V l hb
   split at h
   ·rename_i hc
    split at h
    ·rename_i kx vy hkx hvy
     simp only [sI,sM] at h
     obtain ⟨_,rfl,rfl⟩:=h
     have hm:=hC.map t _ _ hu
     obtain ⟨gb,r,es,ck,rfl,e1,e3,e2,q2,q4,q5,q7,q6⟩:=zox hs hb ha
     have hxk:=zd0 hs.bxs.w hs.fz hkx hx
     have hvv:=zd0 hs.bxs.w hs.fz hvy hy
     have hlt:=(Array.getElem?_eq_some_iff.1 q4).1
     have done:∀ es' ck',EntR g.fz K V (zbr K V l kx vy) es'.toList→BornR es'.toList ck'→StR g ((Eff.upd b (.map K V (zbr K V l kx vy))).apply s) tm tms { w with heap:=w.heap.setIfInBounds r (.map es' ck') }∧Tr g w g { w with heap:=w.heap.setIfInBounds r (.map es' ck') }:=by
      intro es' ck' hes hbn
      exact hs.upd (w':={ w with heap:=w.heap.setIfInBounds r (.map es' ck') }) e1 e3 q2 q6 rfl rfl rfl (by simp) (fun b hb _=>by simp [Ne.symm hb]) (.map K V (zbr K V l kx vy)) ⟨e2,q2,r,es',ck',e3,zfQ hlt,hes,hbn,q6⟩
     refine ⟨rfl,?_⟩
     obtain ⟨c1,c2,c3⟩:=key_ok hC (w:=w) hc.1 hc.2.1 hc.2.2 hxk q5
     rcases c3 with ⟨f1,f2,f3⟩ | ⟨f1,j,en,f2,f3,f4,f5,f6⟩
     ·refine ⟨_,?_,done (es.push ⟨x,y,ck⟩) (ck + 1) ?_ (q7.push x y)⟩
      ·simp [Instr.mapUpdate,run_underlying hm,MapKept.run_getObj_map q4,c1,f2,MapKept.run_setObj_map _ q4,Result.andThen]
      ·rw [f3,Array.toList_push]
       exact q5.append ⟨hxk,hvv,trivial⟩
     ·refine ⟨_,?_,done (es.modify j fun e=>{ e with key:=x,val:=y }) ck ?_ ?_⟩
      ·have h3:es[j]? = some en:=by rw [← Array.getElem?_toList]; exact f3
       have h4:((es[j]?).map (·.key)).getD x = x:=by rw [h3]; exact f4
       simp [Instr.mapUpdate,run_underlying hm,MapKept.run_getObj_map q4,c1,f2,h4,c2,MapKept.run_setObj_map _ q4,Result.andThen]
      ·rw [Array.toList_modify]
       exact f6 vy y hvv
      ·rw [Array.toList_modify]
       exact q7.modify j _ (fun _=>rfl)
    ·cases h
   ·cases h
  ·cases h
 ·cases h
theorem zkV (hC:CfgOK C P) {g:Gh} {s:St} {tm:Array Value} {tms:List (Array Value)} {w:World} (hs:StR g s tm tms w) {t:Nat} {m k u:AV} {ok c:Bool} {e:Eff}
  (h:ziU C s.bxs t m k ok = some (c,u,e)) {a x:Value} (ha:VR g m a) (hx:VR g k x) :
  e = .none∧∃ z,(Instr.lookup t a x ok).run P w = .ok z w∧VR g u z:=by
 unfold ziU at h
 split at h
 ·rename_i kt et b hu
  split at h
  ·rename_i K V l hb
   split at h
   ·rename_i hc
    split at h
    ·rename_i kx hkx
     simp only [sI,sM] at h
     obtain ⟨_,rfl,rfl⟩:=h
     have hm:=hC.map t _ _ hu
     obtain ⟨gb,r,es,ck,rfl,e1,e3,e2,q2,q4,q5,q6⟩:=zlS hs hb ha
     have hxk:=zd0 hs.bxs.w hs.fz hkx hx
     obtain ⟨hts,i,z,hi,his,_,_,hiz,hg⟩:=hC.ty et V hc.2.2.1
     have hz:TV g.fz V V.dflt z:=hC.zeroTy et V hc.2.2.1 i z hi hiz g.fz
     refine ⟨rfl,?_⟩
     have fin:∀ (zz:Value),TV g.fz V (zai K V l kx) zz→∀ bb,zaY K V l kx = bb→VR g (if ok = true then .tup [V.av (zai K V l kx),.val .bool (zaY K V l kx)] else V.av (zai K V l kx)) (if ok then .tuple #[zz,.bool bb] else zz):=by
      intro zz h1 bb h2
      cases ok with
      | true=>exact ⟨_,rfl,h1.vr,by rw [h2]; rfl,trivial⟩
      | false=>exact h1.vr.vr'
     obtain ⟨c1,c2,c3⟩:=key_ok hC (w:=w) hc.1 hc.2.1 hc.2.2.2 hxk q5
     rcases c3 with ⟨f1,f2,f3⟩ | ⟨f1,j,en,f2,f3,f4,f5,f6⟩
     ·have hd0:zai K V l kx = V.dflt:=by
       have:∀ l:List (K.den × V.den),zaY K V l kx = false→zai K V l kx = V.dflt:=by
        intro l
        induction l with
        | nil=>intro _; rfl
        | cons p l ih =>
         intro hh
         simp only [zaY,zai] at hh ⊢
         cases hq:keyEq K kx p.1 with
         | true=>rw [hq] at hh; cases hh
         | false=>rw [hq] at hh; exact ih hh
       exact this l f1
      refine ⟨_,?_,fin z (by rw [hd0]; exact hz) false f1⟩
      simp [Instr.lookup,run_underlying hm,MapKept.run_getObj_map q4,c1,f2,zeroValue,typeInfo,hi,hiz,Result.andThen]
     ·refine ⟨_,?_,fin en.val f5 true f1⟩
      simp [Instr.lookup,run_underlying hm,MapKept.run_getObj_map q4,c1,f2,Result.andThen]
    ·cases h
   ·cases h
  ·cases h
 ·cases h
theorem zgI (hC:CfgOK C P) {t:Nat} (h:(C.under t).conc = true):∃ d,P.underlying t = some d∧∀ m,d ≠ .interface m:=by
 cases hu:C.under t <;> rw [hu] at h <;> simp only [UT.conc,sF] at h
 ·exact ⟨_,hC.int t _ hu,fun _ h=>nomatch h⟩
 ·exact ⟨_,hC.bool t hu,fun _ h=>nomatch h⟩
 ·exact ⟨_,hC.str t hu,fun _ h=>nomatch h⟩
 ·exact ⟨_,hC.ptr t _ hu,fun _ h=>nomatch h⟩
 ·exact ⟨_,hC.sl t _ hu,fun _ h=>nomatch h⟩
 ·obtain ⟨f,h1,_⟩:=hC.st t _ hu
  exact ⟨_,h1,fun _ h=>nomatch h⟩
theorem zhx (hC:CfgOK C P) {g:Gh} {w:World} {t:Nat} {x v:AV} {c:Bool} {e:Eff} (h:zeD C t x = some (c,v,e)) {a:Value} (ha:VR g x a) :
  e = .none∧(Instr.makeInterface t a).run P w = .ok (.iface t a) w∧VR g v (.iface t a):=by
 unfold zeD at h
 split at h
 ·rename_i hc
  obtain ⟨d,hd,hn⟩:=zgI hC hc
  have hr:(Instr.makeInterface t a).run P w = .ok (.iface t a) w:=by
   simp only [Instr.makeInterface,Sem.run_bind,run_underlying hd,Result.andThen_ok]
   cases d <;> first | rfl | exact absurd rfl (hn _)
  split at h
  ·simp only [ok,sI,sM] at h
   obtain ⟨_,rfl,rfl⟩:=h
   have ha':[a] = [_]:=ha
   cases ha'
   exact ⟨rfl,hr,_,rfl,rfl⟩
  ·simp only [ok,sI,sM] at h
   obtain ⟨_,rfl,rfl⟩:=h
   have ha':[a] = [_]:=ha
   cases ha'
   exact ⟨rfl,hr,_,rfl,rfl⟩
  ·simp only [ok,sI,sM] at h
   obtain ⟨_,rfl,rfl⟩:=h
   obtain ⟨arr,rfl,h2⟩:=ha
   obtain ⟨l⟩:=arr
   have h2':l = []:=h2
   subst h2'
   exact ⟨rfl,hr,_,rfl,rfl⟩
  ·cases h
 ·cases h
theorem zl6 (hC:CfgOK C P) {g:Gh} {w:World} {t:Nat} {z:AV} (h:zhW C t = some z) (hz:∀ fs i z,C.under t = .st fs→P.info? t = some i→i.zero = some z→∃ a,z = .agg a)
  (hn:∀ i z,(C.under t).agg = false→P.info? t = some i→i.zero = some z→z.cells.size = 1→z.cells = #[z]):∃ c,(zeroValue t).run P w = .ok c w∧VR1 g z c:=by
 unfold zhW at h
 split at h
 ·rename_i gs hgs
  obtain ⟨i,c,hi,_,_,hiz,hg⟩:=hC.zero t gs hgs
  have hr:(zeroValue t).run P w = .ok c w:=by simp [zeroValue,typeInfo,hi,hiz]
  have one:(C.under t).agg = false→oneG gs = some z→∃ c,(zeroValue t).run P w = .ok c w∧VR1 g z c:=by
   clear h
   intro ha h
   unfold oneG at h
   split at h
   ·rename_i g1
    cases hs:g1.single with
    | false=>rw [hs] at h; cases h
    | true =>
     rw [hs,cond_true] at h
     cases h
     obtain ⟨c1,c2,e,h1,h2⟩:=hg g
     have h2':c2 = []:=h2
     subst h2'
     rw [List.append_nil] at e
     have hl:c.cells.size = 1:=by
      rw [← Array.length_toList,e,h1.length]
      cases z <;> first | rfl | (simp [AV.single] at hs)
      case val T x=>cases T <;> first | rfl | (simp [AV.single] at hs)
     have hcc:=hn i c ha hi hiz hl
     refine ⟨c,hr,(zbR hs).2 ?_⟩
     rw [hcc] at e
     have e':c1 = [c]:=by simpa using e.symm
     rw [e'] at h1
     exact h1
   ·cases h
  split at h
  ·rename_i fs hu
   simp only [sI] at h
   subst h
   obtain ⟨a,rfl⟩:=hz fs i c hu hi hiz
   exact ⟨_,hr,a,rfl,hg g⟩
  ·rename_i hu; exact one (by rw [hu]; rfl) h
  ·rename_i hu; exact one (by rw [hu]; rfl) h
  ·rename_i hu; exact one (by rw [hu]; rfl) h
  ·rename_i hu; exact one (by rw [hu]; rfl) h
  ·rename_i hu; exact one (by rw [hu]; rfl) h
  ·cases h
 ·cases h
structure ZeroForm (C:Cfg) (P:Program):Prop where
 st:∀ t fs i z,C.under t = .st fs→P.info? t = some i→i.zero = some z→∃ a,z = .agg a
 one:∀ t i z,(C.under t).agg = false→(C.under t).conc = true→P.info? t = some i→i.zero = some z→∀ a,z ≠ .agg a
theorem zgk (hC:CfgOK C P) {g:Gh} {w:World} {t xt:Nat} {x v:AV} {c:Bool} {e:Eff} (h:zdU C t x = some (c,v,e)) {a:Value} (ha:VR g x a) :
  e = .none∧∃ z,(Instr.typeAssert a xt t true).run P w = .ok z w∧VR g v z:=by
 unfold zdU at h
 split at h
 ·rename_i hc
  obtain ⟨d,hd,hn⟩:=zgI hC hc
  have zero:∀ z,zhW C t = some z→∃ cz,(zeroValue t).run P w = .ok cz w∧VR1 g z cz:=fun z hz =>
   zl6 hC hz (fun fs i z h1 h2 h3=>hC.zst t fs i z h1 h2 h3) (fun i z h1 h2 h3 h4=>by
    have:=hC.zone t i z h1 hc h2 h3
    cases z <;> first | rfl | exact absurd rfl (this _))
  split at h
  ·rename_i u v'
   obtain ⟨cv,e1,e2⟩:=ha
   simp only [sC,and_true] at e1
   subst e1
   have hv1:VR1 g v' cv:=by
    split at e2
    ·subst e2; rfl
    ·subst e2; rfl
    ·subst e2; exact ⟨#[],rfl,rfl⟩
    ·exact e2.elim
   split at h
   ·rename_i hut
    subst hut
    simp only [sI,sM] at h
    obtain ⟨_,rfl,rfl⟩:=h
    refine ⟨rfl,.tuple #[cv,.bool true],?_,#[cv,.bool true],rfl,hv1,rfl,trivial⟩
    simp only [Instr.typeAssert,Sem.run_bind,run_underlying hd,Result.andThen_ok]
    cases d <;> first | exact absurd rfl (hn _) | simp
   ·rename_i hut
    split at h
    ·rename_i z hz
     simp only [sI,sM] at h
     obtain ⟨_,rfl,rfl⟩:=h
     obtain ⟨cz,k1,k2⟩:=zero z hz
     refine ⟨rfl,.tuple #[cz,.bool false],?_,#[cz,.bool false],rfl,k2,rfl,trivial⟩
     simp only [Instr.typeAssert,Sem.run_bind,run_underlying hd,Result.andThen_ok]
     cases d <;> first | exact absurd rfl (hn _) | simp [hut,k1]
    ·cases h
  ·split at h
   ·rename_i z hz
    simp only [sI,sM] at h
    obtain ⟨_,rfl,rfl⟩:=h
    obtain ⟨cz,k1,k2⟩:=zero z hz
    have ha':[a] = [Value.nilIface]:=ha
    cases ha'
    refine ⟨rfl,.tuple #[cz,.bool false],?_,#[cz,.bool false],rfl,k2,rfl,trivial⟩
    simp only [Instr.typeAssert,Sem.run_bind,run_underlying hd,Result.andThen_ok]
    cases d <;> first | exact absurd rfl (hn _) | simp [k1]
   ·cases h
  ·cases h
 ·cases h
theorem zl7 (hC:CfgOK C P) {g:Gh} {w:World} {op:BinOp} {t:Nat} {x v:AV} {e:Eff} (h:zld C op t x = some (true,v,e)) {a:Value} (ha:VR g x a) (xo:Operand) :
  e = .none∧∃ z,(do eqGuard op t xo (.const .nilIface) a .nilIface; binOp op t a .nilIface:Sem Value).run P w = .ok z w∧VR g v z:=by
 unfold zld at h
 have key:∀ ms,P.underlying t = some (.interface ms)→∀ c:Bool,eqV op c = some (true,v,e)→(Op.equal t a .nilIface).run P w = .ok c w→(∀ b,a ≠ .agg b)→(binOp .eql t a .nilIface = (do pure (.bool (← Op.equal t a .nilIface))))→(binOp .neq t a .nilIface = (do pure (.bool (!(← Op.equal t a .nilIface))))) →
   e = .none∧∃ z,(do eqGuard op t xo (.const .nilIface) a .nilIface; binOp op t a .nilIface:Sem Value).run P w = .ok z w∧VR g v z:=by
  intro ms hm c hv hq hag hb hb'
  obtain ⟨he,hv'⟩:=zdR hv
  refine ⟨he,?_⟩
  obtain ⟨z,h1,h2⟩:=za1 (g:=g) hq hv' hb hb'
  refine ⟨z,?_,h2⟩
  rw [Sem.run_bind]
  have hg:(eqGuard op t xo (.const .nilIface) a .nilIface).run P w = .ok () w:=by
   unfold eqGuard
   rcases hv' with ⟨rfl,_⟩ | ⟨rfl,_⟩ <;> cases a <;> simp
  rw [hg]
  exact h1
 split at h
 ·rename_i u v' hu
  obtain ⟨ms,hm⟩:=hC.iface t hu
  obtain ⟨cv,e1,_⟩:=ha
  simp only [sC,and_true] at e1
  subst e1
  refine key ms hm false h ?_ (fun _ h=>nomatch h) rfl rfl
  obtain ⟨d,hq⟩:=zbv t (.iface u cv) .nilIface
  rw [hq]
  simp [Op.equalIn,run_underlying hm]
 ·rename_i hu
  obtain ⟨ms,hm⟩:=hC.iface t hu
  have ha':[a] = [Value.nilIface]:=ha
  cases ha'
  refine key ms hm true h ?_ (fun _ h=>nomatch h) rfl rfl
  obtain ⟨d,hq⟩:=zbv t .nilIface .nilIface
  rw [hq]
  simp [Op.equalIn,run_underlying hm]
 ·cases h
theorem zfd (z:Array Value) (n:Nat):(Builtin.zeroCells z n).toList = (List.replicate n z.toList).flatten:=by
 rw [← zcz]
 simp [Builtin.zeroCells]
theorem zdE (hC:CfgOK C P) {g:Gh} {s:St} {tm:Array Value} {tms:List (Array Value)} {w:World} (hs:StR g s tm tms w) {t ty el:Nat} {T:Ty} {l:List T.den} {b:Nat} (hu:C.under t = .sl el) (hT:C.ty el = some T) (hT0:T.size ≠ 0)
  (hb:find s.bxs b = some (.row T false l)) {gb:Gb} (hg:g.bx b = some gb) {off n:Nat} (hoff:off + n≤l.length) {a:Option Addr} {c:Nat} (ha:n ≠ 0→∃ blk,gb.blk = some blk∧a = some ⟨blk,gb.off + off * gb.sz,none⟩) :
  ∃ w',(Builtin.clear_ #[t] ty #[.slice a n c]).run P w = .ok (.tuple #[]) w'∧StR g ((Eff.upd b (.row T false (zaB l off (List.replicate n T.dflt)))).apply s) tm tms w'∧Tr g w g w':=by
 have hd:=hC.sl t _ hu
 by_cases hn:n = 0
 ·subst hn
  have hl:zaB l off (List.replicate 0 T.dflt) = l:=by simp [zaB]
  rw [hl]
  refine ⟨w,?_,hs.bxSame hb,Tr.refl _ _⟩
  cases a <;> simp [Builtin.clear_,run_underlying hd]
 ·obtain ⟨blk,e1,rfl⟩:=ha hn
  obtain ⟨gb',k1,k2,k3,k4,k5,k6⟩:=hs.bxs.box b _ hb
  rw [hg] at k1
  cases k1
  simp only [e1] at k6
  cases ho:gb.own with
  | false =>
   simp only [ho] at k6
   rcases k6.1 with h | h
   ·cases h
   ·subst h; simp only [List.length_nil] at hoff; omega
  | true =>
   simp only [ho] at k6
   obtain ⟨cells,cs,q1,q2,q3,q4,q5,q6⟩:=k6
   obtain ⟨hts,i,z,hi,his,_,_,hiz,hgz⟩:=hC.ty el _ hT
   have hzl:z.cells.toList.length = T.size:=(hgz g.fz).length
   have hTl:∀ (x:T.den) (cs:List Value),CR g.fz T x cs→cs.length = T.size:=fun x cs h=>h.length
   have hel:Elems (CR g.fz T) (List.replicate n T.dflt) (List.replicate n z.cells.toList).flatten:=zb9 (hgz g.fz) n
   obtain ⟨zs,hzs⟩:∃ zs,zs = (List.replicate n z.cells.toList).flatten:=⟨_,rfl⟩
   rw [← hzs] at hel
   have hzsl:zs.length = n * T.size:=by have:=hel.length hTl; simpa using this
   have hcsl:cs.length = l.length * T.size:=q3.length hTl
   have hle:(off + n) * T.size≤l.length * T.size:=Nat.mul_le_mul_right _ hoff
   have hle2:l.length * T.size≤gb.cap * T.size:=Nat.mul_le_mul_right _ (by omega)
   rw [Nat.add_mul] at hle
   have hone:∀ v∈zs,v.oneCell' = true:=fun v hv=>hel.all (fun x cs h=>h.one) v hv
   obtain ⟨w',h1,h2,h3⟩:=zaU (P:=P) (off:=gb.off + off * gb.sz) zs 0 q1 (by rw [k3,hzsl]; omega) hone
   rw [Nat.add_zero,k3] at h3
   have hrun:(Builtin.clear_ #[t] ty #[.slice (some ⟨blk,gb.off + off * gb.sz,none⟩) n c]).run P w = .ok (.tuple #[]) w':=by
    have hz0:zeroValue el = (zeroValue el):=rfl
    rw [hzs,← zfd] at h1
    obtain ⟨m,rfl⟩:∃ m,n = m + 1:=⟨n - 1,by omega⟩
    simp [Builtin.clear_,run_underlying hd,zeroValue,typeInfo,hi,hiz,h1]
   have hnew:Elems (CR g.fz T) (zaB l off (List.replicate n T.dflt)) (cs.take (off * T.size)++zs++cs.drop ((off + n) * T.size)):=by
    unfold zaB
    rw [List.length_replicate]
    have s1:=(q3.split hTl off (by omega)).1
    have s2:=(q3.split hTl (off + n) (by omega)).2
    exact (s1.append hel).append s2
   have hlen:(zaB l off (List.replicate n T.dflt)).length = l.length:=by
    unfold zaB
    simp only [List.length_append,List.length_take,List.length_drop,List.length_replicate]
    omega
   have hcl:(cells.take (gb.off + off * T.size)++zs++cells.drop (gb.off + off * T.size + zs.length)).length = cells.length:=by
    simp only [List.length_append,List.length_take,List.length_drop]
    omega
   refine ⟨w',hrun,?_⟩
   refine hs.upd hg e1 ho (q5 trivial) h2.os h2.tape h2.output (by rw [h2.size]; exact Nat.le_refl _) (fun b hb _=>h2.other b hb) (.row T false (zaB l off (List.replicate n T.dflt))) ⟨k2,k3,by rw [k4,hlen],k5,?_⟩
   simp only [e1,ho]
   refine ⟨_,_,h3,by rw [hcl]; exact q2,hnew,fun j v e=>?_,fun _=>q5 trivial,fun h=>nomatch h⟩
   have hjl:j < (cs.take (off * T.size)++zs++cs.drop ((off + n) * T.size)).length:=(List.getElem?_eq_some_iff.1 e).1
   have a1:(cs.take (off * T.size)).length = off * T.size:=by rw [List.length_take]; omega
   have a2:(cells.take (gb.off + off * T.size)).length = gb.off + off * T.size:=by rw [List.length_take]; omega
   rw [List.append_assoc] at e ⊢
   by_cases hj1:j < off * T.size
   ·rw [List.getElem?_append_left (by rw [a1]; exact hj1),List.getElem?_take_of_lt hj1] at e
    rw [List.getElem?_append_left (by rw [a2]; omega),List.getElem?_take_of_lt (by omega)]
    exact q4 j v e
   ·rw [List.getElem?_append_right (by rw [a1]; omega),a1] at e
    rw [List.getElem?_append_right (by rw [a2]; omega),a2]
    have ej:gb.off + j - (gb.off + off * T.size) = j - off * T.size:=by omega
    rw [ej]
    by_cases hj2:j - off * T.size < zs.length
    ·rw [List.getElem?_append_left hj2] at e ⊢
     exact e
    ·rw [List.getElem?_append_right (by omega)] at e ⊢
     rw [List.getElem?_drop] at e ⊢
     have e2:(off + n) * T.size + (j - off * T.size - zs.length) = j:=by rw [Nat.add_mul]; omega
     have e3:gb.off + off * T.size + zs.length + (j - off * T.size - zs.length) = gb.off + j:=by omega
     rw [e2] at e
     rw [e3]
     exact q4 j v e
theorem zl8 (hC:CfgOK C P) {g:Gh} {s:St} {tm:Array Value} {tms:List (Array Value)} {w:World} (hs:StR g s tm tms w) {t ty:Nat} {x v:AV} {c:Bool} {e:Eff} (h:zle C s.bxs t x = some (c,v,e)) {a:Value} (ha:VR g x a) :
  v = .tup []∧∃ w',(Builtin.clear_ #[t] ty #[a]).run P w = .ok (.tuple #[]) w'∧StR g (e.apply s) tm tms w'∧Tr g w g w':=by
 unfold zle at h
 split at h
 ·rename_i el hu
  split at h
  ·simp only [sI,sM] at h
   obtain ⟨_,rfl,rfl⟩:=h
   have ha':[a] = [Value.slice none 0 0]:=ha
   cases ha'
   exact ⟨rfl,w,by simp [Builtin.clear_,run_underlying (hC.sl t _ hu)],hs,Tr.refl _ _⟩
  ·rename_i S b wn hS
   split at h
   ·rename_i T l hb
    split at h
    ·rename_i hc
     obtain ⟨rfl,hT0⟩:=hc
     obtain ⟨gb,a',e1,e2,e3,hw⟩:=ha
     simp only [sC,and_true] at e3
     subst e3
     obtain ⟨gb',k1,k2,k3,k4,k5,k6⟩:=hs.bxs.box b _ hb
     rw [e1] at k1
     cases k1
     split at h
     ·simp only [sI,sM] at h
      obtain ⟨_,rfl,rfl⟩:=h
      refine ⟨rfl,?_⟩
      have hl:zaB l 0 (List.replicate l.length S.dflt) = List.replicate l.length S.dflt:=by simp [zaB]
      rw [← hl]
      unfold WinR at hw
      cases hbl:gb.blk with
      | none =>
       simp only [hbl] at hw
       obtain ⟨rfl,h0⟩:=hw
       have:l.length = 0:=by omega
       rw [this]
       exact zdE hC hs hu hS hT0 hb e1 (by omega) (fun h=>absurd rfl h)
      | some blk =>
       simp only [hbl] at hw
       rw [hw,k4]
       exact zdE hC hs hu hS hT0 hb e1 (by omega) (fun _=>⟨blk,hbl,by rw [Nat.zero_mul,Nat.add_zero]⟩)
     ·rename_i off n full
      simp only [sI,sM] at h
      obtain ⟨_,rfl,rfl⟩:=h
      refine ⟨rfl,?_⟩
      unfold WinR at hw
      cases hbl:gb.blk with
      | none =>
       simp only [hbl] at hw
       obtain ⟨rfl,rfl,h0,rfl⟩:=hw
       exact zdE hC hs hu hS hT0 hb e1 (by omega) (fun h=>absurd rfl h)
      | some blk =>
       simp only [hbl] at hw
       obtain ⟨h1,ad,cc,rfl,_,h2,_,_,h3⟩:=hw
       refine zdE hC hs hu hS hT0 hb e1 (by omega) (fun hn=>?_)
       rcases h3 with h3 | h3
       ·omega
       ·exact ⟨blk,hbl,by rw [h3]⟩
    ·cases h
   ·cases h
  ·cases h
 ·cases h
end
end Go.V
namespace Go.V
variable [Codes]
section
variable {C:Cfg} {P:Program}
theorem StR.frzM {g:Gh} {s:St} {tm:Array Value} {tms:List (Array Value)} {w:World} (h:StR g s tm tms w) {b:Nat} {K V:Ty} {l:List (K.den × V.den)} (hm:mapAt s.bxs b = some ⟨K,V,l⟩) :
  ∃ fz' gb r es ck,g.bx b = some gb∧gb.isRow = false∧gb.blk = some r∧w.heap[r]? = some (.map es ck)∧fz' r 0 = some (zbQ es ck)∧EntR fz' K V l es.toList∧BornR es.toList ck ∧
   StR ⟨fz',g.bx⟩ { s with bxs:=setB s.bxs b (.fmap K V l) } tm tms w∧Tr g w ⟨fz',g.bx⟩ w:=by
 have fin:∀ {gb:Gb},g.bx b = some gb→∀ fz':Nat→Nat→Option Value,(∀ b o v,g.fz b o = some v→fz' b o = some v)→(∀ x o,fz' x o ≠ none→g.fz x o ≠ none ∨ (gb.blk = some x∧gb.own = true))→FzOK ⟨fz',g.bx⟩ w →
   BoxR ⟨fz',g.bx⟩ (.fmap K V l) gb w→StR ⟨fz',g.bx⟩ { s with bxs:=setB s.bxs b (.fmap K V l) } tm tms w∧Tr g w ⟨fz',g.bx⟩ w:=by
  intro gb hgb fz' hfz hnew hok hbox
  have hx:ExtBut none g ⟨fz',g.bx⟩:=⟨hfz,fun _ _ _ h=>h,fun _ _ h _=>nomatch h⟩
  refine ⟨⟨h.env.grow hx,h.stk.grow hx,⟨?_,?_,h.bxs.sep⟩,hok⟩,⟨rfl,rfl,rfl,Nat.le_refl _,hfz,?_,fun b h=>.inl h,fun _ _ _=>rfl⟩⟩
  ·intro j c e
   by_cases hj:b = j
   ·subst hj
    simp only [zaF,sI] at e
    subst e
    exact ⟨gb,hgb,hbox⟩
   ·simp only [zav _ _ hj] at e
    obtain ⟨a,e1,e2⟩:=h.bxs.box j c e
    refine ⟨a,e1,e2.ext hx (fun _ _ _=>rfl) (fun blk k1 k2 o k3=>?_) ?_⟩
    ·cases hz:fz' blk o with
     | none=>exact hz
     | some v =>
      rcases hnew blk o (by rw [hz]; simp) with h1 | h1
      ·exact absurd k3 h1
      ·exact (h.bxs.sep b j gb a blk hj hgb e1 h1.1 h1.2 k1 k2).elim
    ·exact zaK _
  ·intro j a e
   by_cases hj:b = j
   ·subst hj; simp only [zaF]; rfl
   ·simp only [zav _ _ hj]; exact h.bxs.dom j a e
  ·intro x o e
   rcases hnew x o e with h1 | h1
   ·exact .inl h1
   ·exact .inr (.inr ⟨b,gb,hgb,h1.1,h1.2⟩)
 rcases zeN hm with hb | hb
 ·obtain ⟨gb,hgb,q1,q2,r,es,ck,q3,q4,q5,q6,q7⟩:=h.bxs.box b _ hb
  let fz':Nat→Nat→Option Value:=fun x o=>if x = r∧o = 0 then some (zbQ es ck) else g.fz x o
  have hfz:∀ b o v,g.fz b o = some v→fz' b o = some v:=by
   intro x o v e
   show (if x = r∧o = 0 then some (zbQ es ck) else g.fz x o) = some v
   split
   ·rename_i hc
    rw [hc.1,q7] at e
    cases e
   ·exact e
  have h0:fz' r 0 = some (zbQ es ck):=if_pos ⟨rfl,rfl⟩
  obtain ⟨k1,k2⟩:=fin hgb fz' hfz (fun x o e=>by
    have e':(if x = r∧o = 0 then some (zbQ es ck) else g.fz x o) ≠ none:=e
    split at e'
    ·rename_i hc
     exact .inr ⟨by rw [q3,hc.1],q2⟩
    ·exact .inl e') (fun x o v e=>by
    have e':(if x = r∧o = 0 then some (zbQ es ck) else g.fz x o) = some v:=e
    split at e'
    ·rename_i hc
     obtain ⟨rfl,rfl⟩:=hc
     cases e'
     exact ⟨fun hv=>by simp [zbQ,isTup] at hv,fun _=>⟨es,ck,rfl,q4⟩⟩
    ·exact h.fz x o v e') ⟨q1,q2,r,es,ck,q3,q4,q5.mono hfz,q6,h0⟩
  exact ⟨fz',gb,r,es,ck,hgb,q1,q3,q4,h0,q5.mono hfz,q6,k1,k2⟩
 ·obtain ⟨gb,hgb,q1,q2,r,es,ck,q3,q4,q5,q6,q7⟩:=h.bxs.box b _ hb
  obtain ⟨k1,k2⟩:=fin hgb g.fz (fun _ _ _ h=>h) (fun _ _ h=>.inl h) h.fz ⟨q1,q2,r,es,ck,q3,q4,q5,q6,q7⟩
  exact ⟨g.fz,gb,r,es,ck,hgb,q1,q3,q4,q7,q5,q6,k1,k2⟩
theorem zjs (es:Array MapEntry):leftOf es #[] = es:=by
 unfold leftOf
 exact Array.filter_eq_self.2 (fun x _=>by simp)
theorem zl9 (hC : CfgOK C P) {g : Gh} {s : St} {tm : Array Value} {tms : List (Array Value)} {w : World} (hs : StR g s tm tms w) {t kt et b key : Nat} {K V : Ty} {l : List (K.den × V.den)} (hu : C.under t = .map kt et) (hm : mapAt s.bxs b = some ⟨K, V, l⟩) (hk : find s.bxs key = none)
    {a : Value} (ha : VR g (.mp b) a) :
    ∃ z w' g', (Instr.range t a).run P w = .ok z w' ∧ VR g' (.ptr key 0 []) z ∧ StR g' { s with bxs := (key, .iter K V l none) :: setB s.bxs b (.fmap K V l) } tm tms w' ∧ Tr g w g' w' := by
  obtain ⟨fz', gb, r, es, ck, e1, e2, e3, e4, e5, e6, e7, hs1, t1⟩ := hs.frzM hm
  obtain ⟨gb', r', f1, f2, f3, f4⟩ := ha
  rw [e1] at f1
  cases f1
  rw [e3] at f3
  cases f3
  simp only [sC, and_true] at f4
  subst f4
  have hkb : b ≠ key := by
    intro e
    subst e
    rcases zeN hm with h | h <;> rw [hk] at h <;> cases h
  have hk1 : find (setB s.bxs b (.fmap K V l)) key = none := by rw [zav _ _ hkb]; exact hk
  let gi : Gb := ⟨false, true, some w.heap.size, 0, 0, 0, 0, none⟩
  have hgr : w.grownBy (w.alloc (.mapIter (some r) ck #[] ck)) none := World.grownBy_alloc w _ none
  have hlt := (Array.getElem?_eq_some_iff.1 e4).1
  obtain ⟨h1, h2, _⟩ := hs1.add (s := { s with bxs := setB s.bxs b (.fmap K V l) }) hk1 hgr (.iter K V l none) gi
    ⟨rfl, rfl, w.heap.size, r, es, ck, ck, #[], ck, rfl, heap_alloc_new w _, e5, ⟨e7.1, Nat.le_refl _, Nat.le_refl _, e7.2, fun _ h => nomatch h⟩, by rw [zjs]; exact e6, fun o => hs1.fz.noneAt (Nat.le_refl _) o⟩ (fun blk e1 _ => by cases e1; exact Nat.le_refl _)
  exact ⟨_, _, _, run_range_map w t kt et r es ck (hC.map t _ _ hu) e4, ⟨gi, w.heap.size, Gh.put_same _ _ _, rfl, rfl, (fun _ h => nomatch h), rfl⟩, h1, t1.trans h2⟩
theorem zin {α:Type}:∀ {l:List α} {j:Nat} (h:j < l.length),(l[j],l.eraseIdx j)∈picks l
 | x :: l,0,_=>by simp [picks]
 | x :: l,j + 1,h=>by
  have:=zin (l:=l) (j:=j) (by simpa using h)
  simp only [picks,List.mem_cons,List.mem_map]
  exact .inr ⟨_,this,rfl⟩
theorem EntR.at {fz:Nat→Nat→Option Value} {K V:Ty}:∀ {l:List (K.den × V.den)} {es:List MapEntry},EntR fz K V l es→∀ {j:Nat} (h:j < es.length) (h':j < l.length),TV fz K l[j].1 es[j].key∧TV fz V l[j].2 es[j].val∧EntR fz K V (l.eraseIdx j) (es.eraseIdx j)
 | x :: l,e :: es,⟨h1,h2,h3⟩,0,_,_=>⟨h1,h2,h3⟩
 | x :: l,e :: es,⟨h1,h2,h3⟩,j + 1,h,h'=>by
  obtain ⟨q1,q2,q3⟩:=h3.at (j:=j) (by simpa using h) (by simpa using h')
  exact ⟨q1,q2,h1,h2,q3⟩
theorem zkW (seen:Array Nat):∀ (es:List MapEntry),(es.map (·.born)).Nodup→∀ (j:Nat) (h:j < (es.filter fun e=>!seen.contains e.born).length),
  (es.filter fun e=>!(seen.push ((es.filter fun e=>!seen.contains e.born)[j]).born).contains e.born) = (es.filter fun e=>!seen.contains e.born).eraseIdx j:=by
 intro es hn j h
 generalize hL:(es.filter fun e=>!seen.contains e.born) = L at h ⊢
 have h1:∀ b0,(es.filter fun e=>!(seen.push b0).contains e.born) = L.filter fun e=>!(e.born == b0):=by
  intro b0
  rw [← hL,List.filter_filter]
  congr 1
  funext e
  rw [Array.contains_push]
  cases seen.contains e.born <;> simp
 rw [h1]
 have hnL:(L.map (·.born)).Nodup:=by
  rw [← hL]
  exact hn.sublist ((List.filter_sublist).map _)
 clear h1 hL hn
 induction L generalizing j with
 | nil=>simp at h
 | cons x L ih =>
  simp only [List.map_cons,List.nodup_cons] at hnL
  cases j with
  | zero =>
   simp only [List.getElem_cons_zero,List.eraseIdx_zero,List.tail_cons,List.filter_cons,beq_self_eq_true,Bool.not_true,sF,if_false]
   refine List.filter_eq_self.2 (fun y hy=>?_)
   have:y.born ≠ x.born:=fun e=>hnL.1 (by rw [← e]; exact List.mem_map.2 ⟨y,hy,rfl⟩)
   simpa using this
  | succ j =>
   have hj:j < L.length:=by simpa using h
   have hne:(x.born == L[j].born) = false:=by
    have:x.born ≠ L[j].born:=fun e=>hnL.1 (by rw [e]; exact List.mem_map.2 ⟨_,List.getElem_mem hj,rfl⟩)
    simpa using this
   simp only [List.getElem_cons_succ,List.eraseIdx_cons_succ,List.filter_cons,hne,Bool.not_false,if_true]
   rw [ih j hj hnL.2]
theorem zoC {g:Gh} {s:St} {tm:Array Value} {tms:List (Array Value)} {w:World} (hs:StR g s tm tms w) {b:Nat} {K V:Ty} {l:List (K.den × V.den)} (hi:iterAt s.bxs b = some ⟨K,V,l⟩) {a:Value} (ha:VR g (.ptr b 0 []) a) (ty:TypeId) :
  (l = []∧(Instr.next a false ty).run P w = .ok (.tuple #[.bool false]) w) ∨
  (l ≠ []∧∃ p∈picks l,∃ z w',(Instr.next a false ty).run P w = .ok z w'∧VR g (.tup [.val .bool true,K.av p.1.1,V.av p.1.2]) z∧StR g { s with bxs:=setB s.bxs b (.iter K V p.2 (some p.1)) } tm tms w'∧Tr g w g w'):=by
 obtain ⟨c,hb⟩:=zjd hi
 obtain ⟨gb,e1,q1,q2,r,m,es,ck,si,se,la,q3,q4,q5,⟨q6,q7,q7',q8,_⟩,q9,q10⟩:=hs.bxs.box b _ hb
 obtain ⟨gb',r',f1,f2,f3,_,f4⟩:=ha
 rw [e1] at f1
 cases f1
 rw [q3] at f3
 cases f3
 simp only [sC,and_true,zam,Nat.add_zero] at f4
 subst f4
 obtain ⟨es',ck',k1,k2⟩:=(hs.fz m 0 _ q5).2 rfl
 obtain ⟨rfl,rfl⟩:=zfA k1
 have hlen:(leftOf es se).toList.length = l.length:=q9.length
 rcases run_next_at (P:=P) w ty r m si la se es ck q4 k2 q6 q7 with ⟨h0,hr⟩ | ⟨e,he,w1,hw1,hr⟩
 ·refine .inl ⟨?_,hr⟩
  have:l.length = 0:=by rw [← hlen]; simpa using h0
  exact List.eq_nil_of_length_eq_zero this
 ·right
  obtain ⟨j,hj,hej⟩:=List.getElem_of_mem he
  have hjl:j < l.length:=by rw [← hlen]; exact hj
  obtain ⟨t1,t2,t3⟩:=q9.at hj hjl
  have hh1:w1.heap = w.heap:=by rcases hw1 with rfl | rfl <;> rfl
  refine ⟨fun e=>by rw [e] at hjl; simp at hjl,(l[j],l.eraseIdx j),zin hjl,_,_,hr,⟨_,rfl,⟨rfl,?_,?_,trivial⟩⟩,?_⟩
  ·rw [← hej]; exact t1.vr
  ·rw [← hej]; exact t2.vr
  ·have hlt:r < w.heap.size:=(Array.getElem?_eq_some_iff.1 q4).1
   have hset:∀ o',(ChangeMaps.setBlock w1 r o').heap = w.heap.setIfInBounds r o':=fun o'=>by
    show w1.heap.setIfInBounds r o' = _
    rw [hh1]
   refine hs.upd (w':=ChangeMaps.setBlock w1 r (.mapIter (some m) si (se.push e.born) ck)) e1 q3 q2 q10 ?_ ?_ ?_ ?_ ?_ (.iter K V (l.eraseIdx j) (some l[j])) ?_
   ·rcases hw1 with rfl | rfl <;> rfl
   ·rcases hw1 with rfl | rfl <;> rfl
   ·rcases hw1 with rfl | rfl <;> rfl
   ·rw [hset,Array.size_setIfInBounds]; exact Nat.le_refl _
   ·intro b hb _
    rw [hset]
    exact Array.getElem?_setIfInBounds_ne (Ne.symm hb)
   ·have hborn:es.toList.filter (fun e=>!se.contains e.born) = (leftOf es se).toList:=by simp [leftOf]
    have hmem:e∈es.toList:=(mem_left he).1
    refine ⟨q1,q2,r,m,es,ck,si,se.push e.born,ck,q3,?_,q5,⟨q6,q7',q7',q8,fun c hc=>?_⟩,?_,q10⟩
    ·rw [hset]
     exact zfQ (w:=w) hlt
    ·cases hc
     exact ⟨rfl,e,hmem,se,rfl,by rw [← hej]; exact t1,by rw [← hej]; exact t2⟩
    ·have hl:=zkW se es.toList q8 j (by rw [hborn]; exact hj)
     have e2:(leftOf es (se.push e.born)).toList = (leftOf es se).toList.eraseIdx j:=by
      have h3:(leftOf es (se.push e.born)).toList = es.toList.filter (fun x=>!(se.push e.born).contains x.born):=by simp [leftOf]
      have h4:(es.toList.filter fun e=>!se.contains e.born)[j]'(by rw [hborn]; exact hj) = e:=by rw [← hej]; exact List.getElem_of_eq hborn _
      rw [h4] at hl
      rw [h3,← hborn,← hl]
     rw [e2]
     exact t3
theorem znh {g:Gh} {s:St} {tm:Array Value} {tms:List (Array Value)} {w:World} (hs:StR g s tm tms w) {b:Nat} {K V:Ty} {c:K.den × V.den} (hi:curAt s.bxs b = some ⟨K,V,c⟩) {a:Value} (ha:VR g (.ptr b 0 []) a) :
  ∃ z,(Instr.entry a).run P w = .ok z w∧VR g (.tup [K.av c.1,V.av c.2]) z:=by
 obtain ⟨l,hb⟩:=zkR hi
 obtain ⟨gb,e1,q1,q2,r,m,es,ck,si,se,la,q3,q4,q5,⟨q6,q7,_,q8,q11⟩,q9,q10⟩:=hs.bxs.box b _ hb
 obtain ⟨gb',r',f1,f2,f3,_,f4⟩:=ha
 rw [e1] at f1
 cases f1
 rw [q3] at f3
 cases f3
 simp only [sC,and_true,zam,Nat.add_zero] at f4
 subst f4
 obtain ⟨es',ck',k1,k2⟩:=(hs.fz m 0 _ q5).2 rfl
 obtain ⟨rfl,rfl⟩:=zfA k1
 obtain ⟨rfl,e,he,sn,rfl,t1,t2⟩:=q11 c rfl
 refine ⟨.tuple #[e.key,e.val],run_entry_at (P:=P) w r m si sn es la e q4 k2 he q8,⟨_,rfl,t1.vr,t2.vr,trivial⟩⟩
end
end Go.V
