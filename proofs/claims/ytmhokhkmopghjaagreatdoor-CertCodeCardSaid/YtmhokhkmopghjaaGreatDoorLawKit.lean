/- Part of the proof. -/
import Derived.LaidHandle
import Derived.Test.YtmhokhkmopghjaaGreatDoorCards
import Derived.Test.YtmhokhkmopghjaaGreatDoorTie
import Derived.Test.YtmhokhkmopghjaaGreatDoorA6
import Derived.Test.YtmhokhkmopghjaaGreatDoorA7
set_option linter.all false
set_option linter.unusedVariables false
set_option linter.unusedSectionVars false
set_option linter.unusedSimpArgs false
namespace Go.Proofs.YtmhokhkmopghjaaGreatDoor
open Go Go.V Go.ChangeShapes
def zn7 {H:Type}:DataW H→Int
 | .lit (.int _ n)=>n
 | _=>0
def zfc {H:Type}:DataW H→List Int
 | .agg l=>l.map zn7
 | _=>[]
theorem zk8:zfc (Rows.laid_clearway_digest_round:DataW Unit) = zbn:=by kernel_rfl
theorem zmJ {H:Type} {enc:TypeId × Value→H} {P:Program} {w:World} {sp:Nat→Bool} {held:Bool} {t e:TypeId} {n fuel:Nat} {k:IntKind} {cs:List Value} {x:DataW H × List MemPlace}
  (ht:P.underlying t = some (.array n e)) (he:P.underlying e = some (.int k)) (h1:P.cellsOf e = 1) (ht1:P.cellsOf t = n) (h:DataW.trod enc P w 0 sp held fuel t cs = some x) :
  cs = (zfc x.1).map (Value.int k)∧(zfc x.1).length = n:=by
 obtain ⟨xs,m,_,rfl,hl,hxs,hi⟩:=DataW.trod_array ht h
 rw [h1] at hi
 have hlen:cs.length = n:=by rw [hl,ht1]
 have key:∀ i,i < n→cs[i]? = ((xs.map (·.1)).map (fun d=>Value.int k (zn7 d)))[i]?:=by
  intro i hn
  have:=hi i hn
  rw [Nat.mul_one,List.getElem?_eq_getElem (by omega)] at this
  have hc:(cs.drop i).take 1 = [cs[i]'(by omega)]:=by
   rw [List.drop_eq_getElem_cons (by omega)]
   rfl
  rw [hc] at this
  obtain ⟨v,e1,e2,_⟩:=DataW.trod_int he this
  simp only [List.cons.injEq,and_true] at e1
  rw [List.getElem?_map,List.getElem?_map,List.getElem?_eq_getElem (by omega),List.getElem?_eq_getElem (by omega),Option.map_some,Option.map_some,e2,e1]
  rfl
 refine ⟨?_,by simp [zfc,hxs]⟩
 apply List.ext_getElem?
 intro i
 by_cases hi:i < n
 ·rw [key i hi]
  simp only [zfc,List.getElem?_map,Option.map_map]
  rfl
 ·rw [List.getElem?_eq_none (by omega),List.getElem?_eq_none (by simp [zfc,hxs]; omega)]
theorem zge {fz:Nat→Nat→Option Value} {k:IntKind}:∀ (l:List Int),Elems (CR fz (.int k)) l (l.map (Value.int k))
 | []=>rfl
 | x :: l=>⟨[.int k x],l.map (Value.int k),rfl,rfl,zge l⟩
abbrev zdb : List (String × DataW Unit) := [("math/bits.deBruijn32tab", Rows.laid_math_bits_deBruijn32tab), ("clearway/digest.round", Rows.laid_clearway_digest_round), ("clearway/dist.checks", Rows.laid_clearway_dist_checks)]
theorem zmK {W : World} (h : laidMetH Tryz.prog zdb W) : laidMet Tryz.prog [("math/bits.deBruijn32tab", Rows.laid_math_bits_deBruijn32tab), ("clearway/digest.round", Rows.laid_clearway_digest_round)] W := by
 have e : (zdb.filter fun x => x.2.handleName?.isSome) = [("clearway/dist.checks", Rows.laid_clearway_dist_checks)] := rfl
 unfold laidMetH at h
 rw [e] at h
 exact h.1
theorem ziR {W:World} (h:laidMetH Tryz.prog zdb W):zay cfg (allFz W):=by
 obtain ⟨ps,⟨_,_,_,_,_,_,_,_,_,_,⟨g,t,cs,fuel,p,q,e1,e2,e3,e4,_,_⟩,_⟩,_,_⟩:=zmK h
 have hg : (Tryz.prog.globalNamed "clearway/digest.round") = some 0 := by kernel_rfl
 rw [hg] at e1
 obtain rfl:=Option.some.inj e1
 have ht:(Tryz.prog.globals[0]?).map (·.type) = some 209:=by kernel_rfl
 rw [ht] at e2
 obtain rfl:=Option.some.inj e2
 obtain ⟨k1,k2⟩:=zmJ (show Tryz.prog.underlying 209 = some (.array 64 180) by kernel_rfl) (show Tryz.prog.underlying 180 = some (.int .u32) by kernel_rfl) (by kernel_rfl) (by kernel_rfl) e4
 have hl:zfc (Rows.laid_clearway_digest_round:DataW Unit) = zbn:=zk8
 simp only at k1 k2
 rw [hl] at k1 k2
 intro n v hv
 have hv':(bif Nat.beq n 0 then some (AV.eptr [.val (.arr 64 (.int .u32)) zbn]) else none) = some v:=hv
 cases hn:Nat.beq n 0 with
 | false=>rw [hn] at hv'; cases hv'
 | true =>
  rw [hn] at hv'
  simp only [cond_true,Option.some.injEq] at hv'
  subst hv'
  have:=Nat.eq_of_beq_eq_true hn
  subst this
  refine ⟨_,zbn.map (Value.int .u32),rfl,⟨zbn.map (Value.int .u32),[],by simp,⟨k2,zge _⟩,rfl⟩,?_⟩
  intro j v e
  refine zkw (b:=0) (o:=0 + j) ?_ ?_
  ·rw [Nat.zero_add,World.var?_cell hg e3 j,← Array.getElem?_toList,k1]
   exact e
  ·rw [List.getElem?_map,Option.map_eq_some_iff] at e
   obtain ⟨n,_,rfl⟩:=e
   rfl
theorem zgf {H:Type} {enc:TypeId × Value→H} {P:Program} {w:World} {base:Nat} {sp:Nat→Bool} {held:Bool}:∀ {ts:List TypeId} {vs:List Value} {ds:List (DataW H)} {p:List MemPlace},DataW.TrodAll enc P w base sp held ts vs ds p→ds.length = ts.length
 | [],[],[],_,_=>rfl
 | _ :: _,_ :: _,_ :: _,_,⟨_,_,_,h,_⟩=>by simp [zgf h]
 | [],[],_ :: _,_,h=>h.elim
 | [],_ :: _,_,_,h=>h.elim
 | _ :: _,[],_,_,h=>h.elim
 | _ :: _,_ :: _,[],_,h=>h.elim
theorem zoP:ownKnob Tryz.prog.godebug = none:=by kernel_rfl
theorem zjK:laidOutB Tryz.prog = true:=by kernel_rfl
theorem zk9:∀ t e,t < Tryz.prog.types.size→Tryz.prog.underlying t = some (.slice e)→0 < Tryz.prog.cellsOf e:=slices_full_of Tryz.prog (by kernel_rfl)
theorem znG:mapsRowed Tryz.prog = true:=by kernel_rfl
noncomputable def laidWorld (os : Os) : World :=
  let w0 := World.holding Tryz.prog os ⟨#[], #[], []⟩
  let put (cs : Array Value) : Obj → Obj := fun
      | .cells _ t frozen => .cells cs t frozen
      | o => o
  let h1 := w0.heap.modify 0 (put (zbn.map (Value.int .u32)).toArray)
  let h2 := h1.modify 1 (put #[Value.func (.func 398) #[] #[], Value.func (.func 399) #[] #[], Value.func (.func 396) #[] #[]])
  let h3 := h2.modify 2 (put ((zfc (Rows.laid_math_bits_deBruijn32tab : DataW Unit)).map (Value.int .u8)).toArray)
  { w0 with heap := h3 }
theorem laidWorld_met (os:Os) (args:Array Value):laidMetH Tryz.prog zdb ((laidWorld os).forCall (fun _ _=>0) ⟨#[],args,[]⟩).memory :=
 laidMetH_of_parts3 (fuel:=8) (laidMet_of_run' 8 (by kernel_rfl) (by kernel_rfl)) (by kernel_rfl) (by kernel_rfl)
theorem zmL:Tryz.pinned.checked.prog.stopsHeard = true:=by kernel_rfl
theorem zmM:Tryz.pinned.checked.prog.mayEnter = true:=by kernel_rfl
theorem zmN:true = Tryz.pinned.checked.prog.looks []:=by kernel_rfl
theorem znH : Tryz.pinned.checked.prog.mainIs = some (true, "cfd3de34610688c6b600382d0d802b4dec0ca0e40314077a14cfcd15914af5f4".toList) := by kernel_rfl
end Go.Proofs.YtmhokhkmopghjaaGreatDoor
