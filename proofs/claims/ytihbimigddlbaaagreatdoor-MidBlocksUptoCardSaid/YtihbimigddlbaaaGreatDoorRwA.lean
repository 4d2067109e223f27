/- A part of the proof: PmR1 PmR2 PmR3. -/
import Derived.Test.YtihbimigddlbaaaGreatDoorKtF
import Derived.Test.YtihbimigddlbaaaGreatDoorRows
import Derived.Test.YtihbimigddlbaaaGreatDoorPlE
import Derived.OpenShut
import Derived.LaidMore
import Derived.LaidSub
import Derived.Lay
import Derived.Stop.Joined
import Derived.MakeChecks
import Derived.Test.YtihbimigddlbaaaGreatDoorMbB
import Derived.Test.YtihbimigddlbaaaGreatDoorTie
import Derived.Test.YtihbimigddlbaaaGreatDoorCards
import Derived.SevenTiedAt
import Derived.LaidLaws
noncomputable section
set_option linter.all false
namespace Go.Proofs.YtihbimigddlbaaaGreatDoor
open Go Go.RowKit Go.Proofs.YtihbimigddlbaaaGreatDoor.Pl Go.Proofs.YtihbimigddlbaaaGreatDoor.Kx
set_option maxRecDepth 100000
section
def spaceZ:List Int:=List.replicate 9 0++List.replicate 5 1++List.replicate 18 0++[1]++List.replicate 223 0
theorem spaces_eq:Go.Proofs.YtihbimigddlbaaaGreatDoor.L.spaces=spaceZ.map fun z=>.v (.int .u8 z):=by kernel_rfl
theorem relU8 {m:Pm} {n:Nat}:∀ (zs:List Int),CV.relL m n (zs.map fun z=>.v (.int .u8 z)) (zs.map fun z=>.int .u8 z)
 | []=>by simp[CV.relL]
 | z::zs=>by
  simp only[List.map_cons,CV.relL,CV.rel]
  exact⟨_,_,rfl,⟨rfl,rfl⟩,relU8 zs⟩
theorem oneU8 (zs:List Int):OneAll (zs.map fun z=>.int .u8 z):=by
 intro u hu
 obtain⟨z,_,rfl⟩:=List.mem_map.1 hu
 rfl
theorem row0 {w:World} {n:String} {g:Nat} {cs:Array Value} {P:Program} (hg:P.globalNamed n=some g) (hv:w.var? P n=some cs) {c:Array Value} {t:TypeId} (hb:w.heap[g]?=some (.cells c t (0,0))):w.heap[g]?=some (.cells cs t (0,0)):=by
 simp only[World.var?,hg,Option.bind_some,hb] at hv
 injection hv with hv
 rw[hb,hv]
theorem arr_cells {P:Program} {w:World} {m:Nat} {e:TypeId} {cs:List Value} {xs:List (DataW Unit×List MemPlace)} (zs:List Int) (he:P.underlying e=some (.int .u8)) (hc:P.cellsOf e=1) (hlen:cs.length=zs.length) (hl:xs.length=zs.length)
  (e3:xs.map (·.1)=zs.map fun n=>.lit (.int .u8 n)) (hel:∀ i,i<zs.length→DataW.trod (fun _=>()) P w 0 (fun _=>true) false m e ((cs.drop (i*P.cellsOf e)).take (P.cellsOf e))=xs[i]?):cs=zs.map fun z=>.int .u8 z:=by
 refine List.ext_getElem? fun r=>?_
 rcases Nat.lt_or_ge r zs.length with hr | hr
 ·have hE:=hel r hr
  rw[hc,Nat.mul_one,List.getElem?_eq_getElem (by omega)] at hE
  obtain⟨z,e1,e2,_⟩:=DataW.trod_int he hE
  have e4:(xs.map (·.1))[r]?=(zs.map fun n=>(DataW.lit (.int .u8 n):DataW Unit))[r]?:=by rw[e3]
  rw[List.getElem?_map,List.getElem?_map,List.getElem?_eq_getElem (by omega:r<xs.length),List.getElem?_eq_getElem hr,e2] at e4
  have hz:z=zs[r]:=by simpa using e4
  have h0:((cs.drop r).take 1)[0]?=some (.int .u8 z):=by rw[e1];rfl
  rw[List.getElem?_map,List.getElem?_eq_getElem hr]
  simpa [hz] using h0
 ·rw[List.getElem?_eq_none (by omega),List.getElem?_eq_none (by rw[List.length_map];omega)]
theorem global0 {W:World} (h0:laidMetH Tryz.prog Rows.midBlocksUptoRow.laid W):GRel Go.Proofs.YtihbimigddlbaaaGreatDoor.L.Gs W:=by
 have h1 := h0.filter fun x => x.1 == "strings.asciiSpace"
 have e : (Rows.midBlocksUptoRow.laid.filter fun x => x.1 == "strings.asciiSpace") = [("strings.asciiSpace", Rows.laid_strings_asciiSpace)] := by kernel_rfl
 rw[e,MakeChecks.laidMetH_plain _ _ _ (by kernel_rfl)] at h1
 obtain⟨ps,⟨g,t,cs,fuel,p,q,hg,ht,hv,hd,_,rfl⟩,_,hcell⟩:=h1
 obtain rfl := Option.some.inj ((show Tryz.prog.globalNamed "strings.asciiSpace" = some 0 by kernel_rfl).symm.trans hg)
 obtain rfl:=Option.some.inj ((show (Tryz.prog.globals[0]?).map (·.type)=some 305 by kernel_rfl).symm.trans ht)
 have hdat:(Rows.laid_strings_asciiSpace:DataW Unit)=.agg (spaceZ.map fun n=>.lit (.int .u8 n)):=by kernel_rfl
 rw[hdat] at hd
 obtain⟨xs,m,_,ex,hlen,hl,hel⟩:=DataW.trod_array Tryz.underlying305 hd
 have c5:Tryz.prog.cellsOf 5=1:=by kernel_rfl
 have cT:Tryz.prog.cellsOf 305=256:=by kernel_rfl
 have e3:(xs.map (·.1))=spaceZ.map fun n=>.lit (.int .u8 n):=(DataW.agg.inj (Prod.mk.inj ex).1).symm
 have hzl:spaceZ.length=256:=by kernel_rfl
 have hcs:cs.toList=spaceZ.map fun z=>.int .u8 z:=arr_cells spaceZ Tryz.underlying5 c5 (by rw[hlen,cT,hzl]) (by rw[hl,hzl]) e3 (fun i hi=>hel i (by rw[←hzl];exact hi))
 have hsz:cs.size=256:=by rw[←Array.length_toList,hlen,cT]
 obtain⟨⟨c,t,hb⟩,_⟩:=hcell 0 0 (by
  simp only[List.mem_append]
  refine .inl (.inl ?_)
  rw[hsz]
  simp[MemPlace.row])
 have hb':=row0 hg hv hb
 have hG:∀ g cs',Go.Proofs.YtihbimigddlbaaaGreatDoor.L.Gs g=some cs'→g=0∧cs'=Go.Proofs.YtihbimigddlbaaaGreatDoor.L.spaces:=by
  intro g cs' h
  cases g with
  | zero=>exact⟨rfl,(Option.some.inj h).symm⟩
  | succ g=>cases h
 intro g cs' hg'
 obtain⟨rfl,rfl⟩:=hG g cs' hg'
 refine⟨spaceZ.map fun z=>.int .u8 z,t,?_,?_,oneU8 _⟩
 ·rw[←hcs,Array.toArray_toList];exact hb'
 ·rw[spaces_eq];exact relU8 _
theorem tab0 {W : World} (h : GRel Go.Proofs.YtihbimigddlbaaaGreatDoor.L.Gs W) : Lib.TabIs Tryz.prog W "strings.asciiSpace" .u8 Lib.asciiSpaceTab := by
 obtain⟨us,e,h1,h2,_⟩:=h 0 _ rfl
 have hg : Tryz.prog.globalNamed "strings.asciiSpace" = some 0 := by kernel_rfl
 have ht:Lib.asciiSpaceTab=spaceZ:=by kernel_rfl
 have hu:us=spaceZ.map fun z=>.int .u8 z:=by
  rw[spaces_eq] at h2
  have key:∀ (zs:List Int) (us:List Value),CV.relL ⟨id,id⟩ 0 (zs.map fun z=>.v (.int .u8 z)) us→us=zs.map fun z=>.int .u8 z:=by
   intro zs
   induction zs with
   | nil=>intro us h;simpa only[List.map_nil,CV.relL] using h
   | cons z zs ih =>
    intro us h
    simp only[List.map_cons,CV.relL,CV.rel] at h
    obtain⟨u,us',rfl,⟨rfl,_⟩,h3⟩:=h
    rw[ih us' h3];rfl
  exact key _ _ h2
 unfold Lib.TabIs World.var?
 rw[hg,ht]
 simp only[Option.bind_some,h1]
 rw[hu]
end
end Go.Proofs.YtihbimigddlbaaaGreatDoor
end
noncomputable section
set_option linter.all false
namespace Go.Proofs.YtihbimigddlbaaaGreatDoor.L
open Go Go.RowKit Go.Proofs.YtihbimigddlbaaaGreatDoor.Pl
set_option maxRecDepth 10000
section
theorem rows_leF:∀ {es:List (List TV)},(∀ r∈es,∃ g:Fm,Fit g∧TV.leL r g.cells∧4*g.cnt≤bkL r)→∃ ks:List Fm,(∀ g∈ks,Fit g)∧TV.leR es (rows ks)∧ks.length=es.length∧4*cntL ks≤Pl.bkR es
 | [],_=>⟨[],(fun g hg=>by cases hg),trivial,rfl,Nat.le_refl _⟩
 | r::es,h=>by
  obtain⟨g,h1,h2,h3⟩:=h r (by simp)
  obtain⟨ks,k1,k2,k3,k4⟩:=rows_leF (es:=es) (fun r hr=>h r (by simp[hr]))
  refine⟨g::ks,fun x hx=>?_,⟨h2,k2⟩,by simp[k3],by simp only[cntL,Pl.bkR];omega⟩
  rcases List.mem_cons.1 hx with rfl | hx
  ·exact h1
  ·exact k1 x hx
theorem fm_of:∀ (n:Nat) (xs:List TV),HasTy tab n 24 xs→∃ f:Fm,Fit f∧TV.leL xs f.cells∧4*f.cnt≤bkL xs
 | 0,_,h=>h.elim
 | 1,_,h=>by
  obtain⟨a,b,rfl,ha,_⟩:=h
  exact ha.elim
 | n+2,_,h=>by
  obtain⟨a,_,rfl,ha,b,_,rfl,hb,c,_,rfl,hc,d,_,rfl,hd,rfl⟩:=h
  obtain⟨k,rfl,_⟩:=ha
  obtain⟨m,rfl,_⟩:=hb
  obtain⟨t,rfl,ht,ht2⟩:=hc
  rcases hd with rfl | ⟨es,rfl,hl,hby,hr⟩
  ·exact⟨.mk k m t [],.mk (Nat.zero_le _) (by simp) ht2 (fun g hg=>by cases hg),⟨TV.le_refl _,TV.le_refl _,TV.le_refl _,TV.nil_le 4 (by decide),trivial⟩,by simp[Fm.cnt,cntL,bkL,TV.bk]⟩
  ·obtain⟨ks,k1,k2,k3,k4⟩:=rows_leF (es:=es) (fun r hr'=>fm_of n r (hr r hr'))
   exact⟨.mk k m t ks,.mk (by rw[k3];exact hl) (by rw[k3];exact hby) ht2 k1,⟨TV.le_refl _,TV.le_refl _,TV.le_refl _,TV.le_sl k2,trivial⟩,by
    simp only[Fm.cnt,List.cons_append,List.nil_append,bkL,TV.bk];omega⟩
theorem form_of {n:Nat} {x:TV} (h:ArgTy tab n 24 x):∃ f:Fm,Fit f∧TV.le x f.enc∧4*f.cnt≤x.bk:=by
 obtain⟨cs,rfl,h⟩:=(h:∃ cs,x=.agg cs∧HasTy tab n 24 cs)
 obtain⟨f,h1,h2,h3⟩:=fm_of n cs h
 exact⟨f,h1,TV.le_agg h2,by simpa only[TV.bk] using h3⟩
end
end Go.Proofs.YtihbimigddlbaaaGreatDoor.L
end
noncomputable section
set_option linter.all false
namespace Go.Proofs.YtihbimigddlbaaaGreatDoor
open Go Go.Proofs.YtihbimigddlbaaaGreatDoor.Pl Go.ChangeShapes Go.WideShapes Go.ChangeAt Go.RowKit
open Go.Proofs.YtihbimigddlbaaaGreatDoor.L
section
theorem bulk_sum {H:Type}:∀ l:List (DataW H),Rows.uptoBulkAll l=(l.map Rows.uptoBulk).sum
 | []=>rfl
 | d::l=>by simp only[Rows.uptoBulkAll,List.map_cons,List.sum_cons,bulk_sum l]
def msr (H:Type):Msr H where
 b:=Rows.uptoBulk
 one d:=by
  cases d with
  | lit l=>cases l <;> simp[Rows.uptoBulk]
  | nil=>simp[Rows.uptoBulk]
  | ptr d=>simp[Rows.uptoBulk]
  | slice elems spare=>simp[Rows.uptoBulk]
  | agg parts=>simp[Rows.uptoBulk]
  | iface t d=>simp[Rows.uptoBulk]
  | map entries=>simp[Rows.uptoBulk]
  | held h=>simp[Rows.uptoBulk]
 sl elems spare:=by
  simp only[Rows.uptoBulk,bulk_sum]
  omega
 ag parts:=by
  simp only[Rows.uptoBulk,bulk_sum]
  omega
theorem law_upto (xs:List TV) (h:ArgsTy tab [24] xs) (hb:bkL xs≤1048576):@PC (Kx.gmOf Gs) Tryz.prog 3 xs (.v (.bool true)):=by
 obtain⟨x,_,rfl,⟨n1,hx⟩,rfl⟩:=h
 obtain⟨f,f1,f2,f3⟩:=form_of hx
 simp only[bkL] at hb
 have hc:f.cnt≤1000000:=by omega
 have L:=@lf (Kx.gmOf Gs) (fun w hw=>tab0 hw)
 have hlaw:=@law_all (Kx.gmOf Gs) L sane_pc f f1 hc
 exact @PC.le (Kx.gmOf Gs) Tryz.prog 3 [x] [f.enc] (.v (.bool true)) (.v (.bool true)) ⟨f2,trivial⟩ (TV.le_refl _) hlaw
end
end Go.Proofs.YtihbimigddlbaaaGreatDoor
end
