/- A part of the proof: PlW6 PlW7 PlW8 PlW9 PlW10 PlW11 PlW12 PlW13 PlW14 PlW15. -/
import Derived.Test.YtaenfjplagiioaaGreatDoorUnE
import Derived.Test.YtaenfjplagiioaaGreatDoorUnD
noncomputable section
set_option linter.all false
namespace Go.Proofs.YtaenfjplagiioaaGreatDoor.L
open Go Go.RowKit Go.Proofs.YtaenfjplagiioaaGreatDoor.Pl
variable [Gm]
set_option maxRecDepth 10000
section
def rS (wo:Int) (Q:List Nat) (k:Nat):List Nat:=if (((k:Int) != wo)&&!Q.contains k)=true then Q++[k] else Q
def rO (g:Gr) (wo:Int):Nat→Nat→List Nat→List Nat
 | 0,_,Q=>Q
 | f+1,i,Q=>if i<Q.length then rO g wo f (i+1) ((g.getD (Q.getD i 0) []).foldl (rS wo) Q) else Q
def rRch (g:Gr) (fr:Nat) (wo:Int):List Nat:=if (((fr:Int)==wo)||decide ((fr:Int)≥(g.length:Int)))=true then [] else rO g wo (g.length+1) 0 [fr]
def rRL (g:Gr) (fr:Nat) (wo:Int):List Bool:=toL g (rRch g fr wo)
omit [Gm] in
theorem rS_pre (wo:Int) (Q:List Nat) (k:Nat):Q <+: rS wo Q k:=by
 unfold rS;split
 ·exact List.prefix_append _ _
 ·exact List.prefix_refl _
omit [Gm] in
theorem rSs_pre (wo:Int):∀ (l Q:List Nat),Q <+: l.foldl (rS wo) Q
 | [],Q=>List.prefix_refl _
 | k::l,Q=>(rS_pre wo Q k).trans (rSs_pre wo l _)
omit [Gm] in
theorem rS_ok {g:Gr} {wo:Int} {Q:List Nat} {k:Nat} (hk:k<g.length) (hn:Q.Nodup) (hl:∀ q∈Q,q<g.length):(rS wo Q k).Nodup∧∀ q∈rS wo Q k,q<g.length:=by
 unfold rS
 split
 ·rename_i h
  rw[Bool.and_eq_true] at h
  have hc:k∉Q:=by have:=h.2;simpa using this
  refine⟨?_,fun q hq=>?_⟩
  ·rw[List.nodup_append]
   exact⟨hn,by simp,fun a ha b hb=>by simp at hb;subst hb;exact fun e=>hc (e ▸ ha)⟩
  ·rcases List.mem_append.1 hq with hq | hq
   ·exact hl q hq
   ·simp at hq;omega
 ·exact⟨hn,hl⟩
omit [Gm] in
theorem rSs_ok {g:Gr} {wo:Int}:∀ (l Q:List Nat),(∀ k∈l,k<g.length)→Q.Nodup→(∀ q∈Q,q<g.length)→(l.foldl (rS wo) Q).Nodup∧∀ q∈l.foldl (rS wo) Q,q<g.length
 | [],Q,_,hn,hl=>⟨hn,hl⟩
 | k::l,Q,hk,hn,hl =>
  have h1:=rS_ok (wo:=wo) (hk k (List.mem_cons_self ..)) hn hl
  rSs_ok l _ (fun k h=>hk k (List.mem_cons_of_mem _ h)) h1.1 h1.2
def rchSt (g:Gr) (wo:Int) (i:Nat) (Q:List Nat):St :=
 ⟨[(9,vi i),(8,.sl 29),(7,.sl 14),(2,.t (tI wo)),(0,.t (encG g))],[(14,.row 4 1 ((toL g Q).map cB)),(29,.row 3 1 (Q.map cI))]⟩
def rchSt2 (g:Gr) (wo:Int) (i j:Nat) (Q:List Nat):St:=⟨(10,vi j)::(rchSt g wo i Q).φ,(rchSt g wo i Q).σ⟩
theorem rrch_ent:Ent Tryz.prog 19:=fun a w=>Tryz.call19 a w
theorem rrch_spec (g:Gr) (hg:GrOK g) (fr:Nat) (wo:Int):PC Tryz.prog 19 [encG g,tI fr,tI wo] (encB (rRL g fr wo)):=by
 have hgl:((g.map fun l=>[encN l]).length:Int)=(g.length:Int):=by simp
 have h1:(((fr:Int)==wo)||decide ((fr:Int)≥((g.map fun l=>[encN l]).length:Int)))=true→rRch g fr wo=[]:=fun h=>by
  rw[hgl] at h;unfold rRch;rw[if_pos h]
 have h2:(((fr:Int)==wo)||decide ((fr:Int)≥((g.map fun l=>[encN l]).length:Int)))=false→rRch g fr wo=rO g wo (g.length+1) 0 [fr]∧fr<g.length:=fun h=>by
  rw[hgl] at h
  refine⟨by unfold rRch;rw[if_neg (by rw[h];simp)],?_⟩
  rw[Bool.or_eq_false_iff] at h
  have:=of_decide_eq_false h.2
  omega
 have hT:encB (rRL g fr wo)=encB (toL g (rRch g fr wo)):=rfl
 rw[hT]
 generalize rRch g fr wo=RR at h1 h2
 refine PC.of_ok tok Tryz.func19 rfl (Nat.le_of_ble_eq_true rfl) (ev_sound ctx (own:=[14,29]) _ _ _ ?_)
 have hsm:=hg.sm
 have hrp:∀ n:Nat,(n:Int)=(g.length:Int)→List.replicate ((n:Nat):Int).toNat [tB false]=(toL g []).map cB:=fun n h=>by
  have:n=g.length:=by omega
  subst this
  rw[Int.toNat_natCast,toL_nil];simp[cB]
 refine⟨Int.natCast_nonneg _,Int.le_refl _,by rw[hgl];omega,by rw[hgl,Int.toNat_natCast];show g.length*1≤_;omega,?_⟩
 refine⟨fun h=>?_,fun h=>?_⟩
 ·have e:=h1 h
  subst e
  refine toEq ?_
  show TV.sl 1 (List.replicate ((List.length (g.map fun l=>[encN l]):Nat):Int).toNat [tB false])=_
  rw[hrp _ hgl];rfl
 obtain⟨hRR,hfr⟩:=h2 h
 have hset0:((List.replicate ((List.length (g.map fun l=>[encN l]):Nat):Int).toNat [tB false]).set ((fr:Nat):Int).toNat [tB true])=(toL g [fr]).map cB:=by
  rw[hrp _ hgl,Int.toNat_natCast]
  have:=toL_set (ks:=[]) hfr
  rw[List.nil_append] at this
  rw[←this,List.map_set];rfl
 have hbnd0:(0:Int)≤(fr:Int)∧(fr:Int)<((List.replicate ((List.length (g.map fun l=>[encN l]):Nat):Int).toNat [tB false]).length:Int):=⟨Int.natCast_nonneg _,by rw[hrp _ hgl,List.length_map,toL_len];omega⟩
 have hget0:(List.replicate ((List.length (g.map fun l=>[encN l]):Nat):Int).toNat [tB false])[((fr:Nat):Int).toNat]?=some [tB false]:=by
  rw[hrp _ hgl,toL_getC hfr];rfl
 refine⟨hbnd0,?_⟩
 refine⟨_,hget0,?_⟩
 refine Ok.loop (st:=fun x:Nat×List Nat=>rchSt g wo x.1 x.2)
  (R:=fun x=>x.2.Nodup∧(∀ q∈x.2,q<g.length)∧x.1≤x.2.length∧∃ f,g.length-x.1<f∧RR=rO g wo f x.1 x.2) (μ:=fun x=>g.length-x.1) (0,[fr])
  (Wk.sub ⟨rfl,rfl,rfl,rfl,rfl,trivial⟩ ⟨congrArg (fun x=>some (AO.row 4 1 x)) hset0,rfl,trivial⟩) ⟨by simp,fun q hq=>by simp at hq;omega,Nat.zero_le _,g.length+1,by omega,hRR⟩ ?_
 rintro⟨i,Q⟩ ⟨hn,hl,hi,f,hf,hR⟩
 have hn:Q.Nodup:=hn
 have hl:∀ q∈Q,q<g.length:=hl
 have hi:i≤Q.length:=hi
 have hf:g.length-i<f:=hf
 have hR:RR=rO g wo f i Q:=hR
 have hQl:=nodup_len hn hl
 refine ev_sound ctx (own:=[14,29]) _ _ _ ?_
 have hml:((Q.map cI).length:Int)=(Q.length:Int):=by rw[List.length_map]
 refine⟨fun h=>?_,fun h=>?_⟩
 rotate_left
 ·have hge:Q.length≤i:=geOf (by rw[←hml];exact h)
  have e:RR=Q:=by
   rw[hR]
   cases f with
   | zero=>rfl
   | succ f=>show (if i<Q.length then _ else Q)=Q;rw[if_neg (by omega)]
  exact toEq (by rw[e];rfl)
 have hlt:i<Q.length:=ltOf (by rw[←hml];exact h)
 obtain⟨f',rfl⟩:∃ f',f=f'+1:=⟨f-1,by omega⟩
 have hqi:Q.getD i 0=Q[i]:=by simp[List.getD,List.getElem?_eq_getElem hlt]
 have hqlt:=hl _ (List.getElem_mem hlt)
 have hR:RR=rO g wo f' (i+1) ((g.getD (Q.getD i 0) []).foldl (rS wo) Q):=by
  rw[hR];show (if i<Q.length then _ else Q)=_;rw[if_pos hlt]
 have hQi:∀ Q':List Nat,Q <+: Q'→(0:Int)≤(i:Int)∧(i:Int)<((Q'.map cI).length:Int):=fun Q' hp=>⟨Int.natCast_nonneg i,by rw[List.length_map];have:=hp.length_le;omega⟩
 have hQg:∀ Q':List Nat,Q <+: Q'→(Q'.map cI)[((i:Nat):Int).toNat]?=some (cI Q[i]):=fun Q' hp=>by
  obtain⟨r,rfl⟩:=hp
  rw[Int.toNat_natCast,List.getElem?_map,List.getElem?_append_left hlt,List.getElem?_eq_getElem hlt];rfl
 rw[hqi] at hR
 generalize Q[i]=q at hqlt hR hQg
 have hgetG:(0:Int)≤(q:Int)∧(g.map fun l=>[encN l])[((q:Nat):Int).toNat]?=some [encN g[q]]:=⟨Int.natCast_nonneg q,by simp[List.getElem?_eq_getElem hqlt]⟩
 have hgq:g.getD q []=g[q]:=by simp[List.getD,List.getElem?_eq_getElem hqlt]
 have hlen:=hg.lenl _ (List.getElem_mem hqlt)
 have hltl:=hg.lt _ (List.getElem_mem hqlt)
 rw[hgq] at hR
 generalize g[q]=l at hgetG hlen hltl hR
 refine Ok.loop (st:=fun x:Nat×List Nat=>rchSt2 g wo i x.1 x.2) (R:=fun x=>x.1≤l.length∧x.2=(l.take x.1).foldl (rS wo) Q) (μ:=fun x=>l.length-x.1) (0,Q)
  (Wk.sub ⟨rfl,rfl,rfl,rfl,rfl,rfl,trivial⟩ ⟨rfl,rfl,trivial⟩) ⟨Nat.zero_le _,rfl⟩ ?_
 rintro⟨j,Q'⟩ ⟨hj,hQ'⟩
 have hj:j≤l.length:=hj
 have hQ':Q'=(l.take j).foldl (rS wo) Q:=hQ'
 have hpre:Q <+: Q':=by rw[hQ'];exact rSs_pre wo _ _
 have hok:=rSs_ok (g:=g) (wo:=wo) (l.take j) Q (fun k hk=>hltl k (List.mem_of_mem_take hk)) hn hl
 rw[←hQ'] at hok
 have hQl':=nodup_len hok.1 hok.2
 refine ev_sound ctx (own:=[14,29]) _ _ _ ?_
 have hml2:((l.map cI).length:Int)=(l.length:Int):=by rw[List.length_map]
 refine⟨hQi Q' hpre,cI q,hQg Q' hpre,?_⟩
 refine⟨_,hgetG,?_⟩
 refine⟨fun h=>?_,fun h=>?_⟩
 rotate_left
 ·have hge:l.length≤j:=geOf (by rw[←hml2];exact h)
  rw[List.take_of_length_le hge] at hQ'
  rw[←hQ'] at hR
  have hii:i+1≤Q'.length:=by have:=hpre.length_le;omega
  have hwi:IntKind.i64.wrap ((i:Int)+1)=((i+1:Nat):Int):=wr1 (n:=g.length) (by omega) hg.len
  exact⟨trivial,(i+1,Q'),Wk.sub ⟨slotI hwi,rfl,rfl,rfl,rfl,trivial⟩ ⟨rfl,rfl,trivial⟩,⟨hok.1,hok.2,hii,f',by omega,hR⟩,by show g.length-(i+1)<g.length-i;omega⟩
 have hltj:j<l.length:=ltOf (by rw[←hml2];exact h)
 have hgetL:(0:Int)≤(j:Int)∧(l.map cI)[((j:Nat):Int).toNat]?=some (cI l[j]):=getM hltj
 have hk:=hltl _ (List.getElem_mem hltj)
 have hnx:rS wo Q' l[j]=(l.take (j+1)).foldl (rS wo) Q:=by
  rw[List.take_add_one,List.getElem?_eq_getElem hltj,hQ',List.foldl_append];rfl
 generalize l[j]=k at hgetL hk hnx
 have hbk:(0:Int)≤(k:Int)∧(k:Int)<(((toL g Q').map cB).length:Int):=⟨Int.natCast_nonneg k,by rw[List.length_map,toL_len];omega⟩
 have hgk:((toL g Q').map cB)[((k:Nat):Int).toNat]?=some (cB (Q'.contains k)):=toL_getC hk
 have hrs:rS wo Q' k=if (((k:Int) != wo)&&!Q'.contains k)=true then Q'++[k] else Q':=rfl
 refine⟨hQi Q' hpre,cI q,hQg Q' hpre,?_⟩
 refine⟨_,hgetG,?_⟩
 refine⟨_,hgetL,?_⟩
 refine⟨fun _=>hbk,cB (Q'.contains k),hgk,?_⟩
 refine⟨fun h=>?_,fun h=>?_⟩
 ·have h:(((k:Int) != wo)&&!Q'.contains k)=true:=h
  rw[if_pos h] at hrs
  rw[hrs] at hnx
  have hok2:=rS_ok (wo:=wo) hk hok.1 hok.2
  rw[hrs] at hok2
  have hql:=nodup_len hok2.1 hok2.2
  rw[List.length_append,List.length_singleton] at hql
  have hset:(((toL g Q').map cB).set ((k:Nat):Int).toNat ((cB (Q'.contains k)).take 0++[tB true]++(cB (Q'.contains k)).drop (0+1)))=(toL g (Q'++[k])).map cB:=by
   rw[←toL_set hk,List.map_set];rfl
  have hrow:some (AO.row 3 1 (Q'.map cI++[[tI k]]))=some (AO.row 3 1 ((Q'++[k]).map cI)):=by rw[List.map_append];rfl
  refine⟨hbk,?_⟩
  refine⟨cB (Q'.contains k),hgk,?_⟩
  exact⟨by show ((Q'.map cI).length+1)*8≤_;rw[List.length_map];omega,by show (Q'.map cI).length+1≤maxLen;rw[List.length_map];simp only[maxLen];omega,trivial,(j+1,Q'++[k]),Wk.sub ⟨slotI (wr1 hltj hlen),rfl,rfl,rfl,rfl,rfl,trivial⟩ ⟨congrArg (fun x=>some (AO.row 4 1 x)) hset,hrow,trivial⟩,⟨hltj,hnx⟩,dec hltj⟩
 ·have h:(((k:Int) != wo)&&!Q'.contains k)=false:=h
  rw[if_neg (by rw[h];simp)] at hrs
  rw[hrs] at hnx
  exact⟨trivial,(j+1,Q'),Wk.sub ⟨slotI (wr1 hltj hlen),rfl,rfl,rfl,rfl,rfl,trivial⟩ ⟨rfl,rfl,trivial⟩,⟨hltj,hnx⟩,dec hltj⟩
end
section
def hS (g:Gr) (i:Nat) (H:List Bool) (k:Nat):List Bool:=if (((i:Int)==(k:Int))||!(rRL g 0 k).getD i false)=true then H.set k true else H
def hRow (g:Gr) (H:List Bool) (i:Nat):List Bool:=if (rRL g 0 (-1)).getD i false=true then (g.getD i []).foldl (hS g i) H else H
def rheads (g:Gr):List Bool:=(List.range g.length).foldl (hRow g) (List.replicate g.length false)
omit [Gm] in
theorem rRL_len (g:Gr) (fr:Nat) (wo:Int):(rRL g fr wo).length=g.length:=toL_len g _
omit [Gm] in
theorem hS_len (g:Gr) (i:Nat) (H:List Bool) (k:Nat):(hS g i H k).length=H.length:=by unfold hS;split <;> simp
omit [Gm] in
theorem hSs_len (g:Gr) (i:Nat):∀ (l:List Nat) (H:List Bool),(l.foldl (hS g i) H).length=H.length
 | [],H=>rfl
 | k::l,H=>by rw[List.foldl_cons,hSs_len g i l,hS_len]
omit [Gm] in
theorem hRow_len (g:Gr) (H:List Bool) (i:Nat):(hRow g H i).length=H.length:=by unfold hRow;split;exact hSs_len g i _ H;rfl
omit [Gm] in
theorem hRows_len (g:Gr):∀ (l:List Nat) (H:List Bool),(l.foldl (hRow g) H).length=H.length
 | [],H=>rfl
 | k::l,H=>by rw[List.foldl_cons,hRows_len g l,hRow_len]
def rhSt (g:Gr) (i:Nat) (H:List Bool):St :=
 ⟨[(5,vi i),(4,.t (encB (rRL g 0 (-1)))),(3,.sl 10),(0,.t (encG g))],[(10,.row 4 1 (H.map cB))]⟩
def rhSt2 (g:Gr) (i j:Nat) (H:List Bool):St:=⟨(6,vi j)::(rhSt g i H).φ,(rhSt g i H).σ⟩
theorem rheads_ent:Ent Tryz.prog 18:=fun a w=>Tryz.call18 a w
theorem rheads_spec (g:Gr) (hg:GrOK g):PC Tryz.prog 18 [encG g] (encB (rheads g)):=by
 have hgl:((g.map fun l=>[encN l]).length:Int)=(g.length:Int):=by simp
 have hsm:=hg.sm
 have hrch:=rrch_spec g hg 0 (-1)
 refine PC.of_ok tok Tryz.func18 rfl (Nat.le_of_ble_eq_true rfl) (ev_sound ctx (own:=[10]) _ _ _ ?_)
 refine⟨Int.natCast_nonneg _,Int.le_refl _,by rw[hgl];omega,by rw[hgl,Int.toNat_natCast];show g.length*1≤_;omega,?_⟩
 refine⟨rrch_ent,.inl ⟨_,hrch,?_⟩⟩
 have hini:List.replicate ((List.length (g.map fun l=>[encN l]):Nat):Int).toNat [tB false]=(List.replicate g.length false).map cB:=by
  rw[Int.toNat_natCast,List.length_map];simp[cB]
 refine Ok.loop (st:=fun x:Nat×List Bool=>rhSt g x.1 x.2) (R:=fun x=>x.1≤g.length∧x.2=(List.range x.1).foldl (hRow g) (List.replicate g.length false)) (μ:=fun x=>g.length-x.1) (0,List.replicate g.length false)
  (Wk.sub ⟨rfl,rfl,rfl,rfl,trivial⟩ ⟨congrArg (fun x=>some (AO.row 4 1 x)) hini,trivial⟩) ⟨Nat.zero_le _,rfl⟩ ?_
 rintro⟨i,H⟩ ⟨hi,hH⟩
 have hi:i≤g.length:=hi
 have hH:H=(List.range i).foldl (hRow g) (List.replicate g.length false):=hH
 have hHl:H.length=g.length:=by rw[hH,hRows_len,List.length_replicate]
 refine ev_sound ctx (own:=[10]) _ _ _ ?_
 refine⟨fun h=>?_,fun h=>?_⟩
 rotate_left
 ·have hge:g.length≤i:=geOf (by rw[←hgl];exact h)
  have:i=g.length:=Nat.le_antisymm hi hge
  subst this
  exact toEq (by rw[hH];rfl)
 have hlt:i<g.length:=ltOf (by rw[←hgl];exact h)
 have hgetG:(0:Int)≤(i:Int)∧(g.map fun l=>[encN l])[((i:Nat):Int).toNat]?=some [encN g[i]]:=⟨Int.natCast_nonneg i,by simp[List.getElem?_eq_getElem hlt]⟩
 have hgi:g.getD i []=g[i]:=by simp[List.getD,List.getElem?_eq_getElem hlt]
 have hlen:=hg.lenl _ (List.getElem_mem hlt)
 have hltl:=hg.lt _ (List.getElem_mem hlt)
 have hrow:hRow g H i=if (rRL g 0 (-1)).getD i false=true then (g.getD i []).foldl (hS g i) H else H:=rfl
 have hnxH:hRow g H i=(List.range (i+1)).foldl (hRow g) (List.replicate g.length false):=by rw[foldRange,hH]
 rw[hgi] at hrow
 generalize g[i]=l at hgetG hlen hltl hrow
 have hL0:i<(rRL g 0 (-1)).length:=by rw[rRL_len];exact hlt
 have hgB0:=getB hL0
 refine Ok.loop (st:=fun x:Nat×List Bool=>rhSt2 g i x.1 x.2) (R:=fun x=>x.1≤l.length∧(x.1=0∨(rRL g 0 (-1)).getD i false=true)∧x.2=(l.take x.1).foldl (hS g i) H) (μ:=fun x=>l.length-x.1) (0,H)
  (Wk.sub ⟨rfl,rfl,rfl,rfl,rfl,trivial⟩ ⟨rfl,trivial⟩) ⟨Nat.zero_le _,.inl rfl,rfl⟩ ?_
 rintro⟨j,H'⟩ ⟨hj,hj0,hH'⟩
 have hj:j≤l.length:=hj
 have hj0:j=0∨(rRL g 0 (-1)).getD i false=true:=hj0
 have hH':H'=(l.take j).foldl (hS g i) H:=hH'
 have hHl':H'.length=g.length:=by rw[hH',hSs_len,hHl]
 have hml2:((l.map cI).length:Int)=(l.length:Int):=by rw[List.length_map]
 generalize (rRL g 0 (-1)).getD i false=z at hgB0 hrow hj0
 refine ev_sound ctx (own:=[10]) _ _ _ ?_
 refine⟨_,hgetG,?_⟩
 refine⟨_,fun _=>hgB0,?_⟩
 refine⟨fun h=>?_,fun h=>?_⟩
 rotate_left
 ·have h:(decide ((j:Int)<((l.map cI).length:Int))&&z)=false:=h
  have hend:H'=hRow g H i:=by
   rw[hrow]
   cases z with
   | false =>
    have:j=0:=by simpa using hj0
    subst this
    rw[if_neg (by simp)];exact hH'
   | true =>
    rw[Bool.and_true] at h
    have hge:l.length≤j:=geOf (by rw[←hml2];exact h)
    rw[List.take_of_length_le hge] at hH'
    rw[if_pos rfl];exact hH'
  exact⟨trivial,(i+1,H'),Wk.sub ⟨slotI (wr1 hlt hg.len),rfl,rfl,rfl,trivial⟩ ⟨rfl,trivial⟩,⟨hlt,by rw[hend];exact hnxH⟩,by show g.length-(i+1)<g.length-i;omega⟩
 have h:(decide ((j:Int)<((l.map cI).length:Int))&&z)=true:=h
 have hz:z=true:=by rw[Bool.and_eq_true] at h;exact h.2
 have hltj:j<l.length:=ltOf (by rw[←hml2];exact and1 h)
 have hgetL:(0:Int)≤(j:Int)∧(l.map cI)[((j:Nat):Int).toNat]?=some (cI l[j]):=getM hltj
 have hk:=hltl _ (List.getElem_mem hltj)
 have hnx:hS g i H' l[j]=(l.take (j+1)).foldl (hS g i) H:=by
  rw[List.take_add_one,List.getElem?_eq_getElem hltj,hH',List.foldl_append];rfl
 generalize l[j]=k at hgetL hk hnx
 have hrk:=rrch_spec g hg 0 k
 have hLk:i<(rRL g 0 k).length:=by rw[rRL_len];exact hlt
 have hgBk:=getB hLk
 have hst:hS g i H' k=if (((i:Int)==(k:Int))||!(rRL g 0 k).getD i false)=true then H'.set k true else H':=rfl
 generalize (rRL g 0 k).getD i false=y at hgBk hst
 generalize rRL g 0 k=RL at hrk hgBk
 refine⟨_,hgetG,?_⟩
 refine⟨_,hgetL,?_⟩
 refine⟨rrch_ent,_,fun _=>hrk,?_⟩
 refine⟨_,fun _=>hgBk,?_⟩
 refine⟨fun h=>?_,fun h=>?_⟩
 ·have h:(((i:Int)==(k:Int))||!y)=true:=h
  rw[if_pos h] at hst
  have hbk:(0:Int)≤(k:Int)∧(k:Int)<((H'.map cB).length:Int):=⟨Int.natCast_nonneg k,by rw[List.length_map];omega⟩
  have hgk:=getB (L:=H') (i:=k) (by omega)
  have hset:((H'.map cB).set ((k:Nat):Int).toNat ((cB (H'.getD k false)).take 0++[tB true]++(cB (H'.getD k false)).drop (0+1)))=(H'.set k true).map cB:=by
   rw[List.map_set];rfl
  refine⟨hbk,?_⟩
  refine⟨_,hgk.2,?_⟩
  exact⟨trivial,(j+1,H'.set k true),Wk.sub ⟨slotI (wr1 hltj hlen),rfl,rfl,rfl,rfl,trivial⟩ ⟨congrArg (fun x=>some (AO.row 4 1 x)) hset,trivial⟩,⟨hltj,.inr hz,by rw[←hst];exact hnx⟩,dec hltj⟩
 ·have h:(((i:Int)==(k:Int))||!y)=false:=h
  rw[if_neg (by rw[h];simp)] at hst
  exact⟨trivial,(j+1,H'),Wk.sub ⟨slotI (wr1 hltj hlen),rfl,rfl,rfl,rfl,trivial⟩ ⟨rfl,trivial⟩,⟨hltj,.inr hz,by rw[←hst];exact hnx⟩,dec hltj⟩
end
section
def lS (al pa:List Bool) (h b:Nat) (s:List Nat×Bool) (k:Nat):List Nat×Bool :=
 if ((al.getD b false&&!s.1.contains b)&&((((k:Int)==(h:Int))&&!pa.getD b false)||(((k:Int) != (h:Int))&&s.1.contains k)))=true then (s.1++[b],true) else s
def lB (g:Gr) (al pa:List Bool) (h:Nat) (s:List Nat×Bool) (b:Nat):List Nat×Bool:=(g.getD b []).foldl (lS al pa h b) s
def lPass (g:Gr) (al pa:List Bool) (h:Nat) (ks:List Nat):List Nat×Bool:=(List.range g.length).foldl (lB g al pa h) (ks,false)
def lGrow (g:Gr) (al pa:List Bool) (h:Nat):Nat→List Nat→List Nat
 | 0,ks=>ks
 | f+1,ks=>if (lPass g al pa h ks).2=true then lGrow g al pa h f (lPass g al pa h ks).1 else (lPass g al pa h ks).1
def rIn (g:Gr) (h:Nat):List Nat:=lGrow g (rRL g 0 (-1)) (rRL g 0 h) h (g.length+1) [h]
def rLoopK (g:Gr) (h:Nat):List Nat:=idxOf (toL g (rIn g h))
def LP (g:Gr) (ks:List Nat) (s:List Nat×Bool):Prop:=unseen g s.1≤unseen g ks∧(s.2=true→unseen g s.1<unseen g ks)
omit [Gm] in
theorem lS_mono (g:Gr) (al pa:List Bool) (h b:Nat) (hb:b<g.length) (ks:List Nat) (s:List Nat×Bool) (k:Nat) (hs:LP g ks s):LP g ks (lS al pa h b s k):=by
 unfold lS
 split
 ·rename_i hc
  simp only[Bool.and_eq_true] at hc
  have hc:s.1.contains b=false:=by simpa using hc.1.2
  have:=unseen_add g hb hc
  exact⟨by have:=hs.1;simp only;omega,fun _=>by have:=hs.1;simp only;omega⟩
 ·exact hs
omit [Gm] in
theorem lSs_mono (g:Gr) (al pa:List Bool) (h b:Nat) (hb:b<g.length) (ks:List Nat):∀ (l:List Nat) (s:List Nat×Bool),LP g ks s→LP g ks (l.foldl (lS al pa h b) s)
 | [],s,hs=>hs
 | k::l,s,hs=>lSs_mono g al pa h b hb ks l _ (lS_mono g al pa h b hb ks s k hs)
omit [Gm] in
theorem lP_mono (g:Gr) (al pa:List Bool) (h:Nat) (ks:List Nat):∀ n,n≤g.length→LP g ks ((List.range n).foldl (lB g al pa h) (ks,false))
 | 0,_=>⟨Nat.le_refl _,fun h=>by cases h⟩
 | n+1,hn=>by
  rw[foldRange]
  exact lSs_mono g al pa h n (by omega) ks _ _ (lP_mono g al pa h ks n (by omega))
omit [Gm] in
theorem lS_stop (al pa:List Bool) (h b:Nat) (s:List Nat×Bool) (hs:(al.getD b false&&!s.1.contains b)=false):∀ l:List Nat,l.foldl (lS al pa h b) s=s
 | []=>rfl
 | k::l=>by
  rw[List.foldl_cons,show lS al pa h b s k=s by unfold lS;rw[hs];simp]
  exact lS_stop al pa h b s hs l
theorem rLoop_ent:Ent Tryz.prog 7:=fun a w=>Tryz.call7 a w
theorem rSucc_ent:Ent Tryz.prog 17:=fun a w=>Tryz.call17 a w
theorem rLoop_out (cs:List TV) (hc:cs.length=4) (g:Gr) (hg:GrOK g) (k:Int) (hsu:PC Tryz.prog 17 [.agg cs] (.tup [encG g,tI 0]))
  (ho:((decide (k<0)||decide (k≥(g.length:Int)))||!(rheads g).getD k.toNat false)=true):PC Tryz.prog 7 [.agg cs,tI k] (.tup [nilT,tI 3]):=by
 have hgl:((g.map fun l=>[encN l]).length:Int)=(g.length:Int):=by simp
 have hhd:=rheads_spec g hg
 have hrl:(rheads g).length=g.length:=by unfold rheads;rw[hRows_len,List.length_replicate]
 have hgt:(decide (k<0)||decide (k≥((g.map fun l=>[encN l]).length:Int)))=false→(0:Int)≤k∧((rheads g).map cB)[k.toNat]?=some (cB ((rheads g).getD k.toNat false)):=fun h=>by
  rw[hgl,Bool.or_eq_false_iff] at h
  have h1:=of_decide_eq_false h.1
  have h2:=of_decide_eq_false h.2
  have h3:=getB (L:=rheads g) (i:=k.toNat) (by omega)
  rw[show ((k.toNat:Nat):Int)=k by omega] at h3
  exact h3
 rw[←hgl] at ho
 generalize (rheads g).getD k.toNat false=y at hgt ho
 match cs,hc with
 | [x1,x2,x3,x4],_ =>
 refine PC.of_ok tok Tryz.func7 rfl (Nat.le_of_ble_eq_true rfl) (ev_sound ctx (own:=[]) _ _ _ ?_)
 refine⟨rSucc_ent,.inl ⟨_,hsu,?_⟩⟩
 refine⟨fun h=>absurd h (by decide),fun _=>?_⟩
 refine⟨rheads_ent,_,fun _=>hhd,?_⟩
 refine⟨_,fun hG=>hgt hG,?_⟩
 refine⟨fun _=>?_,fun h=>?_⟩
 ·exact rfl
 ·have h:((decide (k<0)||decide (k≥((g.map fun l=>[encN l]).length:Int)))||!y)=false:=h
  exact Bool.noConfusion (ho.symm.trans h)
theorem rLoop_bad (cs:List TV) (hc:cs.length=4) (k e:Int) (he:e≠0) (hsu:PC Tryz.prog 17 [.agg cs] (.tup [nilT,tI e])):PC Tryz.prog 7 [.agg cs,tI k] (.tup [nilT,tI 1]):=by
 match cs,hc with
 | [x1,x2,x3,x4],_ =>
 refine PC.of_ok tok Tryz.func7 rfl (Nat.le_of_ble_eq_true rfl) (ev_sound ctx (own:=[]) _ _ _ ?_)
 refine⟨rSucc_ent,.inl ⟨_,hsu,?_⟩⟩
 refine⟨fun _=>?_,fun h=>?_⟩
 ·exact rfl
 ·have h:(e != 0)=false:=h
  exact absurd (by simpa using h) he
end
section
def rlSt (g:Gr) (al pa:List Bool) (h:Nat) (x:List Nat×Bool):St :=
 ⟨[(11,vb x.2),(10,.sl 47),(9,.t (encB pa)),(8,.t (encB al)),(6,.t (encG g)),(1,.t (tI h))],[(47,.row 4 1 ((toL g x.1).map cB))]⟩
def rlSt2 (g:Gr) (al pa:List Bool) (h b:Nat) (x:List Nat×Bool):St:=⟨(12,vi b)::(rlSt g al pa h x).φ,(rlSt g al pa h x).σ⟩
def rlSt3 (g:Gr) (al pa:List Bool) (h b j:Nat) (x:List Nat×Bool):St:=⟨(13,vi j)::(rlSt2 g al pa h b x).φ,(rlSt2 g al pa h b x).σ⟩
omit [Gm] in
theorem andR {a b c:Bool} (h:((a&&b)&&c)=true):(b&&c)=true:=by cases a <;> simp_all
theorem rLoop_in (cs:List TV) (hc:cs.length=4) (g:Gr) (hg:GrOK g) (h:Nat) (hh:h<g.length) (hsu:PC Tryz.prog 17 [.agg cs] (.tup [encG g,tI 0]))
  (ho:(rheads g).getD h false=true):PC Tryz.prog 7 [.agg cs,tI h] (.tup [encN (rLoopK g h),tI 0]):=by
 have hgl:((g.map fun l=>[encN l]).length:Int)=(g.length:Int):=by simp
 have hhd:=rheads_spec g hg
 have hrl:(rheads g).length=g.length:=by unfold rheads;rw[hRows_len,List.length_replicate]
 have hgt:=getB (L:=rheads g) (i:=h) (by omega)
 rw[ho] at hgt
 have hcnd:(decide ((h:Int)<0)||decide ((h:Int)≥((g.map fun l=>[encN l]).length:Int)))=false:=by
  rw[hgl,Bool.or_eq_false_iff];exact⟨decide_eq_false (by omega),decide_eq_false (by omega)⟩
 have hal:=rrch_spec g hg 0 (-1)
 have hpa:=rrch_spec g hg 0 h
 have hsm:=hg.sm
 have hinE:rIn g h=lGrow g (rRL g 0 (-1)) (rRL g 0 h) h (g.length+1) [h]:=rfl
 have hlal:=rRL_len g 0 (-1)
 have hlpa:=rRL_len g 0 h
 have hres:rLoopK g h=idxOf (toL g (rIn g h)):=rfl
 rw[hres]
 generalize rIn g h=IN at hinE
 generalize rRL g 0 (-1)=al at hal hlal hinE
 generalize rRL g 0 h=pa at hpa hlpa hinE
 have hini:(List.replicate ((List.length (g.map fun l=>[encN l]):Nat):Int).toNat [tB false])=(toL g []).map cB:=by
  rw[Int.toNat_natCast,List.length_map,toL_nil];simp[cB]
 have hset0:((List.replicate ((List.length (g.map fun l=>[encN l]):Nat):Int).toNat [tB false]).set ((h:Nat):Int).toNat [tB true])=(toL g [h]).map cB:=by
  rw[hini,Int.toNat_natCast]
  have:=toL_set (ks:=[]) hh
  rw[List.nil_append] at this
  rw[←this,List.map_set];rfl
 have hbnd0:(0:Int)≤(h:Int)∧(h:Int)<((List.replicate ((List.length (g.map fun l=>[encN l]):Nat):Int).toNat [tB false]).length:Int):=⟨Int.natCast_nonneg _,by rw[hini,List.length_map,toL_len];omega⟩
 have hget0:(List.replicate ((List.length (g.map fun l=>[encN l]):Nat):Int).toNat [tB false])[((h:Nat):Int).toNat]?=some [tB false]:=by
  rw[hini,toL_getC hh];rfl
 match cs,hc with
 | [x1,x2,x3,x4],_ =>
 refine PC.of_ok tok Tryz.func7 rfl (Nat.le_of_ble_eq_true rfl) (ev_sound ctx (own:=[47,124]) _ _ _ ?_)
 refine⟨rSucc_ent,.inl ⟨_,hsu,?_⟩⟩
 refine⟨fun h=>absurd h (by decide),fun _=>?_⟩
 refine⟨rheads_ent,_,fun _=>hhd,?_⟩
 refine⟨_,fun _=>hgt,?_⟩
 refine⟨fun hx=>?_,fun _=>?_⟩
 ·have hx:((decide ((h:Int)<0)||decide ((h:Int)≥((g.map fun l=>[encN l]).length:Int)))||!true)=true:=hx
  rw[hcnd] at hx;cases hx
 refine⟨rrch_ent,.inl ⟨_,hal,?_⟩⟩
 refine⟨rrch_ent,.inl ⟨_,hpa,?_⟩⟩
 refine⟨Int.natCast_nonneg _,Int.le_refl _,by rw[hgl];omega,by rw[hgl,Int.toNat_natCast];show g.length*1≤_;omega,?_⟩
 refine⟨hbnd0,?_⟩
 refine⟨_,hget0,?_⟩
 refine Ok.loop (st:=rlSt g al pa h) (R:=fun x=>(x.2=true→∃ f,unseen g x.1<f∧lGrow g al pa h f x.1=IN)∧(x.2=false→x.1=IN)) (μ:=fun x=>if x.2=true then unseen g x.1+1 else 0) ([h],true)
  (Wk.sub ⟨rfl,rfl,rfl,rfl,rfl,rfl,trivial⟩ ⟨congrArg (fun x=>some (AO.row 4 1 x)) hset0,trivial⟩) ⟨fun _=>⟨g.length+1,unseen_lt g [h],hinE.symm⟩,fun h=>by cases h⟩ ?_
 rintro⟨ks,c⟩ ⟨hR1,hR2⟩
 refine ev_sound ctx (own:=[47,124]) _ _ _ ?_
 refine⟨fun hcc=>?_,fun hcc=>?_⟩
 ·have hc:c=true:=hcc
  subst hc
  obtain⟨f,hf,hgk⟩:=hR1 rfl
  have hf:unseen g ks<f:=hf
  have hgk:lGrow g al pa h f ks=IN:=hgk
  refine Ok.loop (st:=fun y:Nat×List Nat×Bool=>rlSt2 g al pa h y.1 y.2) (R:=fun y=>y.1≤g.length∧(List.range y.1).foldl (lB g al pa h) (ks,false)=y.2) (μ:=fun y=>g.length-y.1) (0,(ks,false))
   (Wk.sub ⟨rfl,rfl,rfl,rfl,rfl,rfl,rfl,trivial⟩ ⟨rfl,trivial⟩) ⟨Nat.zero_le _,rfl⟩ ?_
  rintro⟨b,ks',c'⟩ ⟨hb,hfold⟩
  have hb:b≤g.length:=hb
  have hfold:(List.range b).foldl (lB g al pa h) (ks,false)=(ks',c'):=hfold
  refine ev_sound ctx (own:=[47,124]) _ _ _ ?_
  refine⟨fun hx=>?_,fun hx=>?_⟩
  rotate_left
  ·have hge:g.length≤b:=geOf (by rw[←hgl];exact hx)
   have hbe:b=g.length:=Nat.le_antisymm hb hge
   subst hbe
   have hpass:lPass g al pa h ks=(ks',c'):=hfold
   have hmono:=lP_mono g al pa h ks g.length (Nat.le_refl _)
   rw[hfold] at hmono
   have hm2:c'=true→unseen g ks'<unseen g ks:=hmono.2
   obtain⟨f',rfl⟩:∃ f',f=f'+1:=⟨f-1,by omega⟩
   unfold lGrow at hgk
   rw[hpass] at hgk
   refine⟨(ks',c'),Wk.sub ⟨rfl,rfl,rfl,rfl,rfl,rfl,trivial⟩ ⟨rfl,trivial⟩,⟨fun hc=>?_,fun hc=>?_⟩,?_⟩
   ·have hc:c'=true:=hc
    have:=hm2 hc
    refine⟨f',by simp only;omega,?_⟩
    simp only[hc,if_true] at hgk
    exact hgk
   ·have hc:c'=false:=hc
    simp only[hc,Bool.false_eq_true,if_false] at hgk
    exact hgk
   ·cases c' with
    | true=>have:=hm2 rfl;simp only[if_true];omega
    | false=>simp
  have hlt:b<g.length:=ltOf (by rw[←hgl];exact hx)
  have hgetG:(0:Int)≤(b:Int)∧(g.map fun l=>[encN l])[((b:Nat):Int).toNat]?=some [encN g[b]]:=⟨Int.natCast_nonneg b,by simp[List.getElem?_eq_getElem hlt]⟩
  have hgi:g.getD b []=g[b]:=by simp[List.getD,List.getElem?_eq_getElem hlt]
  have hlen:=hg.lenl _ (List.getElem_mem hlt)
  have hltl:=hg.lt _ (List.getElem_mem hlt)
  have hnb:(List.range (b+1)).foldl (lB g al pa h) (ks,false)=(g.getD b []).foldl (lS al pa h b) (ks',c'):=by rw[foldRange,hfold];rfl
  rw[hgi] at hnb
  generalize g[b]=l at hgetG hlen hltl hnb
  have hml2:((l.map cI).length:Int)=(l.length:Int):=by rw[List.length_map]
  have hgal:=getB (L:=al) (i:=b) (by omega)
  have hgpa:=getB (L:=pa) (i:=b) (by omega)
  refine Ok.loop (st:=fun y:Nat×List Nat×Bool=>rlSt3 g al pa h b y.1 y.2) (R:=fun y=>y.1≤l.length∧l.foldl (lS al pa h b) (ks',c')=(l.drop y.1).foldl (lS al pa h b) y.2) (μ:=fun y=>l.length-y.1) (0,(ks',c'))
   (Wk.sub ⟨rfl,rfl,rfl,rfl,rfl,rfl,rfl,rfl,trivial⟩ ⟨rfl,trivial⟩) ⟨Nat.zero_le _,rfl⟩ ?_
  rintro⟨j,M,d⟩ ⟨hj,hRj⟩
  have hj:j≤l.length:=hj
  have hRj:l.foldl (lS al pa h b) (ks',c')=(l.drop j).foldl (lS al pa h b) (M,d):=hRj
  have hbb:∀ n,n<g.length→(0:Int)≤(n:Int)∧(n:Int)<(((toL g M).map cB).length:Int):=fun n hn=>⟨Int.natCast_nonneg n,by rw[List.length_map,toL_len];omega⟩
  have hgb:((toL g M).map cB)[((b:Nat):Int).toNat]?=some (cB (M.contains b)):=toL_getC hlt
  have hstop:=lS_stop al pa h b (M,d)
  have hlS:∀ k,lS al pa h b (M,d) k=if ((al.getD b false&&!M.contains b)&&((((k:Int)==(h:Int))&&!pa.getD b false)||(((k:Int) != (h:Int))&&M.contains k)))=true then (M++[b],true) else (M,d):=fun _=>rfl
  have hset:((toL g M).map cB).set ((b:Nat):Int).toNat ((cB (M.contains b)).take 0++[tB true]++(cB (M.contains b)).drop (0+1))=(toL g (M++[b])).map cB:=by
   rw[←toL_set hlt,List.map_set];rfl
  have hstop:(al.getD b false&&!M.contains b)=false→∀ l:List Nat,l.foldl (lS al pa h b) (M,d)=(M,d):=hstop
  generalize al.getD b false=A at hgal hstop hlS
  generalize pa.getD b false=Pb at hgpa hlS
  generalize M.contains b=Mb at hgb hstop hlS hset
  have hend:((decide ((j:Int)<((l.map cI).length:Int))&&A)&&!Mb)=false→l.foldl (lS al pa h b) (ks',c')=(M,d):=fun hx=>by
   rw[hRj]
   rw[Bool.and_assoc] at hx
   cases hq:(A&&!Mb) with
   | false=>exact hstop hq _
   | true =>
    rw[hq,Bool.and_true] at hx
    have hge:l.length≤j:=geOf (by rw[←hml2];exact hx)
    rw[List.drop_eq_nil_of_le hge];rfl
  by_cases hltj:j<l.length
  ·have hgetL:(0:Int)≤(j:Int)∧(l.map cI)[((j:Nat):Int).toNat]?=some (cI l[j]):=getM hltj
   have hk:=hltl _ (List.getElem_mem hltj)
   rw[List.drop_eq_getElem_cons hltj,List.foldl_cons] at hRj
   generalize l[j]=k at hgetL hk hRj
   have hgk:((toL g M).map cB)[((k:Nat):Int).toNat]?=some (cB (M.contains k)):=toL_getC hk
   have hlS:=hlS k
   generalize M.contains k=Mk at hgk hlS
   refine ev_sound ctx (own:=[47,124]) _ _ _ ?_
   refine⟨_,hgetG,?_⟩
   refine⟨_,fun _=>hgal,?_⟩
   refine⟨fun _=>hbb b hlt,_,hgb,?_⟩
   refine⟨fun hx=>?_,fun hx=>?_⟩
   rotate_left
   ·exact⟨trivial,(b+1,(M,d)),Wk.sub ⟨slotI (wr1 hlt hg.len),rfl,rfl,rfl,rfl,rfl,rfl,trivial⟩ ⟨rfl,trivial⟩,⟨hlt,by rw[hnb,hend hx]⟩,dec hlt⟩
   have hx:((decide ((j:Int)<((l.map cI).length:Int))&&A)&&!Mb)=true:=hx
   have hAM:(A&&!Mb)=true:=andR hx
   rw[hAM,Bool.true_and] at hlS
   refine⟨_,hgetG,?_⟩
   refine⟨_,hgetL,?_⟩
   refine⟨_,fun _=>hgpa,?_⟩
   refine⟨fun _=>hbb k hk,_,hgk,?_⟩
   refine⟨fun hq=>?_,fun hq=>?_⟩
   ·have hq:((((k:Int)==(h:Int))&&!Pb)||(((k:Int) != (h:Int))&&Mk))=true:=hq
    rw[if_pos hq] at hlS
    rw[hlS] at hRj
    refine⟨hbb b hlt,?_⟩
    refine⟨_,hgb,?_⟩
    exact⟨trivial,(j+1,(M++[b],true)),Wk.sub ⟨slotI (wr1 hltj hlen),rfl,rfl,rfl,rfl,rfl,rfl,rfl,trivial⟩ ⟨congrArg (fun x=>some (AO.row 4 1 x)) hset,trivial⟩,⟨hltj,hRj⟩,dec hltj⟩
   ·have hq:((((k:Int)==(h:Int))&&!Pb)||(((k:Int) != (h:Int))&&Mk))=false:=hq
    rw[if_neg (by rw[hq];simp)] at hlS
    rw[hlS] at hRj
    exact⟨trivial,(j+1,(M,d)),Wk.sub ⟨slotI (wr1 hltj hlen),rfl,rfl,rfl,rfl,rfl,rfl,rfl,trivial⟩ ⟨rfl,trivial⟩,⟨hltj,hRj⟩,dec hltj⟩
  ·refine ev_sound ctx (own:=[47,124]) _ _ _ ?_
   refine⟨_,hgetG,?_⟩
   refine⟨_,fun _=>hgal,?_⟩
   refine⟨fun _=>hbb b hlt,_,hgb,?_⟩
   refine⟨fun hx=>?_,fun hx=>?_⟩
   ·have hx:((decide ((j:Int)<((l.map cI).length:Int))&&A)&&!Mb)=true:=hx
    exact absurd (ltOf (by rw[←hml2];exact and1 (and1 hx))) hltj
   ·exact⟨trivial,(b+1,(M,d)),Wk.sub ⟨slotI (wr1 hlt hg.len),rfl,rfl,rfl,rfl,rfl,rfl,trivial⟩ ⟨rfl,trivial⟩,⟨hlt,by rw[hnb,hend hx]⟩,dec hlt⟩
 ·have hc:c=false:=hcc
  have hks:ks=IN:=hR2 hc
  clear hR1 hR2
  subst hks
  have hml:(((toL g ks).map cB).length:Int)=(g.length:Int):=by rw[List.length_map,toL_len]
  refine Ok.loop (st:=fun i:Nat=>⟨[(16,vi i),(15,.sl 124),(10,.sl 47)],[(124,.row 3 1 (((List.range i).filter fun x=>(toL g ks).getD x false).map cI)),(47,.row 4 1 ((toL g ks).map cB))]⟩)
   (R:=fun i=>i≤g.length) (μ:=fun i=>g.length-i) 0 ((Wk.nil 15 124 3 1 (by decide) rfl).trans (Wk.sub ⟨rfl,rfl,rfl,trivial⟩ ⟨rfl,rfl,trivial⟩)) (Nat.zero_le _) ?_
  rintro i hi
  have hi:i≤g.length:=hi
  refine ev_sound ctx (own:=[47,124]) _ _ _ ?_
  refine⟨fun hx=>?_,fun hx=>?_⟩
  ·have hlt:i<g.length:=ltOf (by rw[←hml];exact hx)
   have hgi:=getB (L:=toL g ks) (i:=i) (by rw[toL_len];exact hlt)
   have hbi:(0:Int)≤(i:Int)∧(i:Int)<(((toL g ks).map cB).length:Int):=⟨Int.natCast_nonneg i,by rw[hml];omega⟩
   have hrg:(List.range (i+1)).filter (fun x=>(toL g ks).getD x false)=(List.range i).filter (fun x=>(toL g ks).getD x false)++(if (toL g ks).getD i false=true then [i] else []):=by
    rw[List.range_succ,List.filter_append]
    congr 1
    by_cases hq:(toL g ks).getD i false=true
    ·rw[if_pos hq,List.filter_cons_of_pos (p:=fun x=>(toL g ks).getD x false) hq];rfl
    ·rw[if_neg hq,List.filter_cons_of_neg (p:=fun x=>(toL g ks).getD x false) hq];rfl
   have hll:((List.range i).filter fun x=>(toL g ks).getD x false).length≤i:=by
    have:=List.length_filter_le (fun x=>(toL g ks).getD x false) (List.range i)
    rwa [List.length_range] at this
   refine⟨hbi,?_⟩
   refine⟨_,hgi.2,?_⟩
   refine⟨fun hq=>?_,fun hq=>?_⟩
   ·have hq:(toL g ks).getD i false=true:=hq
    rw[if_pos hq] at hrg
    have hrow:some (AO.row 3 1 (((List.range i).filter fun x=>(toL g ks).getD x false).map cI++[[tI i]]))=some (AO.row 3 1 (((List.range (i+1)).filter fun x=>(toL g ks).getD x false).map cI)):=by rw[hrg,List.map_append];rfl
    exact⟨by show ((((List.range i).filter fun x=>(toL g ks).getD x false).map cI).length+1)*8≤_;rw[List.length_map];omega,by show (((List.range i).filter fun x=>(toL g ks).getD x false).map cI).length+1≤maxLen;rw[List.length_map];simp only[maxLen];omega,trivial,i+1,Wk.sub ⟨slotI (wr1 hlt hg.len),rfl,rfl,trivial⟩ ⟨hrow,rfl,trivial⟩,hlt,dec hlt⟩
   ·have hq:(toL g ks).getD i false=false:=hq
    rw[if_neg (by rw[hq];simp),List.append_nil] at hrg
    exact⟨trivial,i+1,Wk.sub ⟨slotI (wr1 hlt hg.len),rfl,rfl,trivial⟩ ⟨congrArg (fun x:List Nat=>some (AO.row 3 1 (x.map cI))) hrg.symm,rfl,trivial⟩,hlt,dec hlt⟩
  ·have hge:g.length≤i:=geOf (by rw[←hml];exact hx)
   have:i=g.length:=Nat.le_antisymm hi hge
   subst this
   refine toEq ?_
   unfold idxOf
   rw[toL_len];rfl
end
section
def noBack (g:Gr) (i:Nat) (k:Nat):Bool:=!(rRL g k (-1)).getD i false
def rowOK (g:Gr) (i:Nat):Bool:=!(rRL g 0 (-1)).getD i false||(g.getD i []).all (noBack g i)
def racyc (g:Gr):Bool:=(List.range g.length).all (rowOK g)
theorem rAcyc_ent:Ent Tryz.prog 11:=fun a w=>Tryz.call11 a w
theorem rAcyc_bad (cs:List TV) (hc:cs.length=4) (e:Int) (he:e≠0) (hsu:PC Tryz.prog 17 [.agg cs] (.tup [nilT,tI e])):PC Tryz.prog 11 [.agg cs] (.tup [tB false,tI 1]):=by
 match cs,hc with
 | [x1,x2,x3,x4],_ =>
 refine PC.of_ok tok Tryz.func11 rfl (Nat.le_of_ble_eq_true rfl) (ev_sound ctx (own:=[]) _ _ _ ?_)
 refine⟨rSucc_ent,.inl ⟨_,hsu,?_⟩⟩
 refine⟨fun _=>?_,fun h=>?_⟩
 ·exact rfl
 ·have h:(e != 0)=false:=h
  exact absurd (by simpa using h) he
theorem rAcyc_good (cs:List TV) (hc:cs.length=4) (g:Gr) (hg:GrOK g) (hsu:PC Tryz.prog 17 [.agg cs] (.tup [encG g,tI 0])):PC Tryz.prog 11 [.agg cs] (.tup [tB (racyc g),tI 0]):=by
 have hgl:((g.map fun l=>[encN l]).length:Int)=(g.length:Int):=by simp
 have hal:=rrch_spec g hg 0 (-1)
 have hlal:=rRL_len g 0 (-1)
 have hrow:∀ i,rowOK g i=(!(rRL g 0 (-1)).getD i false||(g.getD i []).all (noBack g i)):=fun _=>rfl
 have hra:racyc g=(List.range g.length).all (rowOK g):=rfl
 have hno:∀ i,i<g.length→rowOK g i=false→racyc g=false:=fun i hi h=>by
  cases hq:racyc g with
  | false=>rfl
  | true=>rw[List.all_eq_true.1 hq i (List.mem_range.2 hi)] at h;cases h
 generalize rRL g 0 (-1)=al at hal hlal hrow
 match cs,hc with
 | [x1,x2,x3,x4],_ =>
 refine PC.of_ok tok Tryz.func11 rfl (Nat.le_of_ble_eq_true rfl) (ev_sound ctx (own:=[]) _ _ _ ?_)
 refine⟨rSucc_ent,.inl ⟨_,hsu,?_⟩⟩
 refine⟨fun h=>absurd h (by decide),fun _=>?_⟩
 refine⟨rrch_ent,.inl ⟨_,hal,?_⟩⟩
 refine Ok.loop (st:=fun i:Nat=>⟨[(7,vi i),(6,.t (encB al)),(4,.t (encG g))],[]⟩) (R:=fun i=>i≤g.length∧(List.range i).all (rowOK g)=true) (μ:=fun i=>g.length-i) 0
  (Wk.sub ⟨rfl,rfl,rfl,trivial⟩ trivial) ⟨Nat.zero_le _,rfl⟩ ?_
 rintro i ⟨hi,hall⟩
 have hi:i≤g.length:=hi
 have hall:(List.range i).all (rowOK g)=true:=hall
 refine ev_sound ctx (own:=[]) _ _ _ ?_
 refine⟨fun hx=>?_,fun hx=>?_⟩
 rotate_left
 ·have hge:g.length≤i:=geOf (by rw[←hgl];exact hx)
  have:i=g.length:=Nat.le_antisymm hi hge
  subst this
  exact toEq (by rw[hra,hall];rfl)
 have hlt:i<g.length:=ltOf (by rw[←hgl];exact hx)
 have hgetG:(0:Int)≤(i:Int)∧(g.map fun l=>[encN l])[((i:Nat):Int).toNat]?=some [encN g[i]]:=⟨Int.natCast_nonneg i,by simp[List.getElem?_eq_getElem hlt]⟩
 have hgi:g.getD i []=g[i]:=by simp[List.getD,List.getElem?_eq_getElem hlt]
 have hlen:=hg.lenl _ (List.getElem_mem hlt)
 have hltl:=hg.lt _ (List.getElem_mem hlt)
 have hrow:=hrow i
 have hno:=hno i hlt
 have hnx:rowOK g i=true→(List.range (i+1)).all (rowOK g)=true:=fun h=>by rw[List.range_succ,List.all_append,hall];simp[h]
 rw[hgi] at hrow
 generalize g[i]=l at hgetG hlen hltl hrow
 have hml2:((l.map cI).length:Int)=(l.length:Int):=by rw[List.length_map]
 have hgal:=getB (L:=al) (i:=i) (by omega)
 generalize al.getD i false=A at hgal hrow
 refine Ok.loop (st:=fun j:Nat=>⟨[(8,vi j),(7,vi i),(6,.t (encB al)),(4,.t (encG g))],[]⟩) (R:=fun j=>j≤l.length∧(l.take j).all (noBack g i)=true) (μ:=fun j=>l.length-j) 0
  (Wk.sub ⟨rfl,rfl,rfl,rfl,trivial⟩ trivial) ⟨Nat.zero_le _,rfl⟩ ?_
 rintro j ⟨hj,hjall⟩
 have hj:j≤l.length:=hj
 have hjall:(l.take j).all (noBack g i)=true:=hjall
 have hend:(decide ((j:Int)<((l.map cI).length:Int))&&A)=false→rowOK g i=true:=fun h=>by
  rw[hrow]
  cases A with
  | false=>rfl
  | true =>
   rw[Bool.and_true] at h
   have hge:l.length≤j:=geOf (by rw[←hml2];exact h)
   rw[List.take_of_length_le hge] at hjall
   rw[hjall];rfl
 by_cases hltj:j<l.length
 ·have hgetL:(0:Int)≤(j:Int)∧(l.map cI)[((j:Nat):Int).toNat]?=some (cI l[j]):=getM hltj
  have hk:=hltl _ (List.getElem_mem hltj)
  have hmem:l[j]∈l:=List.getElem_mem hltj
  have htk:l.take (j+1)=l.take j++[l[j]]:=by rw[List.take_add_one,List.getElem?_eq_getElem hltj];rfl
  generalize l[j]=k at hgetL hk hmem htk
  have hrk:=rrch_spec g hg k (-1)
  have hgk:=getB (L:=rRL g k (-1)) (i:=i) (by rw[rRL_len];exact hlt)
  have hnb:noBack g i k=!(rRL g k (-1)).getD i false:=rfl
  have hjn:noBack g i k=true→(l.take (j+1)).all (noBack g i)=true:=fun h=>by rw[htk,List.all_append,hjall];simp[h]
  have hhit:A=true→noBack g i k=false→racyc g=false:=fun hA h=>hno (by
   rw[hrow,hA]
   cases hq:l.all (noBack g i) with
   | false=>rfl
   | true=>rw[List.all_eq_true.1 hq k hmem] at h;cases h)
  generalize (rRL g k (-1)).getD i false=y at hgk hnb
  generalize rRL g k (-1)=RL at hrk hgk
  refine ev_sound ctx (own:=[]) _ _ _ ?_
  refine⟨_,hgetG,?_⟩
  refine⟨_,fun _=>hgal,?_⟩
  refine⟨fun hx=>?_,fun hx=>?_⟩
  rotate_left
  ·exact⟨trivial,i+1,Wk.sub ⟨slotI (wr1 hlt hg.len),rfl,rfl,trivial⟩ trivial,⟨hlt,hnx (hend hx)⟩,dec hlt⟩
  have hx:(decide ((j:Int)<((l.map cI).length:Int))&&A)=true:=hx
  have hA:A=true:=by rw[Bool.and_eq_true] at hx;exact hx.2
  refine⟨_,hgetG,?_⟩
  refine⟨_,hgetL,?_⟩
  refine⟨rrch_ent,.inl ⟨_,hrk,?_⟩⟩
  refine⟨_,hgk,?_⟩
  refine⟨fun hq=>?_,fun hq=>?_⟩
  ·have hq:y=true:=hq
   have hz:=hhit hA (by rw[hnb,hq];rfl)
   exact toEq (by rw[hz];rfl)
  ·have hq:y=false:=hq
   exact⟨trivial,j+1,Wk.sub ⟨slotI (wr1 hltj hlen),rfl,rfl,rfl,trivial⟩ trivial,⟨hltj,hjn (by rw[hnb,hq];rfl)⟩,dec hltj⟩
 ·refine ev_sound ctx (own:=[]) _ _ _ ?_
  refine⟨_,hgetG,?_⟩
  refine⟨_,fun _=>hgal,?_⟩
  refine⟨fun hx=>?_,fun hx=>?_⟩
  ·have hx:(decide ((j:Int)<((l.map cI).length:Int))&&A)=true:=hx
   exact absurd (ltOf (by rw[←hml2];exact and1 hx)) hltj
  ·exact⟨trivial,i+1,Wk.sub ⟨slotI (wr1 hlt hg.len),rfl,rfl,trivial⟩ trivial,⟨hlt,hnx (hend hx)⟩,dec hlt⟩
end
section
def sgn (a b:Bool):Int:=if a=true then -1 else if b=true then 1 else 0
theorem sign_ent:Ent Tryz.prog 68:=fun a w=>Tryz.call68 a w
theorem sign_spec (a b:Bool):PC Tryz.prog 68 [tB a,tB b] (tI (sgn a b)):=by
 refine PC.of_ok tok Tryz.func68 rfl (Nat.le_of_ble_eq_true rfl) (ev_sound ctx (own:=[]) _ _ _ ?_)
 refine⟨fun h=>?_,fun h=>?_⟩
 ·have h:a=true:=h
  subst h;exact rfl
 ·have h:a=false:=h
  subst h
  refine⟨fun h=>?_,fun h=>?_⟩
  ·have h:b=true:=h
   subst h;exact rfl
  ·have h:b=false:=h
   subst h;exact rfl
theorem rown_ent:Ent Tryz.prog 42:=fun a w=>Tryz.call42 a w
def rownSt (k n:Int) (t:ByteArray) (ks:List Fm) (i:Nat):St :=
 ⟨[(4,vi i),(3,.sl 20),(2,.ptr 2 0),(1,.ptr 1 0)],
  [(20,.row 24 4 (rows (ks.take i))),(2,.var [.t (tI 0),.t (tI 0),.t (tS ⟨#[]⟩),.t (.v (.slice none 0 0))]),(1,.var [.t (tI k),.t (tI n),.t (tS t),.t (encs ks)])]⟩
theorem rown_spec (f:Fm) (hf:Fit f):PC Tryz.prog 42 [f.enc] f.enc:=by
 induction hf with
 | @mk k n t ks hl hb ht _ ih =>
 refine PC.of_ok tok Tryz.func42 rfl (Nat.le_of_ble_eq_true rfl) (ev_sound ctx (own:=[20]) _ _ _ ?_)
 refine Ok.loop (st:=rownSt k n t ks) (R:=fun i=>i≤ks.length) (μ:=fun i=>ks.length-i) 0 ((Wk.nil 3 20 24 4 (by decide) rfl).trans (Wk.sub ⟨rfl,rfl,rfl,rfl,trivial⟩ ⟨rfl,rfl,rfl,trivial⟩)) (Nat.zero_le _) ?_
 intro i hi
 refine ev_sound ctx (own:=[20]) _ _ _ ?_
 refine⟨fun h=>?_,fun h=>?_⟩
 ·have h:decide ((i:Int)<((rows ks).length:Int))=true:=h
  rw[rows_len] at h
  have hlt:=ltOf h
  have hget:=rows_get hlt
  have hih:=ih _ (List.getElem_mem hlt)
  generalize hg:ks[i]=g at hget hih
  obtain⟨k',n',t',ks'⟩:=g
  refine⟨_,hget,?_⟩
  refine⟨rown_ent,.inl ⟨_,hih,?_⟩⟩
  refine⟨?_,?_,trivial,i+1,Wk.sub ⟨slotI (wr1 hlt hl),rfl,rfl,rfl,trivial⟩ ⟨congrArg (fun x=>some (AO.row 24 4 x)) ?_,rfl,rfl,trivial⟩,hlt,dec hlt⟩
  ·simp[rows_len,List.length_take];omega
  ·simp[rows_len,List.length_take,maxLen] at hl ⊢;omega
  ·rw[List.take_succ,List.getElem?_eq_getElem hlt,hg,rows_map,rows_map,List.map_append];rfl
 ·have h:decide ((i:Int)<((rows ks).length:Int))=false:=h
  rw[rows_len] at h
  have hge:=geOf h
  have:i=ks.length:=Nat.le_antisymm hi hge
  subst this
  refine toEq ?_
  simp only[List.take_length]
  rfl
def cmpW (a b:ByteArray):Int:=sgn (Op.bytesLess a.toList b.toList) (!(Op.bytesLess a.toList b.toList||a.toList==b.toList))
theorem rcmp_ent:Ent Tryz.prog 40:=fun a w=>Tryz.call40 a w
theorem rcmp_word (f g:Fm) (hf:f.kind=1) (hg:g.kind=1):PC Tryz.prog 40 [f.enc,g.enc] (tI (cmpW f.text g.text)):=by
 obtain⟨kf,nf,tf,ksf⟩:=f
 obtain⟨kg,ng,tg,ksg⟩:=g
 have hf:kf=1:=hf
 have hg:kg=1:=hg
 subst hf;subst hg
 have hs:=sign_spec (Op.bytesLess tf.toList tg.toList) (!(Op.bytesLess tf.toList tg.toList||tf.toList==tg.toList))
 refine PC.of_ok tok Tryz.func40 rfl (Nat.le_of_ble_eq_true rfl) (ev_sound ctx (own:=[]) _ _ _ ?_)
 refine⟨fun h=>absurd h (by decide),fun _=>?_⟩
 refine⟨fun h=>absurd h (by decide),fun _=>?_⟩
 refine⟨fun _=>?_,fun h=>absurd h (by decide)⟩
 refine⟨fun _=>?_,fun h=>absurd h (by decide)⟩
 refine⟨sign_ent,.inl ⟨_,hs,?_⟩⟩
 exact rfl
theorem req_ent:Ent Tryz.prog 41:=fun a w=>Tryz.call41 a w
theorem req_word (f g:Fm) (hf:f.kind=1) (hg:g.kind=1):PC Tryz.prog 41 [f.enc,g.enc] (tB (cmpW f.text g.text==0)):=by
 have hs:=rcmp_word f g hf hg
 obtain⟨kf,nf,tf,ksf⟩:=f
 obtain⟨kg,ng,tg,ksg⟩:=g
 generalize cmpW (Fm.mk kf nf tf ksf).text (Fm.mk kg ng tg ksg).text=z at hs ⊢
 refine PC.of_ok tok Tryz.func41 rfl (Nat.le_of_ble_eq_true rfl) (ev_sound ctx (own:=[]) _ _ _ ?_)
 refine⟨rcmp_ent,.inl ⟨_,hs,?_⟩⟩
 exact rfl
end
section
def nI (f:Fm):List Fm→Nat
 | []=>0
 | g::r=>if decide (cmpW g.text f.text<0)=true then nI f r+1 else 0
def insW (out:List Fm) (f:Fm):List Fm :=
 if (decide ((nI f out:Int)<(out.length:Int))&&(cmpW (out.getD (nI f out) w0).text f.text==0))=true then out else out.take (nI f out)++f::out.drop (nI f out)
def sortW (l:List Fm):List Fm:=l.foldl insW []
omit [Gm] in
theorem insW_ok {P:Fm→Prop} {out:List Fm} {f:Fm} (ho:∀ g∈out,P g) (hf:P f):(∀ g∈insW out f,P g)∧(insW out f).length≤out.length+1:=by
 unfold insW
 split
 ·exact⟨ho,by omega⟩
 ·refine⟨fun g hg=>?_,?_⟩
  ·rcases List.mem_append.1 hg with h | h
   ·exact ho g (List.mem_of_mem_take h)
   ·rcases List.mem_cons.1 h with h | h
    ·subst h;exact hf
    ·exact ho g (List.mem_of_mem_drop h)
  ·rw[List.length_append,List.length_cons,List.length_take,List.length_drop];omega
theorem rsort_ent:Ent Tryz.prog 24:=fun a w=>Tryz.call24 a w
theorem rsort_spec (l:List Fm) (hl:l.length≤2000000000000) (hfit:∀ f∈l,Fit f) (hw:∀ f∈l,f.kind=1):PC Tryz.prog 24 [encs l] (encs (sortW l)):=by
 have hlM:l.length≤maxLen:=by simp only[maxLen];omega
 refine PC.of_okL tok Tryz.func24 rfl (Nat.le_of_ble_eq_true rfl) (ev_sound ctx (own:=[46]) _ _ _ ?_)
 refine Ok.loop (st:=fun x:Nat×List Fm=>⟨[(4,vi x.1),(3,.t (encs x.2)),(0,.t (encs l))],[]⟩)
  (R:=fun x=>x.1≤l.length∧x.2=(l.take x.1).foldl insW []∧(∀ g∈x.2,Fit g∧g.kind=1)∧x.2.length≤x.1) (μ:=fun x=>l.length-x.1) (0,[])
  ((Wk.empty 3 4 (by decide) rfl).trans (Wk.sub ⟨rfl,rfl,rfl,trivial⟩ trivial)) ⟨Nat.zero_le _,rfl,(fun g h=>by cases h),Nat.le_refl _⟩ ?_
 rintro⟨i,out⟩ ⟨hi,hout,hok,hol⟩
 have hi:i≤l.length:=hi
 have hout:out=(l.take i).foldl insW []:=hout
 have hok:∀ g∈out,Fit g∧g.kind=1:=hok
 have hol:out.length≤i:=hol
 refine ev_sound ctx (own:=[46]) _ _ _ ?_
 refine⟨fun h=>?_,fun h=>?_⟩
 rotate_left
 ·have hge:l.length≤i:=geOf (by rw[←rows_len];exact h)
  rw[List.take_of_length_le hge] at hout
  have:encs out=encs (sortW l):=by rw[hout];rfl
  rw[←this]
  exact TV.le_refl _
 have hlt:i<l.length:=ltOf (by rw[←rows_len l];exact h)
 have hget:=rows_get hlt
 have hmem:l[i]∈l:=List.getElem_mem hlt
 have hff:=hfit _ hmem
 have hwf:=hw _ hmem
 have hnx:insW out l[i]=(l.take (i+1)).foldl insW []:=by rw[List.take_add_one,List.getElem?_eq_getElem hlt,hout,List.foldl_append];rfl
 rw[cellsX_eq] at hget
 generalize l[i]=f at hget hff hwf hnx
 have hin:=insW_ok (P:=fun g=>Fit g∧g.kind=1) hok ⟨hff,hwf⟩
 have hkd:∀ n,(out.getD n w0).kind=1:=fun n=>by
  by_cases hn:n<out.length
  ·simp only[List.getD,List.getElem?_eq_getElem hn,Option.getD_some];exact (hok _ (List.getElem_mem hn)).2
  ·simp only[List.getD,List.getElem?_eq_none (Nat.le_of_not_lt hn),Option.getD_none];rfl
 have hcmp:∀ n,PC Tryz.prog 40 [.agg (cellsX (out.getD n w0)),.agg (cellsX f)] (tI (cmpW (out.getD n w0).text f.text)):=fun n=>by
  have:=rcmp_word (out.getD n w0) f (hkd n) hwf
  rw[f_enc,f_enc] at this;exact this
 have heq:∀ n,PC Tryz.prog 41 [.agg (cellsX (out.getD n w0)),.agg (cellsX f)] (tB (cmpW (out.getD n w0).text f.text==0)):=fun n=>by
  have:=req_word (out.getD n w0) f (hkd n) hwf
  rw[f_enc,f_enc] at this;exact this
 have hat:∀ n:Nat,decide ((n:Int)<((rows out).length:Int))=true→(0:Int)≤(n:Int)∧(rows out)[((n:Nat):Int).toNat]?=some (cellsX (out.getD n w0)):=fun n h=>rows_atX (by
  have:=of_decide_eq_true h
  rw[rows_len] at this;omega)
 have hown:=rown_spec f hff
 rw[f_enc] at hown
 refine Ok.loop (st:=fun n:Nat=>⟨[(5,vi n),(4,vi i),(3,.t (encs out)),(0,.t (encs l))],[]⟩) (R:=fun n=>n≤out.length∧nI f out=n+nI f (out.drop n)) (μ:=fun n=>out.length-n) 0
  (Wk.sub ⟨rfl,rfl,rfl,rfl,trivial⟩ trivial) ⟨Nat.zero_le _,by simp⟩ ?_
 rintro n ⟨hn,hnI⟩
 have hn:n≤out.length:=hn
 have hnI:nI f out=n+nI f (out.drop n):=hnI
 have hcz:=hcmp n
 have hstep:(decide ((n:Int)<((rows out).length:Int))&&decide (cmpW (out.getD n w0).text f.text<0))=true→n<out.length∧nI f out=(n+1)+nI f (out.drop (n+1)):=fun h=>by
  rw[Bool.and_eq_true,rows_len] at h
  have h1:n<out.length:=by have:=of_decide_eq_true h.1;omega
  refine⟨h1,?_⟩
  rw[hnI,List.drop_eq_getElem_cons h1]
  have h2:=h.2
  simp only[List.getD,List.getElem?_eq_getElem h1,Option.getD_some] at h2
  show n+(if decide (cmpW (out[n]).text f.text<0)=true then nI f (out.drop (n+1))+1 else 0)=_
  rw[if_pos h2];omega
 have hstop:(decide ((n:Int)<((rows out).length:Int))&&decide (cmpW (out.getD n w0).text f.text<0))=false→nI f out=n:=fun h=>by
  rw[hnI]
  by_cases h1:n<out.length
  ·rw[rows_len,show decide ((n:Int)<(out.length:Int))=true from decide_eq_true (by omega),Bool.true_and] at h
   simp only[List.getD,List.getElem?_eq_getElem h1,Option.getD_some] at h
   rw[List.drop_eq_getElem_cons h1]
   show n+(if decide (cmpW (out[n]).text f.text<0)=true then nI f (out.drop (n+1))+1 else 0)=_
   rw[if_neg (by rw[h];simp)];omega
  ·rw[List.drop_eq_nil_of_le (by omega)];rfl
 have heqn:=heq n
 have hinsN:nI f out=n→insW out f=if (decide ((n:Int)<(out.length:Int))&&(cmpW (out.getD n w0).text f.text==0))=true then out else out.take n++f::out.drop n:=fun h=>by unfold insW;rw[h]
 refine ev_sound ctx (own:=[46]) _ _ _ ?_
 refine⟨_,fun hG=>hat n hG.2,?_⟩
 refine⟨_,fun _=>hget,?_⟩
 refine⟨rcmp_ent,_,fun _=>hcz,?_⟩
 refine⟨fun h=>?_,fun h=>?_⟩
 ·have hs:=hstep h
  exact⟨trivial,n+1,Wk.sub ⟨slotI (wr1 hs.1 (by simp only[maxLen];omega)),rfl,rfl,rfl,trivial⟩ trivial,hs,by show out.length-(n+1)<out.length-n;omega⟩
 ·have hN:=hstop h
  have hI:=hinsN hN
  refine⟨_,fun hG=>hat n hG.2,?_⟩
  refine⟨_,fun _=>hget,?_⟩
  refine⟨req_ent,_,fun _=>heqn,?_⟩
  refine⟨fun hq=>?_,fun hq=>?_⟩
  ·have hq:(decide ((n:Int)<((rows out).length:Int))&&(cmpW (out.getD n w0).text f.text==0))=true:=hq
   rw[rows_len] at hq
   rw[if_pos hq] at hI
   exact⟨trivial,(i+1,out),Wk.sub ⟨slotI (wr1 hlt hlM),rfl,rfl,trivial⟩ trivial,⟨hlt,by rw[←hnx,hI],hok,Nat.le_succ_of_le hol⟩,dec hlt⟩
  ·have hq:(decide ((n:Int)<((rows out).length:Int))&&(cmpW (out.getD n w0).text f.text==0))=false:=hq
   rw[rows_len] at hq
   rw[if_neg (by rw[hq];simp)] at hI
   refine⟨⟨Int.le_refl _,Int.natCast_nonneg n,by rw[rows_len];omega⟩,?_⟩
   have hA:(((rows out).take ((n:Nat):Int).toNat).drop (Int.toNat 0))=rows (out.take n):=by rw[Int.toNat_natCast,rows_take];rfl
   have hB:(((rows out).take ((rows out).length:Int).toNat).drop ((n:Nat):Int).toNat)=rows (out.drop n):=by rw[Int.toNat_natCast,Int.toNat_natCast,List.take_length];exact rows_drop n out
   have hAl:(((rows out).take ((n:Nat):Int).toNat).drop (Int.toNat 0)).length=n:=by rw[hA,rows_len,List.length_take];omega
   have hBl:(((rows out).take ((rows out).length:Int).toNat).drop ((n:Nat):Int).toNat).length=out.length-n:=by rw[hB,rows_len,List.length_drop]
   have hrow:rows (insW out f)=(([]++rows (out.take n))++[cellsX f])++rows (out.drop n):=by
    rw[hI,rows_map,rows_map,rows_map,List.map_append,List.map_cons,cellsX_eq];simp
   have hslot:∀ A B,A=rows (out.take n)→B=rows (out.drop n)→some (AV.t (.sl 4 ((([]++A)++[[tI f.kind,tI f.num,tS f.text,encs f.kids]])++B)))=some (AV.t (encs (insW out f))):=fun A B h1 h2=>by rw[h1,h2];unfold encs;rw[hrow];rfl
   refine⟨by show (0+(((rows out).take ((n:Nat):Int).toNat).drop (Int.toNat 0)).length)*56≤_;rw[hAl];omega,by show 0+(((rows out).take ((n:Nat):Int).toNat).drop (Int.toNat 0)).length≤maxLen;rw[hAl];simp only[maxLen];omega,?_⟩
   refine⟨_,hget,?_⟩
   refine⟨rown_ent,.inl ⟨_,hown,?_⟩⟩
   refine⟨by show (([]++(((rows out).take ((n:Nat):Int).toNat).drop (Int.toNat 0))).length+1)*56≤_;rw[List.nil_append,hAl];omega,by show ([]++(((rows out).take ((n:Nat):Int).toNat).drop (Int.toNat 0))).length+1≤maxLen;rw[List.nil_append,hAl];simp only[maxLen];omega,?_⟩
   refine⟨⟨Int.natCast_nonneg n,by rw[rows_len];omega,Int.le_refl _⟩,?_⟩
   have hc3:(([]++(((rows out).take ((n:Nat):Int).toNat).drop (Int.toNat 0)))++[[tI f.kind,tI f.num,tS f.text,encs f.kids]]).length=n+1:=by rw[List.length_append,List.nil_append,hAl];rfl
   have h24:((([]++(((rows out).take ((n:Nat):Int).toNat).drop (Int.toNat 0)))++[[tI f.kind,tI f.num,tS f.text,encs f.kids]]).length+(((rows out).take ((rows out).length:Int).toNat).drop ((n:Nat):Int).toNat).length)*56≤140737488355328:=by rw[hc3,hBl];omega
   have hmx:(([]++(((rows out).take ((n:Nat):Int).toNat).drop (Int.toNat 0)))++[[tI f.kind,tI f.num,tS f.text,encs f.kids]]).length+(((rows out).take ((rows out).length:Int).toNat).drop ((n:Nat):Int).toNat).length≤maxLen:=by rw[hc3,hBl];simp only[maxLen];omega
   have hin2:(insW out f).length≤i+1:=by omega
   refine And.intro h24 (And.intro hmx ?_)
   refine And.intro trivial ?_
   refine Exists.intro (i+1,insW out f) ?_
   refine And.intro ?_ (And.intro ⟨hlt,hnx,hin.1,hin2⟩ (dec hlt))
   exact (Wk.frz [46]).trans (Wk.sub ⟨slotI (wr1 hlt hlM),hslot _ _ hA hB,rfl,trivial⟩ trivial)
end
section
def asgF (c:Fm):List Fm :=
 if hEq c sAssign=true then [c.kids.getD 1 w0]
 else if hEq c sHavoc=true then c.kids.drop 1
 else if hEq c sInvoke=true then (c.kids.getD 1 w0).kids
 else []
def rFms (b:Fm):List Fm:=(b.kids.drop 2).flatMap asgF
def rNms (BS:List Fm) (l:List Int):List Fm:=l.flatMap fun i=>rFms (BS.getD i.toNat w0)
def rAsgT (BS:List Fm) (l:List Int):TV:=if (l.all (inB BS.length))=true then .tup [.sl 1 ((sortW (rNms BS l)).map txt),tI 0] else .tup [nilT,tI 1]
structure RsOK (BS:List Fm) (l:List Int):Prop where
 fit:∀ b∈BS,Fit b
 asg:∀ b∈BS,∀ c∈b.kids.drop 2,hEq c sAssign=true→2≤c.kids.length
 hav:∀ b∈BS,∀ c∈b.kids.drop 2,hEq c sHavoc=true→1≤c.kids.length
 inv:∀ b∈BS,∀ c∈b.kids.drop 2,hEq c sInvoke=true→2≤c.kids.length
 word:∀ b∈BS,∀ c∈b.kids.drop 2,∀ w∈asgF c,w.kind=1
 all:(rNms BS l).length≤2000000000000
omit [Gm] in
theorem fit_asg {c:Fm} (h:Fit c):∀ w∈asgF c,Fit w:=by
 cases h with
 | @mk k n t ks hl hb ht hks =>
 intro w hw
 unfold asgF at hw
 split at hw
 ·simp at hw;subst hw;exact fit_getD hks 1
 ·split at hw
  ·exact hks w (List.mem_of_mem_drop hw)
  ·split at hw
   ·have h1:=fit_getD hks 1
    have hw:w∈(ks.getD 1 w0).kids:=hw
    generalize ks.getD 1 w0=q at h1 hw
    cases h1 with
    | mk _ _ _ h2=>exact h2 w hw
   ·cases hw
omit [Gm] in
theorem sortW_len (l:List Fm):(sortW l).length≤l.length:=by
 have key:∀ (l out:List Fm),(l.foldl insW out).length≤out.length+l.length:=by
  intro l
  induction l with
  | nil=>intro out;simp
  | cons f l ih =>
   intro out
   have h1:=(insW_ok (P:=fun _=>True) (out:=out) (f:=f) (fun _ _=>trivial) trivial).2
   have:=ih (insW out f)
   rw[List.foldl_cons,List.length_cons];omega
 have:=key l []
 simpa [sortW] using this
omit [Gm] in
theorem drop_split (bk:List Fm) (j:Nat) (h2:2≤j) (hj:j<bk.length):(bk.take (j+1)).drop 2=(bk.take j).drop 2++[bk[j]]∧∃ r,bk.drop 2=(bk.take (j+1)).drop 2++r:=by
 refine⟨?_,bk.drop (j+1),?_⟩
 ·rw[List.take_add_one,List.getElem?_eq_getElem hj,List.drop_append_of_le_length (by rw[List.length_take];omega)];rfl
 ·rw[←List.drop_append_of_le_length (by rw[List.length_take];omega),List.take_append_drop]
theorem rAsg_ent:Ent Tryz.prog 9:=fun a w=>Tryz.call9 a w
theorem rAsg_bad (cs:List TV) (hc:cs.length=4) (l:TV) (e:Int) (he:e≠0) (hsu:PC Tryz.prog 17 [.agg cs] (.tup [nilT,tI e])):PC Tryz.prog 9 [.agg cs,l] (.tup [nilT,tI 1]):=by
 match cs,hc with
 | [x1,x2,x3,x4],_ =>
 refine PC.of_ok tok Tryz.func9 rfl (Nat.le_of_ble_eq_true rfl) (ev_sound ctx (own:=[]) _ _ _ ?_)
 refine⟨rSucc_ent,.inl ⟨_,hsu,?_⟩⟩
 refine⟨fun _=>?_,fun h=>?_⟩
 ·exact rfl
 ·have h:(e != 0)=false:=h
  exact absurd (by simpa using h) he
theorem rAsg_good (k n:Int) (t:ByteArray) (ks:List Fm) (hks:ks.length≤1000000) (g:Gr) (hgB:g.length=(blksOf ks).length) (l:List Int) (hB:RsOK (blksOf ks) l)
  (hsu:PC Tryz.prog 17 [(Fm.mk k n t ks).enc] (.tup [encG g,tI 0])):PC Tryz.prog 9 [(Fm.mk k n t ks).enc,.sl 1 (l.map fun n=>[tI n])] (rAsgT (blksOf ks) l):=by
 refine PC.have (fun w F us h=>(relL_tail h).elim fun _ h=>sl_len0 h) fun hl=>?_
 have hl:l.length≤maxLen:=by rw[List.length_map] at hl;exact hl
 have hksM:ks.length≤maxLen:=by simp only[maxLen];omega
 have hgl:((g.map fun l=>[encN l]).length:Int)=((blksOf ks).length:Int):=by rw[List.length_map,hgB]
 have hT1:(l.all (inB (blksOf ks).length))=true→rAsgT (blksOf ks) l=.tup [.sl 1 ((sortW (rNms (blksOf ks) l)).map txt),tI 0]:=fun h=>by unfold rAsgT;rw[if_pos h]
 have hT2:(l.all (inB (blksOf ks).length))=false→rAsgT (blksOf ks) l=.tup [nilT,tI 1]:=fun h=>by unfold rAsgT;rw[if_neg (by rw[h];simp)]
 generalize rAsgT (blksOf ks) l=T at hT1 hT2
 refine PC.of_ok tok Tryz.func9 rfl (Nat.le_of_ble_eq_true rfl) (ev_sound ctx (own:=[44,117,133]) _ _ _ ?_)
 refine⟨rSucc_ent,.inl ⟨_,hsu,?_⟩⟩
 refine⟨fun h=>absurd h (by decide),fun _=>?_⟩
 refine Ok.loop (st:=fun i:Nat=>⟨[(9,vi i),(8,.sl 44),(6,.t (encG g)),(2,.ptr 2 0),(1,.t (.sl 1 (l.map fun n=>[tI n])))],[(44,.row 24 4 (rows (blksOf (ks.take i)))),(2,.var [.t (tI k),.t (tI n),.t (tS t),.t (encs ks)])]⟩)
  (R:=fun i=>i≤ks.length) (μ:=fun i=>ks.length-i) 0
  ((Wk.nil 8 44 24 4 (by decide) rfl).trans (Wk.sub ⟨rfl,rfl,rfl,rfl,rfl,trivial⟩ ⟨rfl,rfl,trivial⟩)) (Nat.zero_le _) ?_
 rintro i hi
 have hi:i≤ks.length:=hi
 refine ev_sound ctx (own:=[44,117,133]) _ _ _ ?_
 refine⟨fun h=>?_,fun h=>?_⟩
 ·have hlt:i<ks.length:=ltOf (by rw[←rows_len ks];exact h)
  have hget:=rows_get hlt
  have htk:ks.take (i+1)=ks.take i++[ks[i]]:=by rw[List.take_add_one,List.getElem?_eq_getElem hlt];rfl
  rw[cellsX_eq] at hget
  have hno:hEq ks[i] sBlock=false→rows (blksOf (ks.take i))=rows (blksOf (ks.take (i+1))):=fun h=>by
   rw[htk];unfold blksOf
   rw[List.filter_append,List.filter_cons_of_neg (p:=fun c=>hEq c sBlock) (by rw[h];simp)];simp
  have hyes:hEq ks[i] sBlock=true→rows (blksOf (ks.take i))++[cellsX ks[i]]=rows (blksOf (ks.take (i+1))):=fun h=>by
   rw[htk];unfold blksOf
   rw[List.filter_append,List.filter_cons_of_pos (p:=fun c=>hEq c sBlock) h]
   simp[rows_map,cellsX_eq]
  have hbl:(rows (blksOf (ks.take i))).length≤i:=by
   rw[rows_len]
   have h1:(blksOf (ks.take i)).length≤(ks.take i).length:=List.length_filter_le _ _
   rw[List.length_take] at h1;omega
  have hhd:=rhead_spec ks[i]
  rw[f_enc] at hhd
  have hE:hEq ks[i] sBlock=((headOf ks[i]).toList==sBlock.toList):=rfl
  rw[hE] at hno hyes
  generalize headOf ks[i]=hd at hhd hno hyes
  generalize ks[i]=c at hget hyes hhd
  refine⟨_,hget,?_⟩
  refine⟨rhead_ent,.inl ⟨_,hhd,?_⟩⟩
  refine⟨fun hq=>?_,fun hq=>?_⟩
  ·have hr:some (AO.row 24 4 (rows (blksOf (ks.take i))++[cellsX c]))=some (AO.row 24 4 (rows (blksOf (ks.take (i+1))))):=by rw[hyes hq]
   refine⟨_,hget,?_⟩
   exact⟨by show ((rows (blksOf (ks.take i))).length+1)*56≤_;omega,by show (rows (blksOf (ks.take i))).length+1≤maxLen;simp only[maxLen];omega,trivial,i+1,Wk.sub ⟨slotI (wr1 hlt hksM),rfl,rfl,rfl,rfl,trivial⟩ ⟨hr,rfl,trivial⟩,hlt,dec hlt⟩
  ·exact⟨trivial,i+1,Wk.sub ⟨slotI (wr1 hlt hksM),rfl,rfl,rfl,rfl,trivial⟩ ⟨congrArg (fun x=>some (AO.row 24 4 x)) (hno hq),rfl,trivial⟩,hlt,dec hlt⟩
 ·have hge:ks.length≤i:=geOf (by rw[←rows_len];exact h)
  have htkl:ks.take i=ks:=List.take_of_length_le hge
  rw[htkl]
  generalize blksOf ks=BS at hgl hT1 hT2 hB
  have hrB:((rows BS).length:Int)=(BS.length:Int):=by rw[rows_len]
  refine Ok.loop (st:=fun x:Nat×List Fm=>⟨[(11,vi x.1),(10,.sl 117),(8,.t (encs BS)),(6,.t (encG g)),(1,.t (.sl 1 (l.map fun n=>[tI n])))],[(117,.row 24 4 (rows x.2))]⟩)
   (R:=fun x=>x.1≤l.length∧x.2++rNms BS (l.drop x.1)=rNms BS l∧(l.take x.1).all (inB BS.length)=true∧∀ w∈x.2,Fit w∧w.kind=1) (μ:=fun x=>l.length-x.1) (0,[])
   ((Wk.frz [44]).trans ((Wk.nil 10 117 24 4 (by decide) rfl).trans (Wk.sub ⟨rfl,rfl,rfl,rfl,rfl,trivial⟩ ⟨rfl,trivial⟩))) ⟨Nat.zero_le _,rfl,rfl,fun w h=>by cases h⟩ ?_
  rintro⟨i,acc⟩ ⟨hi,hacc,hall,hok⟩
  have hi:i≤l.length:=hi
  have hacc:acc++rNms BS (l.drop i)=rNms BS l:=hacc
  have hall:(l.take i).all (inB BS.length)=true:=hall
  have hok:∀ w∈acc,Fit w∧w.kind=1:=hok
  have haccl:acc.length≤2000000000000:=by
   have:=congrArg List.length hacc
   rw[List.length_append] at this
   have:=hB.all;omega
  have hml:((l.map fun n=>[tI n]).length:Int)=(l.length:Int):=by rw[List.length_map]
  refine ev_sound ctx (own:=[44,117,133]) _ _ _ ?_
  refine⟨fun h=>?_,fun h=>?_⟩
  ·have hlt:i<l.length:=ltOf (by rw[←hml];exact h)
   have hget:(0:Int)≤(i:Int)∧(l.map fun n=>[tI n])[((i:Nat):Int).toNat]?=some [tI l[i]]:=getM hlt
   have hmem:l[i]∈l:=List.getElem_mem hlt
   rw[List.drop_eq_getElem_cons hlt] at hacc
   have htk:l.take (i+1)=l.take i++[l[i]]:=by rw[List.take_add_one,List.getElem?_eq_getElem hlt];rfl
   generalize l[i]=x at hget hmem hacc htk
   refine⟨_,hget,?_⟩
   refine⟨_,fun _=>hget,?_⟩
   refine⟨fun h1=>?_,fun h1=>?_⟩
   ·have h1:(decide (x<0)||decide (x≥((g.map fun l=>[encN l]).length:Int)))=true:=h1
    have h2:inB BS.length x=false:=by rw[hgl] at h1;unfold inB;rw[h1];rfl
    have h3:l.all (inB BS.length)=false:=by
     cases hq:l.all (inB BS.length) with
     | false=>rfl
     | true=>exact absurd (List.all_eq_true.1 hq x hmem) (by rw[h2];simp)
    exact toEq (hT2 h3).symm
   ·have h1:(decide (x<0)||decide (x≥((g.map fun l=>[encN l]).length:Int)))=false:=h1
    have h2:inB BS.length x=true:=by rw[hgl] at h1;unfold inB;rw[h1];rfl
    have h0:0≤x∧x.toNat<BS.length:=by
     unfold inB at h2
     simp at h2
     omega
    have hgb:(0:Int)≤x∧(rows BS)[x.toNat]?=some (cellsX (BS.getD x.toNat w0)):=by
     have:=rows_atX (ks:=BS) (n:=x.toNat) h0.2
     rw[show ((x.toNat:Nat):Int)=x by omega] at this;exact this
    have hbm:BS.getD x.toNat w0∈BS:=by simp only[List.getD,List.getElem?_eq_getElem h0.2,Option.getD_some];exact List.getElem_mem _
    have hacc:acc++(rFms (BS.getD x.toNat w0)++rNms BS (l.drop (i+1)))=rNms BS l:=hacc
    have hbf:=hB.fit _ hbm
    have hb1:=hB.asg _ hbm
    have hb2:=hB.hav _ hbm
    have hb3:=hB.inv _ hbm
    have hb4:=hB.word _ hbm
    have hrf:rFms (BS.getD x.toNat w0)=((BS.getD x.toNat w0).kids.drop 2).flatMap asgF:=rfl
    have hcx:cellsX (BS.getD x.toNat w0)=[tI (BS.getD x.toNat w0).kind,tI (BS.getD x.toNat w0).num,tS (BS.getD x.toNat w0).text,encs (BS.getD x.toNat w0).kids]:=rfl
    rw[hcx] at hgb
    have hbkf:∀ c∈(BS.getD x.toNat w0).kids,Fit c:=by
     generalize BS.getD x.toNat w0=q at hbf
     cases hbf with
     | mk _ _ _ hq=>exact hq
    have hbkl:(BS.getD x.toNat w0).kids.length≤maxLen:=by
     generalize BS.getD x.toNat w0=q at hbf
     cases hbf with
     | mk hq _ _ _=>exact hq
    have hbl:(acc++((BS.getD x.toNat w0).kids.drop 2).flatMap asgF).length≤2000000000000:=by
     have:=congrArg List.length hacc
     rw[List.length_append,List.length_append,hrf] at this
     have:=hB.all
     rw[List.length_append];omega
    refine⟨_,hget,?_⟩
    refine⟨_,hgb,?_⟩
    rw[hrf] at hacc
    refine Ok.loop (st:=fun y:Nat×List Fm=>⟨[(13,vi y.1),(12,.t (encs (BS.getD x.toNat w0).kids)),(11,vi i),(10,.sl 117),(8,.t (encs BS)),(6,.t (encG g)),(1,.t (.sl 1 (l.map fun n=>[tI n])))],[(117,.row 24 4 (rows y.2))]⟩)
     (R:=fun y=>2≤y.1∧y.2=acc++(((BS.getD x.toNat w0).kids.take y.1).drop 2).flatMap asgF∧∀ w∈y.2,Fit w∧w.kind=1) (μ:=fun y=>(BS.getD x.toNat w0).kids.length-y.1) (2,acc)
     (Wk.sub ⟨rfl,rfl,rfl,rfl,rfl,rfl,rfl,trivial⟩ ⟨rfl,trivial⟩) ⟨Nat.le_refl _,by
      have:((BS.getD x.toNat w0).kids.take 2).drop 2=[]:=List.drop_eq_nil_of_le (by rw[List.length_take];omega)
      show acc=acc++(((BS.getD x.toNat w0).kids.take 2).drop 2).flatMap asgF
      rw[this];simp,hok⟩ ?_
    clear hgb hcx hrf hbm hbf
    generalize (BS.getD x.toNat w0).kids=bk at hacc hb1 hb2 hb3 hb4 hbkf hbkl hbl
    rintro⟨j,A⟩ ⟨hj2,hA,hokA⟩
    have hj2:2≤j:=hj2
    have hA:A=acc++((bk.take j).drop 2).flatMap asgF:=hA
    have hokA:∀ w∈A,Fit w∧w.kind=1:=hokA
    by_cases hlj:j<bk.length
    ·have hgc:=rows_get hlj
     have hds:=drop_split bk j hj2 hlj
     have hmc:bk[j]∈bk.drop 2:=by
      obtain⟨r,hr⟩:=hds.2
      rw[hr,hds.1];simp
     have hfc:=hbkf _ (List.mem_of_mem_drop hmc)
     have hc1:=hb1 _ hmc
     have hc2:=hb2 _ hmc
     have hc3:=hb3 _ hmc
     have hc4:=hb4 _ hmc
     have hfa:=fit_asg hfc
     have hA2:A++asgF bk[j]=acc++((bk.take (j+1)).drop 2).flatMap asgF:=by rw[hds.1,List.flatMap_append,hA];simp
     have hA3:(A++asgF bk[j]).length≤2000000000000:=by
      obtain⟨r,hr⟩:=hds.2
      rw[hr,List.flatMap_append,←List.append_assoc,←hA2,List.length_append] at hbl
      omega
     have hok2:∀ w∈A++asgF bk[j],Fit w∧w.kind=1:=fun w hw=>by
      rcases List.mem_append.1 hw with h | h
      ·exact hokA w h
      ·exact⟨hfa w h,hc4 w h⟩
     rw[cellsX_eq] at hgc
     clear hds hmc
     generalize bk[j]=c at hgc hfc hc1 hc2 hc3 hA2 hA3 hok2
     have hhd:=rhead_spec c
     rw[f_enc] at hhd
     have hE:∀ s,hEq c s=((headOf c).toList==s.toList):=fun _=>rfl
     have han:asgF c=(if hEq c sAssign=true then [c.kids.getD 1 w0]
      else if hEq c sHavoc=true then c.kids.drop 1
      else if hEq c sInvoke=true then (c.kids.getD 1 w0).kids
      else []):=rfl
     generalize asgF c=N at han hA2 hA3 hok2
     generalize hEq c=H at hE han hc1 hc2 hc3
     generalize headOf c=hd at hhd hE
     have hrows:∀ X,X=rows N→some (AO.row 24 4 (rows A++X))=some (AO.row 24 4 (rows (A++N))):=fun X h=>by rw[h,rows_map,rows_map,rows_map,List.map_append]
     have hrl:(rows A).length=A.length:=rows_len A
     have hNl:A.length+N.length≤2000000000000:=by rw[List.length_append] at hA3;exact hA3
     cases hfc with
     | @mk k' n' t' ks' hl' hb' ht' hks' =>
     have hc1:H sAssign=true→2≤ks'.length:=hc1
     have hc2:H sHavoc=true→1≤ks'.length:=hc2
     have hc3:H sInvoke=true→2≤ks'.length:=hc3
     have han:N=(if H sAssign=true then [ks'.getD 1 w0] else if H sHavoc=true then ks'.drop 1 else if H sInvoke=true then (ks'.getD 1 w0).kids else []):=han
     have hat:∀ n,n<ks'.length→(0:Int)≤(n:Int)∧(rows ks')[((n:Nat):Int).toNat]?=some (cellsX (ks'.getD n w0)):=fun n h=>rows_atX h
     have hjd:decide ((j:Int)<((rows bk).length:Int))=true:=by rw[rows_len];exact decide_eq_true (by omega)
     refine ev_sound ctx (own:=[44,117,133]) _ _ _ ?_
     refine⟨fun _=>?_,fun hx=>Bool.noConfusion (hjd.symm.trans hx)⟩
     refine⟨_,hgc,?_⟩
     refine⟨rhead_ent,.inl ⟨_,hhd,?_⟩⟩
     refine⟨fun hq=>?_,fun hq=>?_⟩
     ·have h1:H sAssign=true:=by rw[hE];exact hq
      rw[if_pos h1] at han
      have hkk:=hc1 h1
      have hX:[cellsX (ks'.getD 1 w0)]=rows N:=by rw[han,←cellsX_eq];rfl
      have hnl:(rows A).length+[cellsX (ks'.getD 1 w0)].length=A.length+N.length:=by rw[hX,rows_len,rows_len]
      refine⟨_,hgc,?_⟩
      refine⟨_,hat 1 (by omega),?_⟩
      refine And.intro (by show ((rows A).length+[cellsX (ks'.getD 1 w0)].length)*56≤_;rw[hnl];omega) (And.intro (by show (rows A).length+[cellsX (ks'.getD 1 w0)].length≤maxLen;rw[hnl];simp only[maxLen];omega) ?_)
      exact⟨trivial,(j+1,A++N),Wk.sub ⟨slotI (wr1 hlj hbkl),rfl,rfl,rfl,rfl,rfl,rfl,trivial⟩ ⟨hrows _ hX,trivial⟩,⟨by show 2≤j+1;omega,hA2,hok2⟩,dec hlj⟩
     have f1:¬ H sAssign=true:=by rw[hE,show (hd.toList==sAssign.toList)=false from hq];simp
     rw[if_neg f1] at han
     refine⟨fun hq=>?_,fun hq=>?_⟩
     ·have h1:H sHavoc=true:=by rw[hE];exact hq
      rw[if_pos h1] at han
      have hkk:=hc2 h1
      have hX:((rows ks').take ((rows ks').length:Int).toNat).drop (Int.toNat 1)=rows N:=by rw[han,Int.toNat_natCast,List.take_length];exact rows_drop 1 ks'
      have hnl:(rows A).length+(((rows ks').take ((rows ks').length:Int).toNat).drop (Int.toNat 1)).length=A.length+N.length:=by rw[hX,rows_len,rows_len]
      refine⟨_,hgc,?_⟩
      refine⟨⟨by decide,by show (1:Int)≤((rows ks').length:Int);rw[rows_len];omega,Int.le_refl _⟩,?_⟩
      refine And.intro (by show ((rows A).length+(((rows ks').take ((rows ks').length:Int).toNat).drop (Int.toNat 1)).length)*56≤_;rw[hnl];omega) (And.intro (by show (rows A).length+(((rows ks').take ((rows ks').length:Int).toNat).drop (Int.toNat 1)).length≤maxLen;rw[hnl];simp only[maxLen];omega) ?_)
      exact⟨trivial,(j+1,A++N),Wk.sub ⟨slotI (wr1 hlj hbkl),rfl,rfl,rfl,rfl,rfl,rfl,trivial⟩ ⟨hrows _ hX,trivial⟩,⟨by show 2≤j+1;omega,hA2,hok2⟩,dec hlj⟩
     have f2:¬ H sHavoc=true:=by rw[hE,show (hd.toList==sHavoc.toList)=false from hq];simp
     rw[if_neg f2] at han
     refine⟨fun hq=>?_,fun hq=>?_⟩
     ·have h1:H sInvoke=true:=by rw[hE];exact hq
      rw[if_pos h1] at han
      have hkk:=hc3 h1
      have hX:rows (ks'.getD 1 w0).kids=rows N:=by rw[han]
      have hnl:(rows A).length+(rows (ks'.getD 1 w0).kids).length=A.length+N.length:=by rw[hX,rows_len,rows_len]
      refine⟨_,hgc,?_⟩
      refine⟨_,hat 1 (by omega),?_⟩
      refine And.intro (by show ((rows A).length+(rows (ks'.getD 1 w0).kids).length)*56≤_;rw[hnl];omega) (And.intro (by show (rows A).length+(rows (ks'.getD 1 w0).kids).length≤maxLen;rw[hnl];simp only[maxLen];omega) ?_)
      exact⟨trivial,(j+1,A++N),Wk.sub ⟨slotI (wr1 hlj hbkl),rfl,rfl,rfl,rfl,rfl,rfl,trivial⟩ ⟨hrows _ hX,trivial⟩,⟨by show 2≤j+1;omega,hA2,hok2⟩,dec hlj⟩
     have f3:¬ H sInvoke=true:=by rw[hE,show (hd.toList==sInvoke.toList)=false from hq];simp
     rw[if_neg f3] at han
     have hAN:A++N=A:=by rw[han,List.append_nil]
     rw[hAN] at hA2 hok2
     exact⟨trivial,(j+1,A),Wk.sub ⟨slotI (wr1 hlj hbkl),rfl,rfl,rfl,rfl,rfl,rfl,trivial⟩ ⟨rfl,trivial⟩,⟨by show 2≤j+1;omega,hA2,hok2⟩,dec hlj⟩
    ·refine ev_sound ctx (own:=[44,117,133]) _ _ _ ?_
     refine⟨fun hx=>absurd (ltOf (by rw[←rows_len bk];exact hx)) hlj,fun hx=>?_⟩
     have htb:bk.take j=bk:=List.take_of_length_le (by omega)
     rw[htb] at hA
     have hfin:A++rNms BS (l.drop (i+1))=rNms BS l:=by rw[hA,List.append_assoc];exact hacc
     exact⟨trivial,(i+1,A),Wk.sub ⟨slotI (wr1 hlt hl),rfl,rfl,rfl,rfl,trivial⟩ ⟨rfl,trivial⟩,⟨hlt,hfin,by rw[htk,List.all_append,hall];simp[h2],hokA⟩,dec hlt⟩
  ·have hge:l.length≤i:=geOf (by rw[←hml];exact h)
   rw[List.drop_eq_nil_of_le hge] at hacc
   rw[List.take_of_length_le hge] at hall
   have hacc:acc=rNms BS l:=by rw[←hacc];exact (List.append_nil acc).symm
   have hT:=hT1 hall
   rw[←hacc] at hT
   have hst:=rsort_spec acc haccl (fun w h=>(hok w h).1) (fun w h=>(hok w h).2)
   have hsl:(sortW acc).length≤2000000000000:=Nat.le_trans (sortW_len acc) haccl
   generalize sortW acc=Z at hst hT hsl
   refine .inl ⟨rsort_ent,.inl ⟨_,hst,?_⟩⟩
   refine Ok.loop (st:=fun j:Nat=>⟨[(15,vi j),(14,.sl 133),(10,.t (encs Z))],[(133,.row 9 1 ((Z.take j).map txt))]⟩) (R:=fun j=>j≤Z.length) (μ:=fun j=>Z.length-j) 0
    ((Wk.nil 14 133 9 1 (by decide) rfl).trans (Wk.sub ⟨rfl,rfl,rfl,trivial⟩ ⟨rfl,trivial⟩)) (Nat.zero_le _) ?_
   rintro j hj
   have hj:j≤Z.length:=hj
   refine ev_sound ctx (own:=[44,117,133]) _ _ _ ?_
   refine⟨fun hx=>?_,fun hx=>?_⟩
   ·have hlt:j<Z.length:=ltOf (by rw[←rows_len Z];exact hx)
    have hget:=rows_get hlt
    have htk:Z.take (j+1)=Z.take j++[Z[j]]:=by rw[List.take_add_one,List.getElem?_eq_getElem hlt];rfl
    have hrow:some (AO.row 9 1 ((Z.take j).map txt++[[tS Z[j].text]]))=some (AO.row 9 1 ((Z.take (j+1)).map txt)):=by rw[htk,List.map_append];rfl
    have hln:((Z.take j).map txt).length=j:=by rw[List.length_map,List.length_take];omega
    rw[cellsX_eq] at hget
    refine⟨_,hget,?_⟩
    exact⟨by show (((Z.take j).map txt).length+1)*16≤_;rw[hln];omega,by show ((Z.take j).map txt).length+1≤maxLen;rw[hln];simp only[maxLen];omega,trivial,j+1,Wk.sub ⟨slotI (wr1 hlt (by simp only[maxLen];omega)),rfl,rfl,trivial⟩ ⟨hrow,trivial⟩,hlt,dec hlt⟩
   ·have hge:Z.length≤j:=geOf (by rw[←rows_len];exact hx)
    refine toEq ?_
    rw[hT,List.take_of_length_le hge];rfl
end
section
def cz (n:Int):List TV:=[tI n]
def encI (R:List (List Int)):TV:=.sl 1 (R.map fun r=>[.sl 1 (r.map cz)])
def posI (n:Int):Bool:=!decide (n<0)
def grT (R:List (List Int)):TV:=if (R.all fun r=>r.all posI)=true then .tup [encI R,tI 0] else .tup [nilT,tI 6]
theorem graph_ent:Ent Tryz.prog 37:=fun a w=>Tryz.call37 a w
theorem read_ent:Ent Tryz.prog 63:=fun a w=>Tryz.call63 a w
theorem graph_bad (cs:List TV) (hc:cs.length=4) (ps:List TV) (hp:ps.length=8) (hrd:PC Tryz.prog 63 [.agg cs] (.tup [.agg ps,tB false])):PC Tryz.prog 37 [.agg cs] (.tup [nilT,tI 4]):=by
 match cs,hc,ps,hp with
 | [x1,x2,x3,x4],_,[y1,y2,y3,y4,y5,y6,y7,y8],_ =>
 refine PC.of_ok tok Tryz.func37 rfl (Nat.le_of_ble_eq_true rfl) (ev_sound ctx (own:=[]) _ _ _ ?_)
 refine⟨read_ent,.inl ⟨_,hrd,?_⟩⟩
 refine⟨fun _=>?_,fun h=>absurd h (by decide)⟩
 exact rfl
theorem graph_good (cs:List TV) (hc:cs.length=4) (ps:List TV) (hp:ps.length=8) (R:List (List Int)) (hR:R.length≤maxLen) (hRl:∀ r∈R,r.length≤maxLen) (hrd:PC Tryz.prog 63 [.agg cs] (.tup [.agg ps,tB true])) (hsc:PC Tryz.prog 64 [.agg ps] (encI R)) :
  PC Tryz.prog 37 [.agg cs] (grT R):=by
 have hT1:(R.all fun r=>r.all posI)=true→grT R=.tup [encI R,tI 0]:=fun h=>by unfold grT;rw[if_pos h]
 have hT2:(R.all fun r=>r.all posI)=false→grT R=.tup [nilT,tI 6]:=fun h=>by unfold grT;rw[if_neg (by rw[h];simp)]
 generalize grT R=T at hT1 hT2
 have hRm:((R.map fun r=>[TV.sl 1 (r.map cz)]).length:Int)=(R.length:Int):=by rw[List.length_map]
 match cs,hc,ps,hp with
 | [x1,x2,x3,x4],_,[y1,y2,y3,y4,y5,y6,y7,y8],_ =>
 refine PC.of_ok tok Tryz.func37 rfl (Nat.le_of_ble_eq_true rfl) (ev_sound ctx (own:=[]) _ _ _ ?_)
 refine⟨read_ent,.inl ⟨_,hrd,?_⟩⟩
 refine⟨fun h=>absurd h (by decide),fun _=>?_⟩
 refine⟨rsucc_ent,.inl ⟨_,hsc,?_⟩⟩
 refine Ok.loop (st:=fun i:Nat=>⟨[(7,vi i),(6,.t (encI R))],[]⟩) (R:=fun i=>i≤R.length∧(R.take i).all (fun r=>r.all posI)=true) (μ:=fun i=>R.length-i) 0 (Wk.sub ⟨rfl,rfl,trivial⟩ trivial) ⟨Nat.zero_le _,rfl⟩ ?_
 rintro i ⟨hi,hall⟩
 have hi:i≤R.length:=hi
 have hall:(R.take i).all (fun r=>r.all posI)=true:=hall
 refine ev_sound ctx (own:=[]) _ _ _ ?_
 refine⟨fun hx=>?_,fun hx=>?_⟩
 rotate_left
 ·have hge:R.length≤i:=geOf (by rw[←hRm];exact hx)
  rw[List.take_of_length_le hge] at hall
  exact toEq (hT1 hall).symm
 have hlt:i<R.length:=ltOf (by rw[←hRm];exact hx)
 have hget:(0:Int)≤(i:Int)∧(R.map fun r=>[TV.sl 1 (r.map cz)])[((i:Nat):Int).toNat]?=some [TV.sl 1 (R[i].map cz)]:=getM hlt
 have hmem:R[i]∈R:=List.getElem_mem hlt
 have hrl:=hRl _ hmem
 have htk:R.take (i+1)=R.take i++[R[i]]:=by rw[List.take_add_one,List.getElem?_eq_getElem hlt];rfl
 generalize R[i]=r at hget hmem hrl htk
 have hrm:((r.map cz).length:Int)=(r.length:Int):=by rw[List.length_map]
 refine Ok.loop (st:=fun j:Nat=>⟨[(8,vi j),(7,vi i),(6,.t (encI R))],[]⟩) (R:=fun j=>j≤r.length∧(r.take j).all posI=true) (μ:=fun j=>r.length-j) 0 (Wk.sub ⟨rfl,rfl,rfl,trivial⟩ trivial) ⟨Nat.zero_le _,rfl⟩ ?_
 rintro j ⟨hj,hjall⟩
 have hj:j≤r.length:=hj
 have hjall:(r.take j).all posI=true:=hjall
 by_cases hlj:j<r.length
 ·have hgj:(0:Int)≤(j:Int)∧(r.map cz)[((j:Nat):Int).toNat]?=some (cz r[j]):=getM hlj
  have hmj:r[j]∈r:=List.getElem_mem hlj
  have htj:r.take (j+1)=r.take j++[r[j]]:=by rw[List.take_add_one,List.getElem?_eq_getElem hlj];rfl
  generalize r[j]=z at hgj hmj htj
  have hjd:decide ((j:Int)<((r.map cz).length:Int))=true:=by rw[hrm];exact decide_eq_true (by omega)
  have hbad:z<0→T=.tup [nilT,tI 6]:=fun h=>hT2 (by
   cases hq:R.all fun r=>r.all posI with
   | false=>rfl
   | true =>
    have:=List.all_eq_true.1 (List.all_eq_true.1 hq r hmem) z hmj
    unfold posI at this
    rw[decide_eq_true h] at this;cases this)
  have hgood:¬ z<0→(r.take (j+1)).all posI=true:=fun h=>by
   rw[htj,List.all_append,hjall]
   simp[posI,h]
  refine ev_sound ctx (own:=[]) _ _ _ ?_
  refine⟨_,hget,?_⟩
  refine⟨fun _=>?_,fun hx=>Bool.noConfusion (hjd.symm.trans hx)⟩
  refine⟨_,hget,?_⟩
  refine⟨_,hgj,?_⟩
  refine⟨fun h=>toEq (hbad (of_decide_eq_true h)).symm,fun h=>?_⟩
  exact⟨trivial,j+1,Wk.sub ⟨slotI (wr1 hlj hrl),rfl,rfl,trivial⟩ trivial,⟨hlj,hgood (of_decide_eq_false h)⟩,dec hlj⟩
 ·have hnx:(R.take (i+1)).all (fun r=>r.all posI)=true:=by
   rw[List.take_of_length_le (by omega)] at hjall
   rw[htk,List.all_append,hall]
   simp only[List.all_cons,List.all_nil,Bool.true_and,Bool.and_true]
   exact hjall
  refine ev_sound ctx (own:=[]) _ _ _ ?_
  refine⟨_,hget,?_⟩
  refine⟨fun hx=>absurd (ltOf (by rw[←hrm];exact hx)) hlj,fun hx=>?_⟩
  exact⟨trivial,i+1,Wk.sub ⟨slotI (wr1 hlt hR),rfl,trivial⟩ trivial,⟨hlt,hnx⟩,dec hlt⟩
theorem rsucc_of (cs:List TV) (hc:cs.length=4) (x y:TV) (h:PC Tryz.prog 37 [.agg cs] (.tup [x,y])):PC Tryz.prog 17 [.agg cs] (.tup [x,y]):=by
 match cs,hc with
 | [x1,x2,x3,x4],_ =>
 refine PC.of_ok tok Tryz.func17 rfl (Nat.le_of_ble_eq_true rfl) (ev_sound ctx (own:=[]) _ _ _ ?_)
 refine⟨graph_ent,.inl ⟨_,h,?_⟩⟩
 exact rfl
end
section
def cw (s:ByteArray):List TV:=[tS s]
theorem sane_ent:Ent Tryz.prog 5:=fun a w=>Tryz.call5 a w
theorem law_big (cs:List TV) (hc:cs.length=4) (k:Int) (l:TV) (z:Int) (hz:decide (z>800)=true) (hsz:PC Tryz.prog 4 [.agg cs] (tI z)) (hs:PC Tryz.prog 5 [] (tB true)):PC Tryz.prog 3 [.agg cs,tI k,l] (tB true):=by
 match cs,hc with
 | [x1,x2,x3,x4],_ =>
 refine PC.of_ok tok Tryz.func3 rfl (Nat.le_of_ble_eq_true rfl) (ev_sound ctx (own:=[]) _ _ _ ?_)
 refine⟨size_ent,.inl ⟨_,hsz,?_⟩⟩
 refine⟨fun _=>?_,fun h=>Bool.noConfusion (hz.symm.trans h)⟩
 refine⟨sane_ent,.inl ⟨_,hs,?_⟩⟩
 exact rfl
theorem law_small (cs:List TV) (hc:cs.length=4) (k:Int) (l:TV) (z:Int) (hz:decide (z>800)=false) (hsz:PC Tryz.prog 4 [.agg cs] (tI z)) (hs:PC Tryz.prog 5 [] (tB true))
  (A:List Nat) (hA:A.length≤maxLen) (B:List ByteArray) (hB:B.length≤maxLen) (b:Bool) (e1 e2 e3:Int)
  (h6:PC Tryz.prog 6 [.agg cs,tI k] (.tup [encN A,tI e1])) (h7:PC Tryz.prog 7 [.agg cs,tI k] (.tup [encN A,tI e1]))
  (h8:PC Tryz.prog 8 [.agg cs,l] (.tup [.sl 1 (B.map cw),tI e2])) (h9:PC Tryz.prog 9 [.agg cs,l] (.tup [.sl 1 (B.map cw),tI e2]))
  (h10:PC Tryz.prog 10 [.agg cs] (.tup [tB b,tI e3])) (h11:PC Tryz.prog 11 [.agg cs] (.tup [tB b,tI e3])):PC Tryz.prog 3 [.agg cs,tI k,l] (tB true):=by
 have hAm:((A.map cI).length:Int)=(A.length:Int):=by rw[List.length_map]
 have hBm:((B.map cw).length:Int)=(B.length:Int):=by rw[List.length_map]
 match cs,hc with
 | [x1,x2,x3,x4],_ =>
 refine PC.of_ok tok Tryz.func3 rfl (Nat.le_of_ble_eq_true rfl) (ev_sound ctx (own:=[]) _ _ _ ?_)
 refine⟨size_ent,.inl ⟨_,hsz,?_⟩⟩
 refine⟨fun h=>Bool.noConfusion (hz.symm.trans h),fun _=>?_⟩
 refine⟨uLoop_ent,.inl ⟨_,h6,?_⟩⟩
 refine⟨rLoop_ent,.inl ⟨_,h7,?_⟩⟩
 refine⟨uAsg_ent,.inl ⟨_,h8,?_⟩⟩
 refine⟨rAsg_ent,.inl ⟨_,h9,?_⟩⟩
 refine⟨uAcyc_ent,.inl ⟨_,h10,?_⟩⟩
 refine⟨rAcyc_ent,.inl ⟨_,h11,?_⟩⟩
 have hcond:((((((e1 != e1)||(((A.map cI).length:Int) != ((A.map cI).length:Int)))||(e2 != e2))||(((B.map cw).length:Int) != ((B.map cw).length:Int)))||(b != b))||(e3 != e3))=false:=by simp
 refine⟨fun h=>Bool.noConfusion (hcond.symm.trans h),fun _=>?_⟩
 refine Ok.loop (st:=fun i:Nat=>⟨[(19,vi i),(13,.t (.sl 1 (B.map cw))),(11,.t (.sl 1 (B.map cw))),(9,.t (encN A)),(7,.t (encN A))],[]⟩) (R:=fun i=>i≤A.length) (μ:=fun i=>A.length-i) 0
  (Wk.sub ⟨rfl,rfl,rfl,rfl,rfl,trivial⟩ trivial) (Nat.zero_le _) ?_
 intro i hi
 have hi:i≤A.length:=hi
 refine ev_sound ctx (own:=[]) _ _ _ ?_
 refine⟨fun hx=>?_,fun hx=>?_⟩
 ·have hlt:i<A.length:=ltOf (by rw[←hAm];exact hx)
  have hget:(0:Int)≤(i:Int)∧(A.map cI)[((i:Nat):Int).toNat]?=some (cI A[i]):=getM hlt
  refine⟨_,fun _=>hget,?_⟩
  refine⟨_,fun _=>hget,?_⟩
  refine⟨fun h=>absurd h (by simp[cI]),fun _=>?_⟩
  exact⟨trivial,i+1,Wk.sub ⟨slotI (wr1 hlt hA),rfl,rfl,rfl,rfl,trivial⟩ trivial,hlt,dec hlt⟩
 ·refine Ok.loop (st:=fun i:Nat=>⟨[(20,vi i),(13,.t (.sl 1 (B.map cw))),(11,.t (.sl 1 (B.map cw)))],[]⟩) (R:=fun i=>i≤B.length) (μ:=fun i=>B.length-i) 0
   (Wk.sub ⟨rfl,rfl,rfl,trivial⟩ trivial) (Nat.zero_le _) ?_
  intro j hj
  have hj:j≤B.length:=hj
  refine ev_sound ctx (own:=[]) _ _ _ ?_
  refine⟨fun hx=>?_,fun hx=>?_⟩
  ·have hlt:j<B.length:=ltOf (by rw[←hBm];exact hx)
   have hget:(0:Int)≤(j:Int)∧(B.map cw)[((j:Nat):Int).toNat]?=some (cw B[j]):=getM hlt
   refine⟨_,fun _=>hget,?_⟩
   refine⟨_,fun _=>hget,?_⟩
   refine⟨fun h=>absurd h (by simp[cw]),fun _=>?_⟩
   exact⟨trivial,j+1,Wk.sub ⟨slotI (wr1 hlt hB),rfl,rfl,trivial⟩ trivial,hlt,dec hlt⟩
  ·refine⟨sane_ent,.inl ⟨_,hs,?_⟩⟩
   exact rfl
end
end Go.Proofs.YtaenfjplagiioaaGreatDoor.L
end
