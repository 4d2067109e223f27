/- A part of the proof: PmA1 PmA2 PmA3 PmA4. -/
import Derived.Test.YtihbimigddlbaaaGreatDoorUnG
noncomputable section
set_option linter.all false
namespace Go.Proofs.YtihbimigddlbaaaGreatDoor.L
open Go Go.RowKit Go.Proofs.YtihbimigddlbaaaGreatDoor.Pl
variable [Gm]
set_option maxRecDepth 10000
section
omit [Gm] in
theorem slotSb {l i i' n n':Nat} (h1:i=i') (h2:n=n'):some (AV.sb l i n)=some (AV.sb l i' n'):=by subst h1;subst h2;rfl
def rqSt (g:Gr) (wo:Int) (i:Nat) (Q:List Nat) (i':Nat) (E:List (List TV)):St :=
 ⟨[(6,.sb 22 i' (Q.length-i)),(5,.sl 12),(1,.t (tI wo)),(0,.t (encG g))],[(12,.row 4 1 ((toL g Q).map cB)),(22,.row 3 1 E)]⟩
def rqSt2 (g:Gr) (wo:Int) (i q j:Nat) (Q:List Nat) (i':Nat) (E:List (List TV)):St:=⟨(8,vi j)::(7,.t (tI q))::(rqSt g wo i Q i' E).φ,(rqSt g wo i Q i' E).σ⟩
def qOK (i:Nat) (Q:List Nat) (i':Nat) (E:List (List TV)):Prop:=i'+(Q.length-i)=E.length∧E.drop i'=(Q.drop i).map cI
theorem rq_ent:Ent Tryz.prog 24:=fun a w=>Tryz.call24 a w
theorem rq_spec (g:Gr) (hg:GrOK g) (wo:Int):PC Tryz.prog 24 [encG g,tI wo] (encB (rRL g 0 wo)):=by
 have hgl:((g.map fun l=>[encN l]).length:Int)=(g.length:Int):=by simp
 have hT:encB (rRL g 0 wo)=encB (toL g (rRch g 0 wo)):=rfl
 have h1:(decide (((g.map fun l=>[encN l]).length:Int)>0)&&(wo != 0))=true→rRch g 0 wo=rO g wo (g.length+1) 0 [0]∧0<g.length:=fun h=>by
  rw[hgl] at h
  rw[Bool.and_eq_true] at h
  have h0:=of_decide_eq_true h.1
  have hw:wo≠0:=by simpa using h.2
  unfold rRch
  have e1:(((0:Nat):Int)==wo)=false:=by rw[beq_eq_false_iff_ne];exact fun e=>hw e.symm
  have e2:decide (((0:Nat):Int)≥(g.length:Int))=false:=decide_eq_false (by omega)
  rw[if_neg (by rw[e1,e2];simp)]
  exact⟨rfl,by omega⟩
 have h2:(decide (((g.map fun l=>[encN l]).length:Int)>0)&&(wo != 0))=false→rRch g 0 wo=rO g wo (g.length+1) 0 []:=fun h=>by
  rw[hgl] at h
  rw[Bool.and_eq_false_iff] at h
  have:rO g wo (g.length+1) 0 []=[]:=by show (if 0 < [].length then _ else [])=_;simp
  rw[this]
  unfold rRch
  rw[if_pos]
  rcases h with h | h
  ·have h0:=of_decide_eq_false h
   rw[decide_eq_true (show ((0:Nat):Int)≥(g.length:Int) by omega)];simp
  ·have hw:wo=0:=by simpa using h
   simp[hw]
 rw[hT]
 generalize rRch g 0 wo=RR at h1 h2
 refine PC.of_ok tok Tryz.func24 rfl (Nat.le_of_ble_eq_true rfl) (ev_sound ctx (own:=[12,22]) _ _ _ ?_)
 have hsm:=hg.sm
 have hrp:∀ n:Nat,(n:Int)=(g.length:Int)→List.replicate ((n:Nat):Int).toNat [tB false]=(toL g []).map cB:=fun n h=>by
  have:n=g.length:=by omega
  subst this
  rw[Int.toNat_natCast,toL_nil];simp[cB]
 refine⟨Int.natCast_nonneg _,Int.le_refl _,by rw[hgl];omega,by rw[hgl,Int.toNat_natCast];show g.length*1≤_;omega,?_⟩
 refine⟨fun h=>?_,fun h=>?_⟩
 ·obtain⟨hRR,h0⟩:=h1 h
  have hset0:((List.replicate ((List.length (g.map fun l=>[encN l]):Nat):Int).toNat [tB false]).set ((0:Int)).toNat [tB true])=(toL g [0]).map cB:=by
   rw[hrp _ hgl]
   have:=toL_set (ks:=[]) h0
   rw[List.nil_append] at this
   rw[←this,List.map_set];rfl
  have hbnd0:(0:Int)≤0∧(0:Int)<((List.replicate ((List.length (g.map fun l=>[encN l]):Nat):Int).toNat [tB false]).length:Int):=⟨Int.le_refl _,by rw[hrp _ hgl,List.length_map,toL_len];omega⟩
  have hget0:(List.replicate ((List.length (g.map fun l=>[encN l]):Nat):Int).toNat [tB false])[((0:Int)).toNat]?=some [tB false]:=by
   rw[hrp _ hgl]
   have:=toL_getC (ks:=[]) h0
   exact this
  refine⟨hbnd0,?_⟩
  refine⟨_,hget0,?_⟩
  obtain⟨Q0,hQ0⟩:∃ q:List Nat,q=[0]:=⟨_,rfl⟩
  obtain⟨E0,hE0⟩:∃ q:List (List TV),q=[[tI 0]]:=⟨_,rfl⟩
  have hq0:qOK 0 Q0 0 E0:=by subst hQ0;subst hE0;exact⟨rfl,rfl⟩
  have hn0:Q0.Nodup:=by subst hQ0;simp
  have hl0:∀ q∈Q0,q<g.length:=fun q hq=>by subst hQ0;simp at hq;omega
  rw[←hQ0] at hRR hset0
  refine Ok.weak ((Wk.slSb 6 22 rfl rfl).trans (Wk.sub (s':=rqSt g wo 0 Q0 0 E0) ⟨slotSb rfl (by rw[hQ0];rfl),rfl,rfl,rfl,trivial⟩ ⟨congrArg (fun x=>some (AO.row 4 1 x)) hset0,congrArg (fun x=>some (AO.row 3 1 x)) hE0.symm,trivial⟩)) ?_
  refine Ok.loop (st:=fun x:Nat×List Nat×Nat×List (List TV)=>rqSt g wo x.1 x.2.1 x.2.2.1 x.2.2.2)
   (R:=fun x=>x.2.1.Nodup∧(∀ q∈x.2.1,q<g.length)∧x.1≤x.2.1.length∧qOK x.1 x.2.1 x.2.2.1 x.2.2.2∧∃ f,g.length-x.1<f∧RR=rO g wo f x.1 x.2.1) (μ:=fun x=>g.length-x.1) (0,Q0,0,E0)
   (Wk.refl _) ⟨hn0,hl0,Nat.zero_le _,hq0,g.length+1,by omega,hRR⟩ ?_
  rintro⟨i,Q,i',E⟩ ⟨hn,hl,hi,hq,f,hf,hR⟩
  have hn:Q.Nodup:=hn
  have hl:∀ q∈Q,q<g.length:=hl
  have hi:i≤Q.length:=hi
  have hq:qOK i Q i' E:=hq
  have hf:g.length-i<f:=hf
  have hR:RR=rO g wo f i Q:=hR
  have hQl:=nodup_len hn hl
  refine ev_sound ctx (own:=[12,22]) _ _ _ ?_
  refine⟨fun h=>?_,fun h=>?_⟩
  rotate_left
  ·have h:¬ ((Q.length-i:Nat):Int)>0:=of_decide_eq_false h
   have hge:Q.length≤i:=by omega
   have e:RR=Q:=by
    rw[hR]
    cases f with
    | zero=>rfl
    | succ f=>show (if i<Q.length then _ else Q)=Q;rw[if_neg (by omega)]
   exact toEq (by rw[e];rfl)
  have h:((Q.length-i:Nat):Int)>0:=of_decide_eq_true h
  have hlt:i<Q.length:=by omega
  obtain⟨f',rfl⟩:∃ f',f=f'+1:=⟨f-1,by omega⟩
  have hqi:Q.getD i 0=Q[i]:=by simp[List.getD,List.getElem?_eq_getElem hlt]
  have hqlt:=hl _ (List.getElem_mem hlt)
  have hR:RR=rO g wo f' (i+1) ((g.getD (Q.getD i 0) []).foldl (rS wo) Q):=by
   rw[hR];show (if i<Q.length then _ else Q)=_;rw[if_pos hlt]
  have hE0:E[i'+0]?=some (cI Q[i]):=by
   have:=congrArg (fun l:List (List TV)=>l[0]?) hq.2
   simp only[List.getElem?_drop,List.getElem?_map] at this
   rw[this,Nat.add_zero,List.getElem?_eq_getElem hlt];rfl
  have hq1:qOK (i+1) Q (i'+1) E:=by
   refine⟨by have:=hq.1;omega,?_⟩
   have:=congrArg (List.drop 1) hq.2
   rw[List.drop_drop,←List.map_drop,List.drop_drop] at this
   exact this
  rw[hqi] at hR
  generalize Q[i]=q at hqlt hR hE0
  have hgetG:(0:Int)≤(q:Int)∧(g.map fun l=>[encN l])[((q:Nat):Int).toNat]?=some [encN g[q]]:=⟨Int.natCast_nonneg q,by simp[List.getElem?_eq_getElem hqlt]⟩
  have hgq:g.getD q []=g[q]:=by simp[List.getD,List.getElem?_eq_getElem hqlt]
  have hlen:=hg.lenl _ (List.getElem_mem hqlt)
  have hltl:=hg.lt _ (List.getElem_mem hqlt)
  rw[hgq] at hR
  generalize g[q]=l at hgetG hlen hltl hR
  refine⟨⟨Int.le_refl _,by show (0:Int)<((Q.length-i:Nat):Int);omega⟩,?_⟩
  refine⟨cI q,hE0,?_⟩
  refine⟨⟨by decide,by show (1:Int)≤((Q.length-i:Nat):Int);omega,Int.le_refl _⟩,?_⟩
  refine Ok.loop (st:=fun x:Nat×List Nat×Nat×List (List TV)=>rqSt2 g wo (i+1) q x.1 x.2.1 x.2.2.1 x.2.2.2)
   (R:=fun x=>x.1≤l.length∧x.2.1=(l.take x.1).foldl (rS wo) Q∧qOK (i+1) x.2.1 x.2.2.1 x.2.2.2) (μ:=fun x=>l.length-x.1) (0,Q,i'+1,E)
   (Wk.sub ⟨rfl,rfl,slotSb rfl (by show (((Q.length-i:Nat):Int)).toNat-(1:Int).toNat=Q.length-(i+1);rw[Int.toNat_natCast];show Q.length-i-1=_;omega),rfl,rfl,rfl,trivial⟩ ⟨rfl,rfl,trivial⟩) ⟨Nat.zero_le _,rfl,hq1⟩ ?_
  rintro⟨j,Q',i2,E2⟩ ⟨hj,hQ',hq2⟩
  have hj:j≤l.length:=hj
  have hQ':Q'=(l.take j).foldl (rS wo) Q:=hQ'
  have hq2:qOK (i+1) Q' i2 E2:=hq2
  have hpre:Q <+: Q':=by rw[hQ'];exact rSs_pre wo _ _
  have hok:=rSs_ok (g:=g) (wo:=wo) (l.take j) Q (fun k hk=>hltl k (List.mem_of_mem_take hk)) hn hl
  rw[←hQ'] at hok
  have hQl':=nodup_len hok.1 hok.2
  have hii:i+1≤Q'.length:=by have:=hpre.length_le;omega
  refine ev_sound ctx (own:=[12,22]) _ _ _ ?_
  have hml2:((l.map cI).length:Int)=(l.length:Int):=by rw[List.length_map]
  refine⟨_,hgetG,?_⟩
  refine⟨fun h=>?_,fun h=>?_⟩
  rotate_left
  ·have hge:l.length≤j:=geOf (by rw[←hml2];exact h)
   rw[List.take_of_length_le hge] at hQ'
   rw[←hQ'] at hR
   exact⟨(i+1,Q',i2,E2),Wk.sub ⟨rfl,rfl,rfl,rfl,trivial⟩ ⟨rfl,rfl,trivial⟩,⟨hok.1,hok.2,hii,hq2,f',by omega,hR⟩,by show g.length-(i+1)<g.length-i;omega⟩
  have hltj:j<l.length:=ltOf (by rw[←hml2];exact h)
  have hgetL:(0:Int)≤(j:Int)∧(l.map cI)[((j:Nat):Int).toNat]?=some (cI l[j]):=getM hltj
  have hk:=hltl _ (List.getElem_mem hltj)
  have hnx:rS wo Q' l[j]=(l.take (j+1)).foldl (rS wo) Q:=by
   rw[List.take_add_one,List.getElem?_eq_getElem hltj,hQ',List.foldl_append];rfl
  generalize l[j]=k at hgetL hk hnx
  have hbk:(0:Int)≤(k:Int)∧(k:Int)<(((toL g Q').map cB).length:Int):=⟨Int.natCast_nonneg k,by rw[List.length_map,toL_len];omega⟩
  have hgk:((toL g Q').map cB)[((k:Nat):Int).toNat]?=some (cB (Q'.contains k)):=toL_getC hk
  have hrs:rS wo Q' k=if (((k:Int) != wo)&&!Q'.contains k)=true then Q'++[k] else Q':=rfl
  rw[Bool.and_comm] at hrs
  refine⟨_,hgetG,?_⟩
  refine⟨_,hgetL,?_⟩
  refine⟨hbk,cB (Q'.contains k),hgk,?_⟩
  refine⟨fun h=>?_,fun h=>?_⟩
  ·have h:(!Q'.contains k&&((k:Int) != wo))=true:=h
   rw[if_pos h] at hrs
   rw[hrs] at hnx
   have hok2:=rS_ok (wo:=wo) hk hok.1 hok.2
   have hrs2:rS wo Q' k=Q'++[k]:=hrs
   rw[hrs2] at hok2
   have hql:=nodup_len hok2.1 hok2.2
   rw[List.length_append,List.length_singleton] at hql
   have hset:(((toL g Q').map cB).set ((k:Nat):Int).toNat ((cB (Q'.contains k)).take 0++[tB true]++(cB (Q'.contains k)).drop (0+1)))=(toL g (Q'++[k])).map cB:=by
    rw[←toL_set hk,List.map_set];rfl
   have hlen2:(Q'.length-(i+1))+1=(Q'++[k]).length-(i+1):=by rw[List.length_append,List.length_singleton];omega
   refine⟨hbk,?_⟩
   refine⟨cB (Q'.contains k),hgk,?_⟩
   refine⟨List.cons_ne_nil _ _,hq2.1,by show (Q'.length-(i+1)+1)*8≤_;omega,by show Q'.length-(i+1)+1≤maxLen;simp only[maxLen];omega,fun i3 E3 e1 e2=>?_⟩
   have e1:i3+(Q'.length-(i+1)+1)=E3.length:=e1
   have e2:E3.drop i3=E2.drop i2++[[tI k]]:=e2
   have hq3:qOK (i+1) (Q'++[k]) i3 E3:=by
    refine⟨by rw[←hlen2];exact e1,?_⟩
    rw[e2,hq2.2,List.drop_append_of_le_length hii,List.map_append];rfl
   exact⟨trivial,(j+1,Q'++[k],i3,E3),Wk.sub ⟨slotI (wr1 hltj hlen),rfl,slotSb rfl hlen2,rfl,rfl,rfl,trivial⟩ ⟨congrArg (fun x=>some (AO.row 4 1 x)) hset,rfl,trivial⟩,⟨hltj,hnx,hq3⟩,dec hltj⟩
  ·have h:(!Q'.contains k&&((k:Int) != wo))=false:=h
   rw[if_neg (by rw[h];simp)] at hrs
   rw[hrs] at hnx
   exact⟨trivial,(j+1,Q',i2,E2),Wk.sub ⟨slotI (wr1 hltj hlen),rfl,rfl,rfl,rfl,rfl,trivial⟩ ⟨rfl,rfl,trivial⟩,⟨hltj,hnx,hq2⟩,dec hltj⟩
 ·have hRR:=h2 h
  obtain⟨Q0,hQ0⟩:∃ q:List Nat,q=[]:=⟨_,rfl⟩
  obtain⟨E0,hE0⟩:∃ q:List (List TV),q=[]:=⟨_,rfl⟩
  have hq0:qOK 0 Q0 0 E0:=by subst hQ0;subst hE0;exact⟨rfl,rfl⟩
  have hn0:Q0.Nodup:=by subst hQ0;simp
  have hl0:∀ q∈Q0,q<g.length:=fun q hq=>by subst hQ0;simp at hq
  have hrp:=hrp _ hgl
  rw[←hQ0] at hRR hrp
  refine Ok.weak (((Wk.nil 6 22 3 1 (by decide) rfl).trans (Wk.slSb 6 22 rfl rfl)).trans (Wk.sub (s':=rqSt g wo 0 Q0 0 E0) ⟨slotSb rfl (by rw[hQ0];rfl),rfl,rfl,rfl,trivial⟩ ⟨congrArg (fun x=>some (AO.row 4 1 x)) hrp,congrArg (fun x=>some (AO.row 3 1 x)) hE0.symm,trivial⟩)) ?_
  refine Ok.loop (st:=fun x:Nat×List Nat×Nat×List (List TV)=>rqSt g wo x.1 x.2.1 x.2.2.1 x.2.2.2)
   (R:=fun x=>x.2.1.Nodup∧(∀ q∈x.2.1,q<g.length)∧x.1≤x.2.1.length∧qOK x.1 x.2.1 x.2.2.1 x.2.2.2∧∃ f,g.length-x.1<f∧RR=rO g wo f x.1 x.2.1) (μ:=fun x=>g.length-x.1) (0,Q0,0,E0)
   (Wk.refl _) ⟨hn0,hl0,Nat.zero_le _,hq0,g.length+1,by omega,hRR⟩ ?_
  rintro⟨i,Q,i',E⟩ ⟨hn,hl,hi,hq,f,hf,hR⟩
  have hn:Q.Nodup:=hn
  have hl:∀ q∈Q,q<g.length:=hl
  have hi:i≤Q.length:=hi
  have hq:qOK i Q i' E:=hq
  have hf:g.length-i<f:=hf
  have hR:RR=rO g wo f i Q:=hR
  have hQl:=nodup_len hn hl
  refine ev_sound ctx (own:=[12,22]) _ _ _ ?_
  refine⟨fun h=>?_,fun h=>?_⟩
  rotate_left
  ·have h:¬ ((Q.length-i:Nat):Int)>0:=of_decide_eq_false h
   have hge:Q.length≤i:=by omega
   have e:RR=Q:=by
    rw[hR]
    cases f with
    | zero=>rfl
    | succ f=>show (if i<Q.length then _ else Q)=Q;rw[if_neg (by omega)]
   exact toEq (by rw[e];rfl)
  have h:((Q.length-i:Nat):Int)>0:=of_decide_eq_true h
  have hlt:i<Q.length:=by omega
  obtain⟨f',rfl⟩:∃ f',f=f'+1:=⟨f-1,by omega⟩
  have hqi:Q.getD i 0=Q[i]:=by simp[List.getD,List.getElem?_eq_getElem hlt]
  have hqlt:=hl _ (List.getElem_mem hlt)
  have hR:RR=rO g wo f' (i+1) ((g.getD (Q.getD i 0) []).foldl (rS wo) Q):=by
   rw[hR];show (if i<Q.length then _ else Q)=_;rw[if_pos hlt]
  have hE0:E[i'+0]?=some (cI Q[i]):=by
   have:=congrArg (fun l:List (List TV)=>l[0]?) hq.2
   simp only[List.getElem?_drop,List.getElem?_map] at this
   rw[this,Nat.add_zero,List.getElem?_eq_getElem hlt];rfl
  have hq1:qOK (i+1) Q (i'+1) E:=by
   refine⟨by have:=hq.1;omega,?_⟩
   have:=congrArg (List.drop 1) hq.2
   rw[List.drop_drop,←List.map_drop,List.drop_drop] at this
   exact this
  rw[hqi] at hR
  generalize Q[i]=q at hqlt hR hE0
  have hgetG:(0:Int)≤(q:Int)∧(g.map fun l=>[encN l])[((q:Nat):Int).toNat]?=some [encN g[q]]:=⟨Int.natCast_nonneg q,by simp[List.getElem?_eq_getElem hqlt]⟩
  have hgq:g.getD q []=g[q]:=by simp[List.getD,List.getElem?_eq_getElem hqlt]
  have hlen:=hg.lenl _ (List.getElem_mem hqlt)
  have hltl:=hg.lt _ (List.getElem_mem hqlt)
  rw[hgq] at hR
  generalize g[q]=l at hgetG hlen hltl hR
  refine⟨⟨Int.le_refl _,by show (0:Int)<((Q.length-i:Nat):Int);omega⟩,?_⟩
  refine⟨cI q,hE0,?_⟩
  refine⟨⟨by decide,by show (1:Int)≤((Q.length-i:Nat):Int);omega,Int.le_refl _⟩,?_⟩
  refine Ok.loop (st:=fun x:Nat×List Nat×Nat×List (List TV)=>rqSt2 g wo (i+1) q x.1 x.2.1 x.2.2.1 x.2.2.2)
   (R:=fun x=>x.1≤l.length∧x.2.1=(l.take x.1).foldl (rS wo) Q∧qOK (i+1) x.2.1 x.2.2.1 x.2.2.2) (μ:=fun x=>l.length-x.1) (0,Q,i'+1,E)
   (Wk.sub ⟨rfl,rfl,slotSb rfl (by show (((Q.length-i:Nat):Int)).toNat-(1:Int).toNat=Q.length-(i+1);rw[Int.toNat_natCast];show Q.length-i-1=_;omega),rfl,rfl,rfl,trivial⟩ ⟨rfl,rfl,trivial⟩) ⟨Nat.zero_le _,rfl,hq1⟩ ?_
  rintro⟨j,Q',i2,E2⟩ ⟨hj,hQ',hq2⟩
  have hj:j≤l.length:=hj
  have hQ':Q'=(l.take j).foldl (rS wo) Q:=hQ'
  have hq2:qOK (i+1) Q' i2 E2:=hq2
  have hpre:Q <+: Q':=by rw[hQ'];exact rSs_pre wo _ _
  have hok:=rSs_ok (g:=g) (wo:=wo) (l.take j) Q (fun k hk=>hltl k (List.mem_of_mem_take hk)) hn hl
  rw[←hQ'] at hok
  have hQl':=nodup_len hok.1 hok.2
  have hii:i+1≤Q'.length:=by have:=hpre.length_le;omega
  refine ev_sound ctx (own:=[12,22]) _ _ _ ?_
  have hml2:((l.map cI).length:Int)=(l.length:Int):=by rw[List.length_map]
  refine⟨_,hgetG,?_⟩
  refine⟨fun h=>?_,fun h=>?_⟩
  rotate_left
  ·have hge:l.length≤j:=geOf (by rw[←hml2];exact h)
   rw[List.take_of_length_le hge] at hQ'
   rw[←hQ'] at hR
   exact⟨(i+1,Q',i2,E2),Wk.sub ⟨rfl,rfl,rfl,rfl,trivial⟩ ⟨rfl,rfl,trivial⟩,⟨hok.1,hok.2,hii,hq2,f',by omega,hR⟩,by show g.length-(i+1)<g.length-i;omega⟩
  have hltj:j<l.length:=ltOf (by rw[←hml2];exact h)
  have hgetL:(0:Int)≤(j:Int)∧(l.map cI)[((j:Nat):Int).toNat]?=some (cI l[j]):=getM hltj
  have hk:=hltl _ (List.getElem_mem hltj)
  have hnx:rS wo Q' l[j]=(l.take (j+1)).foldl (rS wo) Q:=by
   rw[List.take_add_one,List.getElem?_eq_getElem hltj,hQ',List.foldl_append];rfl
  generalize l[j]=k at hgetL hk hnx
  have hbk:(0:Int)≤(k:Int)∧(k:Int)<(((toL g Q').map cB).length:Int):=⟨Int.natCast_nonneg k,by rw[List.length_map,toL_len];omega⟩
  have hgk:((toL g Q').map cB)[((k:Nat):Int).toNat]?=some (cB (Q'.contains k)):=toL_getC hk
  have hrs:rS wo Q' k=if (((k:Int) != wo)&&!Q'.contains k)=true then Q'++[k] else Q':=rfl
  rw[Bool.and_comm] at hrs
  refine⟨_,hgetG,?_⟩
  refine⟨_,hgetL,?_⟩
  refine⟨hbk,cB (Q'.contains k),hgk,?_⟩
  refine⟨fun h=>?_,fun h=>?_⟩
  ·have h:(!Q'.contains k&&((k:Int) != wo))=true:=h
   rw[if_pos h] at hrs
   rw[hrs] at hnx
   have hok2:=rS_ok (wo:=wo) hk hok.1 hok.2
   have hrs2:rS wo Q' k=Q'++[k]:=hrs
   rw[hrs2] at hok2
   have hql:=nodup_len hok2.1 hok2.2
   rw[List.length_append,List.length_singleton] at hql
   have hset:(((toL g Q').map cB).set ((k:Nat):Int).toNat ((cB (Q'.contains k)).take 0++[tB true]++(cB (Q'.contains k)).drop (0+1)))=(toL g (Q'++[k])).map cB:=by
    rw[←toL_set hk,List.map_set];rfl
   have hlen2:(Q'.length-(i+1))+1=(Q'++[k]).length-(i+1):=by rw[List.length_append,List.length_singleton];omega
   refine⟨hbk,?_⟩
   refine⟨cB (Q'.contains k),hgk,?_⟩
   refine⟨List.cons_ne_nil _ _,hq2.1,by show (Q'.length-(i+1)+1)*8≤_;omega,by show Q'.length-(i+1)+1≤maxLen;simp only[maxLen];omega,fun i3 E3 e1 e2=>?_⟩
   have e1:i3+(Q'.length-(i+1)+1)=E3.length:=e1
   have e2:E3.drop i3=E2.drop i2++[[tI k]]:=e2
   have hq3:qOK (i+1) (Q'++[k]) i3 E3:=by
    refine⟨by rw[←hlen2];exact e1,?_⟩
    rw[e2,hq2.2,List.drop_append_of_le_length hii,List.map_append];rfl
   exact⟨trivial,(j+1,Q'++[k],i3,E3),Wk.sub ⟨slotI (wr1 hltj hlen),rfl,slotSb rfl hlen2,rfl,rfl,rfl,trivial⟩ ⟨congrArg (fun x=>some (AO.row 4 1 x)) hset,rfl,trivial⟩,⟨hltj,hnx,hq3⟩,dec hltj⟩
  ·have h:(!Q'.contains k&&((k:Int) != wo))=false:=h
   rw[if_neg (by rw[h];simp)] at hrs
   rw[hrs] at hnx
   exact⟨trivial,(j+1,Q',i2,E2),Wk.sub ⟨slotI (wr1 hltj hlen),rfl,rfl,rfl,rfl,rfl,trivial⟩ ⟨rfl,rfl,trivial⟩,⟨hltj,hnx,hq2⟩,dec hltj⟩
end
section
theorem rlist_ent:Ent Tryz.prog 25:=fun a w=>Tryz.call25 a w
theorem rlist_spec (L:List Bool) (hL:L.length≤1000000):PC Tryz.prog 25 [encB L] (encN (idxOf L)):=by
 refine PC.of_okL tok Tryz.func25 rfl (Nat.le_of_ble_eq_true rfl) (ev_sound ctx (own:=[18]) _ _ _ ?_)
 refine Ok.loop (st:=fun i:Nat=>⟨[(4,vi i),(0,.t (encB L)),(3,.sl 18)],[(18,.row 3 1 (((List.range i).filter fun i=>L.getD i false).map cI))]⟩)
  (R:=fun i=>i≤L.length) (μ:=fun i=>L.length-i) 0 ((Wk.nil 3 18 3 1 (by decide) rfl).trans (Wk.sub ⟨rfl,rfl,rfl,trivial⟩ ⟨rfl,trivial⟩)) (Nat.zero_le _) ?_
 intro i hi
 have hi:i≤L.length:=hi
 have hml:((L.map cB).length:Int)=(L.length:Int):=by rw[List.length_map]
 refine ev_sound ctx (own:=[18]) _ _ _ ?_
 refine⟨fun h=>?_,fun h=>?_⟩
 ·have hlt:i<L.length:=ltOf (by rw[←hml];exact h)
  have hmx:L.length≤maxLen:=by simp only[maxLen];omega
  have hfil:=filRange (fun i=>L.getD i false) i
  have hmi:=filLen (fun i=>L.getD i false) i
  refine⟨cB (L.getD i false),getB hlt,?_⟩
  refine⟨fun h2=>?_,fun h2=>?_⟩
  ·have h2:L.getD i false=true:=h2
   rw[if_pos h2] at hfil
   refine⟨?_,?_,trivial,i+1,Wk.sub ⟨slotI (wr1 hlt hmx),rfl,rfl,trivial⟩ ⟨congrArg (fun x=>some (AO.row 3 1 x)) ?_,trivial⟩,hlt,dec hlt⟩
   ·simp only[List.length_map];show (_+1)*8≤_;omega
   ·simp only[List.length_map,maxLen];show _+1≤_;omega
   ·rw[hfil,List.map_append];rfl
  ·have h2:L.getD i false=false:=h2
   rw[if_neg (by rw[h2];simp),List.append_nil] at hfil
   exact⟨trivial,i+1,Wk.sub ⟨slotI (wr1 hlt hmx),rfl,rfl,trivial⟩ ⟨congrArg (fun x:List Nat=>some (AO.row 3 1 (x.map cI))) hfil.symm,trivial⟩,hlt,dec hlt⟩
 ·have hge:L.length≤i:=geOf (by rw[←hml];exact h)
  have:i=L.length:=Nat.le_antisymm hi hge
  subst this
  exact TV.le_refl _
theorem ints_ent:Ent Tryz.prog 8:=fun a w=>Tryz.call8 a w
theorem ints_spec (a b:List Nat) (ha:a.length≤maxLen):PC Tryz.prog 8 [encN a,encN b] (tB (decide (a=b))):=by
 have hma:((a.map cI).length:Int)=(a.length:Int):=by rw[List.length_map]
 have hmb:((b.map cI).length:Int)=(b.length:Int):=by rw[List.length_map]
 refine PC.of_ok tok Tryz.func8 rfl (Nat.le_of_ble_eq_true rfl) (ev_sound ctx (own:=[]) _ _ _ ?_)
 refine⟨fun h=>?_,fun h=>?_⟩
 ·have h:(((a.map cI).length:Int) != ((b.map cI).length:Int))=true:=h
  rw[hma,hmb] at h
  refine toEq ?_
  rw[decide_eq_false (fun e=>by subst e;simp at h)];rfl
 have h:(((a.map cI).length:Int) != ((b.map cI).length:Int))=false:=h
 rw[hma,hmb] at h
 have hab:a.length=b.length:=by
  have:(a.length:Int)=b.length:=by simpa using h
  omega
 refine Ok.loop (st:=fun i:Nat=>⟨[(5,vi i),(1,.t (encN b)),(0,.t (encN a))],[]⟩) (R:=fun i=>i≤a.length∧a.take i=b.take i) (μ:=fun i=>a.length-i) 0 (Wk.sub ⟨rfl,rfl,rfl,trivial⟩ trivial) ⟨Nat.zero_le _,rfl⟩ ?_
 rintro i ⟨hi,hE⟩
 have hi:i≤a.length:=hi
 refine ev_sound ctx (own:=[]) _ _ _ ?_
 refine⟨fun h=>?_,fun h=>?_⟩
 ·have hlt:i<a.length:=ltOf (by rw[←hma];exact h)
  have hlb:i<b.length:=by omega
  have hga:(0:Int)≤(i:Int)∧(a.map cI)[((i:Nat):Int).toNat]?=some (cI a[i]):=getM hlt
  have hgb:(0:Int)≤(i:Int)∧(b.map cI)[((i:Nat):Int).toNat]?=some (cI b[i]):=getM hlb
  refine⟨_,fun _=>hga,?_⟩
  refine⟨_,fun _=>hgb,?_⟩
  refine⟨fun h2=>toEq ?_,fun h2=>?_⟩
  ·have h2:((a[i]:Int) != (b[i]:Int))=true:=h2
   rw[decide_eq_false (fun e=>by subst e;simp at h2)];rfl
  ·have h2:((a[i]:Int) != (b[i]:Int))=false:=h2
   have h3:a[i]=b[i]:=by
    have:(a[i]:Int)=b[i]:=by simpa using h2
    omega
   refine⟨trivial,i+1,Wk.sub ⟨slotI (wr1 hlt ha),rfl,rfl,trivial⟩ trivial,⟨hlt,?_⟩,dec hlt⟩
   show a.take (i+1)=b.take (i+1)
   rw[List.take_add_one,List.take_add_one,hE,List.getElem?_eq_getElem hlt,List.getElem?_eq_getElem hlb,h3]
 ·have hge:a.length≤i:=geOf (by rw[←hma];exact h)
  refine toEq ?_
  rw[List.take_of_length_le hge,List.take_of_length_le (by omega)] at hE
  rw[decide_eq_true hE];rfl
end
section
def lf0 (I W:List Bool) (i:Nat):Bool:=I.getD i false&&!W.getD i false
def Sus (g:Gr) (p:Nat→Prop):Prop:=∀ x,p x→x<g.length∧∃ k∈g.getD x [],p k
def SusIn (g:Gr) (I W:List Bool) (p:Nat→Prop):Prop:=Sus g p∧∀ x,p x→lf0 I W x=true
noncomputable def rcirc (g:Gr) (I W:List Bool):Bool:=@decide (∃ p x,SusIn g I W p∧p x) (Classical.propDecidable _)
omit [Gm] in
theorem rcirc_iff (g:Gr) (I W:List Bool):rcirc g I W=true↔∃ p x,SusIn g I W p∧p x:=by
 unfold rcirc;exact @decide_eq_true_iff _ (Classical.propDecidable _)
structure LInv (g:Gr) (I W L:List Bool):Prop where
 len:L.length=g.length
 sub:∀ x,L.getD x false=true→lf0 I W x=true
 all:∀ p,SusIn g I W p→∀ x,p x→L.getD x false=true
def hasS (g:Gr) (L:List Bool) (x:Nat):Bool:=(g.getD x []).any fun k=>L.getD k false
omit [Gm] in
theorem getD_set {L:List Bool} {i x:Nat} {b:Bool} (h:i<L.length):(L.set i b).getD x false=if x=i then b else L.getD x false:=by
 simp only[List.getD,List.getElem?_set]
 by_cases e:i=x
 ·subst e;simp[h]
 ·rw[if_neg e,if_neg (fun e':x=i=>e e'.symm)]
omit [Gm] in
theorem LInv.rem {g:Gr} {I W L:List Bool} (H:LInv g I W L) {i:Nat} (hi:i<g.length) (hs:hasS g L i=false):LInv g I W (L.set i false):=by
 have hiL:i<L.length:=by rw[H.len];exact hi
 refine⟨by rw[List.length_set];exact H.len,fun x hx=>?_,fun p hp x hx=>?_⟩
 ·rw[getD_set hiL] at hx
  split at hx
  ·cases hx
  ·exact H.sub x hx
 ·rw[getD_set hiL]
  split
  ·rename_i e
   subst e
   obtain⟨_,k,hk,hpk⟩:=hp.1 x hx
   have:=H.all p hp k hpk
   have h2:hasS g L x=true:=List.any_eq_true.2 ⟨k,hk,this⟩
   rw[hs] at h2;cases h2
  ·exact H.all p hp x hx
omit [Gm] in
theorem count_rem {L:List Bool} {i:Nat} (hi:i<L.length) (h:L.getD i false=true):(L.set i false).count true<L.count true:=by
 have hg:L[i]=true:=by simpa [List.getD,List.getElem?_eq_getElem hi] using h
 rw[List.count_set hi]
 have h1:0<L.count true:=List.count_pos_iff.2 (hg ▸ List.getElem_mem hi)
 simp only[hg]
 simp;omega
omit [Gm] in
theorem LInv.fin {g:Gr} {I W L:List Bool} (H:LInv g I W L) (he:∀ x,x<g.length→L.getD x false=true→hasS g L x=true):decide ((((idxOf L).map cI).length:Int)>0)=rcirc g I W:=by
 have hid:∀ x,x∈idxOf L↔x<L.length∧L.getD x false=true:=fun x=>by unfold idxOf;rw[List.mem_filter,List.mem_range]
 rw[Bool.eq_iff_iff,rcirc_iff,decide_eq_true_iff,List.length_map]
 constructor
 ·intro h
  have:0<(idxOf L).length:=by omega
  obtain⟨x,hx⟩:=List.exists_mem_of_length_pos this
  refine⟨fun x=>L.getD x false=true,x,⟨fun y hy=>?_,fun y hy=>H.sub y hy⟩,((hid x).1 hx).2⟩
  have hyl:y<g.length:=by
   rw[←H.len]
   by_cases h:y<L.length
   ·exact h
   ·simp[List.getD,List.getElem?_eq_none (show L.length≤y by omega)] at hy
  obtain⟨k,hk,hkl⟩:=List.any_eq_true.1 (he y hyl hy)
  exact⟨hyl,k,hk,hkl⟩
 ·rintro⟨p,x,hp,hx⟩
  have h1:=(hid x).2 ⟨by rw[H.len];exact (hp.1 x hx).1,H.all p hp x hx⟩
  have:=List.length_pos_of_mem h1
  omega
def lf1 (I W:List Bool) (n i:Nat):List Bool:=(List.range i).map (lf0 I W)++List.replicate (n-i) false
omit [Gm] in
theorem lf1_set {I W:List Bool} {n i:Nat} (h:i<n):(lf1 I W n i).set i (lf0 I W i)=lf1 I W n (i+1):=by
 unfold lf1
 rw[List.set_append_right _ _ (by simp),show n-i=(n-(i+1))+1 by omega,List.replicate_succ,List.range_succ,List.map_append,List.append_assoc]
 simp
omit [Gm] in
theorem lf1_len {I W:List Bool} {n i:Nat} (h:i≤n):(lf1 I W n i).length=n:=by unfold lf1;simp;omega
omit [Gm] in
theorem lf1_inv (g:Gr) (I W:List Bool):LInv g I W (lf1 I W g.length g.length):=by
 have hget:∀ x,x<g.length→(lf1 I W g.length g.length).getD x false=lf0 I W x:=fun x hx=>by unfold lf1;simp[List.getD,List.getElem?_append,hx]
 refine⟨lf1_len (Nat.le_refl _),fun x hx=>?_,fun p hp x hx=>?_⟩
 ·by_cases h:x<g.length
  ·rw[←hget x h];exact hx
  ·simp[List.getD,List.getElem?_eq_none (show (lf1 I W g.length g.length).length≤x by rw[lf1_len (Nat.le_refl _)];omega)] at hx
 ·rw[hget x (hp.1 x hx).1];exact hp.2 x hx
theorem rcirc_ent:Ent Tryz.prog 26:=fun a w=>Tryz.call26 a w
theorem rcirc_spec (g:Gr) (hg:GrOK g) (I W:List Bool) (hI:I.length=g.length) (hW:W.length=g.length):PC Tryz.prog 26 [encG g,encB I,encB W] (tB (rcirc g I W)):=by
 have hgl:((g.map fun l=>[encN l]).length:Int)=(g.length:Int):=by simp
 have hsm:=hg.sm
 refine PC.of_ok tok Tryz.func26 rfl (Nat.le_of_ble_eq_true rfl) (ev_sound ctx (own:=[15]) _ _ _ ?_)
 refine⟨Int.natCast_nonneg _,Int.le_refl _,by rw[hgl];omega,by rw[hgl,Int.toNat_natCast];show g.length*1≤_;omega,?_⟩
 have hrp:∀ n:Nat,(n:Int)=(g.length:Int)→List.replicate ((n:Nat):Int).toNat [tB false]=(lf1 I W g.length 0).map cB:=fun n h=>by
  have:n=g.length:=by omega
  subst this
  rw[Int.toNat_natCast];simp[lf1,cB]
 refine Ok.loop (st:=fun i:Nat=>⟨[(8,vi i),(7,.sl 15),(2,.t (encB W)),(1,.t (encB I)),(0,.t (encG g))],[(15,.row 4 1 ((lf1 I W g.length i).map cB))]⟩) (R:=fun i=>i≤g.length) (μ:=fun i=>g.length-i) 0
  (Wk.sub ⟨rfl,rfl,rfl,rfl,rfl,trivial⟩ ⟨congrArg (fun x=>some (AO.row 4 1 x)) (hrp _ hgl),trivial⟩) (Nat.zero_le _) ?_
 intro i hi
 have hi:i≤g.length:=hi
 refine ev_sound ctx (own:=[15]) _ _ _ ?_
 refine⟨fun h=>?_,fun h=>?_⟩
 ·have hlt:i<g.length:=ltOf (by rw[←hgl];exact h)
  have hil:i<(lf1 I W g.length i).length:=by rw[lf1_len hi];exact hlt
  refine⟨cB (I.getD i false),getB (by omega),?_⟩
  refine⟨cB (W.getD i false),fun _=>getB (by omega),?_⟩
  refine⟨⟨Int.natCast_nonneg i,by rw[List.length_map];omega⟩,?_⟩
  refine⟨cB ((lf1 I W g.length i).getD i false),(getB hil).2,?_⟩
  refine⟨trivial,i+1,Wk.sub ⟨slotI (wr1 hlt hg.len),rfl,rfl,rfl,rfl,trivial⟩ ⟨congrArg (fun x=>some (AO.row 4 1 x)) ?_,trivial⟩,hlt,dec hlt⟩
  rw[←lf1_set hlt,List.map_set];rfl
 have hge:g.length≤i:=geOf (by rw[←hgl];exact h)
 have hie:i=g.length:=Nat.le_antisymm hi hge
 clear h hge hi
 subst hie
 have hinv0:=lf1_inv g I W
 generalize lf1 I W g.length g.length=L0 at hinv0 ⊢
 refine Ok.loop (st:=fun x:List Bool×Bool=>⟨[(9,vb x.2),(7,.sl 15),(2,.t (encB W)),(1,.t (encB I)),(0,.t (encG g))],[(15,.row 4 1 (x.1.map cB))]⟩)
  (R:=fun x=>LInv g I W x.1∧(x.2=false→∀ y,y<g.length→x.1.getD y false=true→hasS g x.1 y=true)) (μ:=fun x=>2*x.1.count true+(if x.2=true then 1 else 0)) (L0,true)
  (Wk.sub ⟨rfl,rfl,rfl,rfl,rfl,trivial⟩ ⟨rfl,trivial⟩) ⟨hinv0,fun h=>nomatch h⟩ ?_
 rintro⟨L1,c1⟩ ⟨hL1,hc1⟩
 have hL1:LInv g I W L1:=hL1
 have hc1:c1=false→∀ y,y<g.length→L1.getD y false=true→hasS g L1 y=true:=hc1
 refine ev_sound ctx (own:=[15]) _ _ _ ?_
 refine⟨fun h=>?_,fun h=>?_⟩
 rotate_left
 ·have h:c1=false:=h
  have hfin:=hL1.fin (hc1 h)
  refine .inl ⟨rlist_ent,.inl ⟨_,rlist_spec L1 (by rw[hL1.len];exact hsm),?_⟩⟩
  refine toEq ?_
  rw[←hfin];rfl
 have h:c1=true:=h
 subst h
 clear hc1
 refine Ok.loop (st:=fun x:Nat×List Bool×Bool=>⟨[(10,vi x.1),(9,vb x.2.2),(7,.sl 15),(2,.t (encB W)),(1,.t (encB I)),(0,.t (encG g))],[(15,.row 4 1 (x.2.1.map cB))]⟩)
  (R:=fun x=>x.1≤g.length∧LInv g I W x.2.1∧(x.2.2=false→∀ y,y<x.1→x.2.1.getD y false=true→hasS g x.2.1 y=true)∧x.2.1.count true≤L1.count true∧(x.2.2=true→x.2.1.count true<L1.count true)) (μ:=fun x=>g.length-x.1) (0,L1,false)
  (Wk.sub ⟨rfl,rfl,rfl,rfl,rfl,rfl,trivial⟩ ⟨rfl,trivial⟩) ⟨Nat.zero_le _,hL1,fun _ y hy=>absurd hy (Nat.not_lt_zero y),Nat.le_refl _,fun h=>nomatch h⟩ ?_
 rintro⟨i,L,c⟩ ⟨hi,hL,hc,hle,hlt'⟩
 have hi:i≤g.length:=hi
 have hL:LInv g I W L:=hL
 have hc:c=false→∀ y,y<i→L.getD y false=true→hasS g L y=true:=hc
 have hle:L.count true≤L1.count true:=hle
 have hlt':c=true→L.count true<L1.count true:=hlt'
 refine ev_sound ctx (own:=[15]) _ _ _ ?_
 refine⟨fun h=>?_,fun h=>?_⟩
 rotate_left
 ·have hge:g.length≤i:=geOf (by rw[←hgl];exact h)
  refine⟨(L,c),Wk.sub ⟨rfl,rfl,rfl,rfl,rfl,trivial⟩ ⟨rfl,trivial⟩,⟨hL,fun hcf y hy=>hc hcf y (by omega)⟩,?_⟩
  show 2*L.count true+(if c=true then 1 else 0)<2*L1.count true+1
  cases c with
  | true=>have:=hlt' rfl;simp;omega
  | false=>simp;omega
 have hlt:i<g.length:=ltOf (by rw[←hgl];exact h)
 clear h
 have hiL:i<L.length:=by rw[hL.len];exact hlt
 have hgetG:(0:Int)≤(i:Int)∧(g.map fun l=>[encN l])[((i:Nat):Int).toNat]?=some [encN g[i]]:=⟨Int.natCast_nonneg i,by simp[List.getElem?_eq_getElem hlt]⟩
 have hgi:g.getD i []=g[i]:=by simp[List.getD,List.getElem?_eq_getElem hlt]
 have hlen:=hg.lenl _ (List.getElem_mem hlt)
 have hltl:=hg.lt _ (List.getElem_mem hlt)
 have hhs:hasS g L i=g[i].any fun k=>L.getD k false:=by unfold hasS;rw[hgi]
 generalize g[i]=l at hgetG hlen hltl hhs
 have hml2:((l.map cI).length:Int)=(l.length:Int):=by rw[List.length_map]
 refine Ok.loop (st:=fun x:Nat×Bool=>⟨[(12,vi x.1),(11,vb x.2),(10,vi i),(9,vb c),(7,.sl 15),(2,.t (encB W)),(1,.t (encB I)),(0,.t (encG g))],[(15,.row 4 1 (L.map cB))]⟩)
  (R:=fun x=>x.1≤l.length∧x.2=(l.take x.1).any fun k=>L.getD k false) (μ:=fun x=>l.length-x.1) (0,false)
  (Wk.sub ⟨rfl,rfl,rfl,rfl,rfl,rfl,rfl,rfl,trivial⟩ ⟨rfl,trivial⟩) ⟨Nat.zero_le _,rfl⟩ ?_
 rintro⟨j,st⟩ ⟨hj,hst⟩
 have hj:j≤l.length:=hj
 have hst:st=(l.take j).any fun k=>L.getD k false:=hst
 refine ev_sound ctx (own:=[15]) _ _ _ ?_
 refine⟨_,hgetG,?_⟩
 refine⟨fun h=>?_,fun h=>?_⟩
 ·have hltj:j<l.length:=ltOf (by rw[←hml2];exact h)
  have hgetL:(0:Int)≤(j:Int)∧(l.map cI)[((j:Nat):Int).toNat]?=some (cI l[j]):=getM hltj
  have hk:=hltl _ (List.getElem_mem hltj)
  have hnx:(st||L.getD l[j] false)=(l.take (j+1)).any fun k=>L.getD k false:=by
   rw[List.take_add_one,List.getElem?_eq_getElem hltj,hst,List.any_append];simp
  generalize l[j]=k at hgetL hk hnx
  have hkL:k<L.length:=by rw[hL.len];exact hk
  refine⟨_,fun _=>hgetG,?_⟩
  refine⟨_,fun _=>hgetL,?_⟩
  refine⟨fun _=>⟨Int.natCast_nonneg k,by rw[List.length_map];omega⟩,cB (L.getD k false),(getB hkL).2,?_⟩
  exact⟨trivial,(j+1,st||L.getD k false),Wk.sub ⟨slotI (wr1 hltj hlen),rfl,rfl,rfl,rfl,rfl,rfl,rfl,trivial⟩ ⟨rfl,trivial⟩,⟨hltj,hnx⟩,dec hltj⟩
 ·have hge:l.length≤j:=geOf (by rw[←hml2];exact h)
  rw[List.take_of_length_le hge] at hst
  rw[←hhs] at hst
  subst hst
  refine⟨⟨Int.natCast_nonneg i,by rw[List.length_map];omega⟩,cB (L.getD i false),(getB hiL).2,?_⟩
  refine⟨fun h2=>?_,fun h2=>?_⟩
  ·have h2:(L.getD i false&&!hasS g L i)=true:=h2
   rw[Bool.and_eq_true] at h2
   have hs:hasS g L i=false:=by simpa using h2.2
   have hcn:=count_rem hiL h2.1
   refine⟨⟨Int.natCast_nonneg i,by rw[List.length_map];omega⟩,cB (L.getD i false),(getB hiL).2,?_⟩
   refine⟨trivial,(i+1,L.set i false,true),Wk.sub ⟨slotI (wr1 hlt hg.len),rfl,rfl,rfl,rfl,rfl,trivial⟩ ⟨congrArg (fun x=>some (AO.row 4 1 x)) ?_,trivial⟩,⟨hlt,hL.rem hlt hs,(fun h=>nomatch h),by show (L.set i false).count true≤_;omega,fun _=>by show (L.set i false).count true<_;omega⟩,dec hlt⟩
   rw[List.map_set];rfl
  ·have h2:(L.getD i false&&!hasS g L i)=false:=h2
   refine⟨trivial,(i+1,L,c),Wk.sub ⟨slotI (wr1 hlt hg.len),rfl,rfl,rfl,rfl,rfl,trivial⟩ ⟨rfl,trivial⟩,⟨hlt,hL,fun hcf y hy hyl=>?_,hle,hlt'⟩,dec hlt⟩
   by_cases e:y=i
   ·subst e
    have hyl:L.getD y false=true:=hyl
    rw[hyl,Bool.true_and] at h2
    simpa using h2
   ·exact hc hcf y (by have hy:y<i+1:=hy;omega) hyl
end
section
def rhJ (g:Gr) (h b:Nat) (k:Nat):Bool:=((k:Int)==(h:Int))&&(!(rRL g 0 h).getD b false||((b:Int)==(h:Int)))
def rhB (g:Gr) (h b:Nat):Bool:=(rRL g 0 (-1)).getD b false&&(g.getD b []).any (rhJ g h b)
def rhH (g:Gr) (h:Nat):Bool:=(rRL g 0 (-1)).getD h false&&(List.range g.length).any (rhB g h)
def rmk (g:Gr) (h:Nat) (c:Bool):List Bool:=(List.range h).map (rhH g)++c::List.replicate (g.length-(h+1)) false
def rmk0 (g:Gr) (h:Nat):List Bool:=(List.range h).map (rhH g)++List.replicate (g.length-h) false
omit [Gm] in
theorem rmk_len {g:Gr} {h:Nat} (hh:h<g.length) (c:Bool):(rmk g h c).length=g.length:=by unfold rmk;simp;omega
omit [Gm] in
theorem rmk0_eq {g:Gr} {h:Nat} (hh:h<g.length):rmk0 g h=rmk g h false:=by
 unfold rmk0 rmk
 rw[show g.length-h=(g.length-(h+1))+1 by omega,List.replicate_succ]
omit [Gm] in
theorem rmk_next {g:Gr} {h:Nat}:rmk g h (rhH g h)=rmk0 g (h+1):=by
 unfold rmk rmk0
 rw[List.range_succ,List.map_append,List.append_assoc];rfl
omit [Gm] in
theorem rmk_set {g:Gr} {h:Nat} (c d:Bool):(rmk g h c).set h d=rmk g h d:=by
 unfold rmk
 rw[List.set_append_right _ _ (by simp)]
 simp
theorem rLoops_ent:Ent Tryz.prog 10:=fun a w=>Tryz.call10 a w
theorem rLoops_bad (cs:List TV) (hc:cs.length=4) (e:Int) (he:e≠0) (hgr:PC Tryz.prog 21 [.agg cs] (.tup [nilT,tI e])):PC Tryz.prog 10 [.agg cs] (.tup [nilT,tB false,tI e]):=by
 match cs,hc with
 | [x1,x2,x3,x4],_ =>
 refine PC.of_ok tok Tryz.func10 rfl (Nat.le_of_ble_eq_true rfl) (ev_sound ctx (own:=[]) _ _ _ ?_)
 refine⟨graph_ent,.inl ⟨_,hgr,?_⟩⟩
 refine⟨fun _=>?_,fun h=>?_⟩
 ·exact rfl
 ·have h:(e != 0)=false:=h
  exact absurd (by simpa using h) he
theorem rReach_ent:Ent Tryz.prog 12:=fun a w=>Tryz.call12 a w
theorem rReach_bad (cs:List TV) (hc:cs.length=4) (e:Int) (he:e≠0) (hgr:PC Tryz.prog 21 [.agg cs] (.tup [nilT,tI e])):PC Tryz.prog 12 [.agg cs] (.tup [nilT,tI e]):=by
 match cs,hc with
 | [x1,x2,x3,x4],_ =>
 refine PC.of_ok tok Tryz.func12 rfl (Nat.le_of_ble_eq_true rfl) (ev_sound ctx (own:=[]) _ _ _ ?_)
 refine⟨graph_ent,.inl ⟨_,hgr,?_⟩⟩
 refine⟨fun _=>?_,fun h=>?_⟩
 ·exact rfl
 ·have h:(e != 0)=false:=h
  exact absurd (by simpa using h) he
theorem rReach_good (cs:List TV) (hc:cs.length=4) (g:Gr) (hg:GrOK g) (hgr:PC Tryz.prog 21 [.agg cs] (.tup [encG g,tI 0])):PC Tryz.prog 12 [.agg cs] (.tup [encN (idxOf (rRL g 0 (-1))),tI 0]):=by
 have hr:=rq_spec g hg (-1)
 have hl:=rlist_spec (rRL g 0 (-1)) (by rw[rRL_len];exact hg.sm)
 match cs,hc with
 | [x1,x2,x3,x4],_ =>
 refine PC.of_ok tok Tryz.func12 rfl (Nat.le_of_ble_eq_true rfl) (ev_sound ctx (own:=[]) _ _ _ ?_)
 refine⟨graph_ent,.inl ⟨_,hgr,?_⟩⟩
 refine⟨fun h=>absurd h (by decide),fun _=>?_⟩
 refine⟨rq_ent,.inl ⟨_,hr,?_⟩⟩
 refine⟨rlist_ent,.inl ⟨_,hl,?_⟩⟩
 exact rfl
def rchR (f:Fm) (x:SE) (_:List AO):Prop :=
 (x=.ret (.tup [encN (idxOf (reachL (graphOf f) (-1))),tI 0])∧shapedB f=true)∨(∃ e,x=.ret (.tup [nilT,tI e])∧EE f e∧¬ shapedB f=true)
theorem pReach_ent:Ent Tryz.prog 11:=fun a w=>Tryz.call11 a w
theorem pReach_spec (L:LF) (f:Fm) (hf:Fit f) (hlow:Low f):SC Tryz.prog 11 [] [.t f.enc] (rchR f):=by
 have hsp:=shaped_spec L f hf hlow
 have hpre:=shaped_pre f hf hlow
 unfold rchR graphOf
 unfold shpR at hsp
 have hen:f.enc=.agg [tI f.kind,tI f.num,tS f.text,encs f.kids]:=by cases f;rfl
 rw[hen] at hsp ⊢
 generalize blksOf (f.kids.drop 4)=bs at hsp hpre ⊢
 generalize shapedB f=A at hsp hpre ⊢
 generalize f.kind=k at hsp ⊢
 generalize f.num=n at hsp ⊢
 generalize f.text=t at hsp ⊢
 generalize f.kids=ks at hsp ⊢
 refine SC.of_ok tok Tryz.func11 rfl (Nat.le_of_ble_eq_true rfl) (Nat.le_of_ble_eq_true rfl) (ev_sound ctx (own:=[9999,10019]) _ _ _ ?_)
 refine⟨shaped_ent,[],[],_,_,hsp,rfl,rfl,trivial,fun r os' _ h=>?_,fun r os' _ h=>?_⟩
 ·rcases h with⟨cs,h1,h2⟩ | ⟨e,cs,h1,h2,h3⟩
  ·injection h1 with h1
   subst h1
   refine⟨fun h=>absurd h (by decide),fun _=>?_⟩
   have hp:=hpre h2
   have hg:=pre_gr hp
   have hsx:=psucc_specX cs hp
   generalize sucG bs=g at hg hsx ⊢
   have hr:=reached_spec g hg (-1)
   have hi:=indices_spec (reachL g (-1)) (by rw[reachL_len];exact hg.sm)
   refine⟨psucc_ent,.inl ⟨_,hsx,?_⟩⟩
   refine⟨reached_ent,.inl ⟨_,hr,?_⟩⟩
   refine⟨indices_ent,.inl ⟨_,hi,?_⟩⟩
   exact⟨[],.inl ⟨rfl,h2⟩,rfl,rfl,trivial⟩
  ·injection h1 with h1
   subst h1
   refine⟨fun _=>?_,fun h=>?_⟩
   ·exact⟨[],.inr ⟨e,rfl,h2,h3⟩,rfl,rfl,trivial⟩
   ·have h:(e != 0)=false:=h
    exact absurd (by simpa using h) h2.ne
 ·rcases h with⟨cs,h1,_⟩ | ⟨e,cs,h1,_⟩ <;> cases h1
theorem rLoops_good (cs:List TV) (hc:cs.length=4) (g:Gr) (hg:GrOK g) (hgr:PC Tryz.prog 21 [.agg cs] (.tup [encG g,tI 0])) :
  PC Tryz.prog 10 [.agg cs] (.tup [encN (idxOf (rmk0 g g.length)),tB (!rcirc g (rRL g 0 (-1)) (rmk0 g g.length)),tI 0]):=by
 have hgl:((g.map fun l=>[encN l]).length:Int)=(g.length:Int):=by simp
 have hsm:=hg.sm
 have hr:=rq_spec g hg (-1)
 have hrl:=rRL_len g 0 (-1)
 have hl:=rlist_spec (rmk0 g g.length) (by unfold rmk0;simp;exact hsm)
 have hci:=rcirc_spec g hg (rRL g 0 (-1)) (rmk0 g g.length) hrl (by unfold rmk0;simp)
 have hrp:∀ n:Nat,(n:Int)=(g.length:Int)→List.replicate ((n:Nat):Int).toNat [tB false]=(rmk0 g 0).map cB:=fun n h=>by
  have:n=g.length:=by omega
  subst this
  rw[Int.toNat_natCast];simp[rmk0,cB]
 match cs,hc with
 | [x1,x2,x3,x4],_ =>
 refine PC.of_ok tok Tryz.func10 rfl (Nat.le_of_ble_eq_true rfl) (ev_sound ctx (own:=[25]) _ _ _ ?_)
 refine⟨graph_ent,.inl ⟨_,hgr,?_⟩⟩
 refine⟨fun h=>absurd h (by decide),fun _=>?_⟩
 refine⟨rq_ent,.inl ⟨_,hr,?_⟩⟩
 refine⟨Int.natCast_nonneg _,Int.le_refl _,by rw[hgl];omega,by rw[hgl,Int.toNat_natCast];show g.length*1≤_;omega,?_⟩
 refine Ok.loop (st:=fun h:Nat=>⟨[(9,vi h),(8,.sl 25),(7,.t (encB (rRL g 0 (-1)))),(5,.t (encG g))],[(25,.row 4 1 ((rmk0 g h).map cB))]⟩) (R:=fun h=>h≤g.length) (μ:=fun h=>g.length-h) 0
  (Wk.sub ⟨rfl,rfl,rfl,rfl,trivial⟩ ⟨congrArg (fun x=>some (AO.row 4 1 x)) (hrp _ hgl),trivial⟩) (Nat.zero_le _) ?_
 intro h hh
 have hh:h≤g.length:=hh
 refine ev_sound ctx (own:=[25]) _ _ _ ?_
 refine⟨fun hx=>?_,fun hx=>?_⟩
 rotate_left
 ·have hge:g.length≤h:=geOf (by rw[←hgl];exact hx)
  have he:h=g.length:=Nat.le_antisymm hh hge
  subst he
  refine .inl ⟨rlist_ent,.inl ⟨_,hl,?_⟩⟩
  refine⟨rcirc_ent,.inl ⟨_,hci,?_⟩⟩
  exact rfl
 have hlt:h<g.length:=ltOf (by rw[←hgl];exact hx)
 clear hx
 have hrh:=rq_spec g hg (h:Int)
 have hrlh:=rRL_len g 0 (h:Int)
 have hH:rhH g h=((rRL g 0 (-1)).getD h false&&(List.range g.length).any (rhB g h)):=rfl
 have hB:∀ b,rhB g h b=((rRL g 0 (-1)).getD b false&&(g.getD b []).any (rhJ g h b)):=fun _=>rfl
 have hJ:∀ b k,rhJ g h b k=(((k:Int)==(h:Int))&&(!(rRL g 0 h).getD b false||((b:Int)==(h:Int)))):=fun _ _=>rfl
 have hnext:=rmk_next (g:=g) (h:=h)
 have h0:=rmk0_eq hlt
 have hset:=fun c d=>rmk_set (g:=g) (h:=h) c d
 have hrml:=fun c=>rmk_len hlt c
 have hsn:=getB (L:=rRL g 0 (-1)) (i:=h) (by rw[hrl];exact hlt)
 refine⟨rq_ent,.inl ⟨_,hrh,?_⟩⟩
 generalize rRL g 0 (h:Int)=AR at hrlh hJ ⊢
 generalize rRL g 0 (-1)=SN at hrl hH hB hsn ⊢
 have hend:rmk g h (rhH g h)=rmk0 g (h+1):=hnext
 refine Ok.loop (st:=fun b:Nat=>⟨[(11,vi b),(10,.t (encB AR)),(9,vi h),(8,.sl 25),(7,.t (encB SN)),(5,.t (encG g))],[(25,.row 4 1 ((rmk g h ((List.range b).any (rhB g h))).map cB))]⟩)
  (R:=fun b=>b≤g.length∧(SN.getD h false=false→b=0)) (μ:=fun b=>g.length-b) 0
  (Wk.sub ⟨rfl,rfl,rfl,rfl,rfl,rfl,trivial⟩ ⟨congrArg (fun x:List Bool=>some (AO.row 4 1 (x.map cB))) h0,trivial⟩) ⟨Nat.zero_le _,fun _=>rfl⟩ ?_
 rintro b ⟨hb,hb0⟩
 have hb:b≤g.length:=hb
 have hb0:SN.getD h false=false→b=0:=hb0
 refine ev_sound ctx (own:=[25]) _ _ _ ?_
 refine⟨cB (SN.getD h false),fun _=>hsn,?_⟩
 refine⟨fun hx=>?_,fun hx=>?_⟩
 rotate_left
 ·have hx:(decide ((b:Int)<((g.map fun l=>[encN l]).length:Int))&&SN.getD h false)=false:=hx
  have hrow:rmk g h ((List.range b).any (rhB g h))=rmk0 g (h+1):=by
   rw[←hend,hH]
   cases hs:SN.getD h false with
   | false=>rw[hb0 hs];rfl
   | true =>
    rw[hs,Bool.and_true] at hx
    have hge:g.length≤b:=geOf (by rw[←hgl];exact hx)
    have:b=g.length:=Nat.le_antisymm hb hge
    subst this;rfl
  exact⟨trivial,h+1,Wk.sub ⟨slotI (wr1 hlt hg.len),rfl,rfl,rfl,trivial⟩ ⟨congrArg (fun x:List Bool=>some (AO.row 4 1 (x.map cB))) hrow,trivial⟩,hlt,dec hlt⟩
 have hx:(decide ((b:Int)<((g.map fun l=>[encN l]).length:Int))&&SN.getD h false)=true:=hx
 rw[Bool.and_eq_true] at hx
 have hltb:b<g.length:=ltOf (by rw[←hgl];exact hx.1)
 have hsh:=hx.2
 clear hx
 have hgetG:(0:Int)≤(b:Int)∧(g.map fun l=>[encN l])[((b:Nat):Int).toNat]?=some [encN g[b]]:=⟨Int.natCast_nonneg b,by simp[List.getElem?_eq_getElem hltb]⟩
 have hgb:g.getD b []=g[b]:=by simp[List.getD,List.getElem?_eq_getElem hltb]
 have hlen:=hg.lenl _ (List.getElem_mem hltb)
 have hltl:=hg.lt _ (List.getElem_mem hltb)
 have hBb:=hB b
 have hJb:=hJ b
 have hany:=anyRange (rhB g h) b
 rw[hgb] at hBb
 generalize g[b]=l at hgetG hlen hltl hBb
 have hml2:((l.map cI).length:Int)=(l.length:Int):=by rw[List.length_map]
 have hsb:=getB (L:=SN) (i:=b) (by rw[hrl];exact hltb)
 have hab:=getB (L:=AR) (i:=b) (by rw[hrlh];exact hltb)
 generalize (List.range b).any (rhB g h)=c0 at hany ⊢
 refine Ok.loop (st:=fun j:Nat=>⟨[(12,vi j),(11,vi b),(10,.t (encB AR)),(9,vi h),(8,.sl 25),(7,.t (encB SN)),(5,.t (encG g))],[(25,.row 4 1 ((rmk g h (c0||(l.take j).any (rhJ g h b))).map cB))]⟩)
  (R:=fun j=>j≤l.length∧(SN.getD b false=false→j=0)) (μ:=fun j=>l.length-j) 0
  (Wk.sub ⟨rfl,rfl,rfl,rfl,rfl,rfl,rfl,trivial⟩ ⟨congrArg (fun x:Bool=>some (AO.row 4 1 ((rmk g h x).map cB))) (by simp),trivial⟩) ⟨Nat.zero_le _,fun _=>rfl⟩ ?_
 rintro j ⟨hj,hj0⟩
 have hj:j≤l.length:=hj
 have hj0:SN.getD b false=false→j=0:=hj0
 refine ev_sound ctx (own:=[25]) _ _ _ ?_
 refine⟨cB (SN.getD b false),hsb,?_⟩
 refine⟨_,fun _=>hgetG,?_⟩
 refine⟨fun hx=>?_,fun hx=>?_⟩
 rotate_left
 ·have hx:(SN.getD b false&&decide ((j:Int)<((l.map cI).length:Int)))=false:=hx
  have hrow:(c0||(l.take j).any (rhJ g h b))=(List.range (b+1)).any (rhB g h):=by
   rw[hany,hBb]
   cases hs:SN.getD b false with
   | false=>rw[hj0 hs];simp
   | true =>
    rw[hs,Bool.true_and] at hx
    have hge:l.length≤j:=geOf (by rw[←hml2];exact hx)
    rw[List.take_of_length_le hge,Bool.true_and]
  exact⟨trivial,b+1,Wk.sub ⟨slotI (wr1 hltb hg.len),rfl,rfl,rfl,rfl,rfl,trivial⟩ ⟨congrArg (fun x:Bool=>some (AO.row 4 1 ((rmk g h x).map cB))) hrow,trivial⟩,⟨hltb,fun e=>by rw[hsh] at e;cases e⟩,dec hltb⟩
 have hx:(SN.getD b false&&decide ((j:Int)<((l.map cI).length:Int)))=true:=hx
 rw[Bool.and_eq_true] at hx
 have hltj:j<l.length:=ltOf (by rw[←hml2];exact hx.2)
 have hsbt:=hx.1
 clear hx
 have hgetL:(0:Int)≤(j:Int)∧(l.map cI)[((j:Nat):Int).toNat]?=some (cI l[j]):=getM hltj
 have hnx:(l.take (j+1)).any (rhJ g h b)=((l.take j).any (rhJ g h b)||rhJ g h b l[j]):=by
  rw[List.take_add_one,List.getElem?_eq_getElem hltj,List.any_append];simp
 have hJk:=hJb l[j]
 generalize l[j]=k at hgetL hnx hJk
 refine⟨_,hgetG,?_⟩
 refine⟨_,hgetL,?_⟩
 refine⟨cB (AR.getD b false),fun _=>hab,?_⟩
 refine⟨fun h2=>?_,fun h2=>?_⟩
 ·have h2:rhJ g h b k=true:=hJk.trans h2
  rw[h2,Bool.or_true] at hnx
  have hil:h<(rmk g h (c0||(l.take j).any (rhJ g h b))).length:=by rw[hrml];exact hlt
  refine⟨⟨Int.natCast_nonneg h,by rw[List.length_map];omega⟩,cB ((rmk g h (c0||(l.take j).any (rhJ g h b))).getD h false),(getB hil).2,?_⟩
  refine⟨trivial,j+1,Wk.sub ⟨slotI (wr1 hltj hlen),rfl,rfl,rfl,rfl,rfl,rfl,trivial⟩ ⟨congrArg (fun x=>some (AO.row 4 1 x)) ?_,trivial⟩,⟨hltj,fun e=>by rw[hsbt] at e;cases e⟩,dec hltj⟩
  rw[hnx,Bool.or_true,←hset (c0||(l.take j).any (rhJ g h b)) true,List.map_set];rfl
 ·have h2:rhJ g h b k=false:=hJk.trans h2
  rw[h2,Bool.or_false] at hnx
  exact⟨trivial,j+1,Wk.sub ⟨slotI (wr1 hltj hlen),rfl,rfl,rfl,rfl,rfl,rfl,trivial⟩ ⟨congrArg (fun x:Bool=>some (AO.row 4 1 ((rmk g h (c0||x)).map cB))) hnx.symm,trivial⟩,⟨hltj,fun e=>by rw[hsbt] at e;cases e⟩,dec hltj⟩
end
end Go.Proofs.YtihbimigddlbaaaGreatDoor.L
end
