/- A part of the proof: PmW6 PmW7 PmW8 PmW9 PmW10 PmW11 PmW12 PmW13 PmW14 PmW15. -/
import Derived.Test.YtihbimigddlbaaaGreatDoorUnE
import Derived.Test.YtihbimigddlbaaaGreatDoorUnD
noncomputable section
set_option linter.all false
namespace Go.Proofs.YtihbimigddlbaaaGreatDoor.L
open Go Go.RowKit Go.Proofs.YtihbimigddlbaaaGreatDoor.Pl
variable [Gm]
set_option maxRecDepth 10000
section
def rS (wo:Int) (Q:List Nat) (k:Nat):List Nat:=if (((k:Int) != wo)&&!Q.contains k)=true then Q++[k] else Q
def rO (g:Gr) (wo:Int):Nat→Nat→List Nat→List Nat
 | 0,_,Q=>Q
 | f+1,i,Q=>if i<Q.length then rO g wo f (i+1) ((g.getD (Q.getD i 0) []).foldl (rS wo) Q) else Q
def rRch (g:Gr) (fr:Nat) (wo:Int):List Nat:=if (((fr:Int)==wo)||decide ((fr:Int)≥(g.length:Int)))=true then [] else rO g wo (g.length+1) 0 [fr]
def rRL (g:Gr) (fr:Nat) (wo:Int):List Bool:=toL g (rRch g fr wo)
omit [Gm] in
theorem rS_pre (wo:Int) (Q:List Nat) (k:Nat):Q <+: rS wo Q k:=by
 unfold rS;split
 ·exact List.prefix_append _ _
 ·exact List.prefix_refl _
omit [Gm] in
theorem rSs_pre (wo:Int):∀ (l Q:List Nat),Q <+: l.foldl (rS wo) Q
 | [],Q=>List.prefix_refl _
 | k::l,Q=>(rS_pre wo Q k).trans (rSs_pre wo l _)
omit [Gm] in
theorem rS_ok {g:Gr} {wo:Int} {Q:List Nat} {k:Nat} (hk:k<g.length) (hn:Q.Nodup) (hl:∀ q∈Q,q<g.length):(rS wo Q k).Nodup∧∀ q∈rS wo Q k,q<g.length:=by
 unfold rS
 split
 ·rename_i h
  rw[Bool.and_eq_true] at h
  have hc:k∉Q:=by have:=h.2;simpa using this
  refine⟨?_,fun q hq=>?_⟩
  ·rw[List.nodup_append]
   exact⟨hn,by simp,fun a ha b hb=>by simp at hb;subst hb;exact fun e=>hc (e ▸ ha)⟩
  ·rcases List.mem_append.1 hq with hq | hq
   ·exact hl q hq
   ·simp at hq;omega
 ·exact⟨hn,hl⟩
omit [Gm] in
theorem rSs_ok {g:Gr} {wo:Int}:∀ (l Q:List Nat),(∀ k∈l,k<g.length)→Q.Nodup→(∀ q∈Q,q<g.length)→(l.foldl (rS wo) Q).Nodup∧∀ q∈l.foldl (rS wo) Q,q<g.length
 | [],Q,_,hn,hl=>⟨hn,hl⟩
 | k::l,Q,hk,hn,hl =>
  have h1:=rS_ok (wo:=wo) (hk k (List.mem_cons_self ..)) hn hl
  rSs_ok l _ (fun k h=>hk k (List.mem_cons_of_mem _ h)) h1.1 h1.2
end
section
def hS (g:Gr) (i:Nat) (H:List Bool) (k:Nat):List Bool:=if (((i:Int)==(k:Int))||!(rRL g 0 k).getD i false)=true then H.set k true else H
omit [Gm] in
theorem rRL_len (g:Gr) (fr:Nat) (wo:Int):(rRL g fr wo).length=g.length:=toL_len g _
end
section
def LP (g:Gr) (ks:List Nat) (s:List Nat×Bool):Prop:=unseen g s.1≤unseen g ks∧(s.2=true→unseen g s.1<unseen g ks)
theorem rSucc_ent:Ent Tryz.prog 7:=fun a w=>Tryz.call7 a w
end
section
end
section
end
section
end
section
end
section
def asgF (c:Fm):List Fm :=
 if hEq c sAssign=true then [c.kids.getD 1 w0]
 else if hEq c sHavoc=true then c.kids.drop 1
 else if hEq c sInvoke=true then (c.kids.getD 1 w0).kids
 else []
def rFms (b:Fm):List Fm:=(b.kids.drop 2).flatMap asgF
def rNms (BS:List Fm) (l:List Int):List Fm:=l.flatMap fun i=>rFms (BS.getD i.toNat w0)
structure RsOK (BS:List Fm) (l:List Int):Prop where
 fit:∀ b∈BS,Fit b
 asg:∀ b∈BS,∀ c∈b.kids.drop 2,hEq c sAssign=true→2≤c.kids.length
 hav:∀ b∈BS,∀ c∈b.kids.drop 2,hEq c sHavoc=true→1≤c.kids.length
 inv:∀ b∈BS,∀ c∈b.kids.drop 2,hEq c sInvoke=true→2≤c.kids.length
 word:∀ b∈BS,∀ c∈b.kids.drop 2,∀ w∈asgF c,w.kind=1
 all:(rNms BS l).length≤2000000000000
end
section
def cz (n:Int):List TV:=[tI n]
def encI (R:List (List Int)):TV:=.sl 1 (R.map fun r=>[.sl 1 (r.map cz)])
def posI (n:Int):Bool:=!decide (n<0)
def grT (R:List (List Int)):TV:=if (R.all fun r=>r.all posI)=true then .tup [encI R,tI 0] else .tup [nilT,tI 6]
theorem graph_ent:Ent Tryz.prog 21:=fun a w=>Tryz.call21 a w
theorem read_ent:Ent Tryz.prog 44:=fun a w=>Tryz.call44 a w
theorem graph_bad (cs:List TV) (hc:cs.length=4) (ps:List TV) (hp:ps.length=8) (hrd:PC Tryz.prog 44 [.agg cs] (.tup [.agg ps,tB false])):PC Tryz.prog 21 [.agg cs] (.tup [nilT,tI 4]):=by
 match cs,hc,ps,hp with
 | [x1,x2,x3,x4],_,[y1,y2,y3,y4,y5,y6,y7,y8],_ =>
 refine PC.of_ok tok Tryz.func21 rfl (Nat.le_of_ble_eq_true rfl) (ev_sound ctx (own:=[]) _ _ _ ?_)
 refine⟨read_ent,.inl ⟨_,hrd,?_⟩⟩
 refine⟨fun _=>?_,fun h=>absurd h (by decide)⟩
 exact rfl
theorem graph_good (cs:List TV) (hc:cs.length=4) (ps:List TV) (hp:ps.length=8) (R:List (List Int)) (hR:R.length≤maxLen) (hRl:∀ r∈R,r.length≤maxLen) (hrd:PC Tryz.prog 44 [.agg cs] (.tup [.agg ps,tB true])) (hsc:PC Tryz.prog 45 [.agg ps] (encI R)) :
  PC Tryz.prog 21 [.agg cs] (grT R):=by
 have hT1:(R.all fun r=>r.all posI)=true→grT R=.tup [encI R,tI 0]:=fun h=>by unfold grT;rw[if_pos h]
 have hT2:(R.all fun r=>r.all posI)=false→grT R=.tup [nilT,tI 6]:=fun h=>by unfold grT;rw[if_neg (by rw[h];simp)]
 generalize grT R=T at hT1 hT2
 have hRm:((R.map fun r=>[TV.sl 1 (r.map cz)]).length:Int)=(R.length:Int):=by rw[List.length_map]
 match cs,hc,ps,hp with
 | [x1,x2,x3,x4],_,[y1,y2,y3,y4,y5,y6,y7,y8],_ =>
 refine PC.of_ok tok Tryz.func21 rfl (Nat.le_of_ble_eq_true rfl) (ev_sound ctx (own:=[]) _ _ _ ?_)
 refine⟨read_ent,.inl ⟨_,hrd,?_⟩⟩
 refine⟨fun h=>absurd h (by decide),fun _=>?_⟩
 refine⟨rsucc_ent,.inl ⟨_,hsc,?_⟩⟩
 refine Ok.loop (st:=fun i:Nat=>⟨[(7,vi i),(6,.t (encI R))],[]⟩) (R:=fun i=>i≤R.length∧(R.take i).all (fun r=>r.all posI)=true) (μ:=fun i=>R.length-i) 0 (Wk.sub ⟨rfl,rfl,trivial⟩ trivial) ⟨Nat.zero_le _,rfl⟩ ?_
 rintro i ⟨hi,hall⟩
 have hi:i≤R.length:=hi
 have hall:(R.take i).all (fun r=>r.all posI)=true:=hall
 refine ev_sound ctx (own:=[]) _ _ _ ?_
 refine⟨fun hx=>?_,fun hx=>?_⟩
 rotate_left
 ·have hge:R.length≤i:=geOf (by rw[←hRm];exact hx)
  rw[List.take_of_length_le hge] at hall
  exact toEq (hT1 hall).symm
 have hlt:i<R.length:=ltOf (by rw[←hRm];exact hx)
 have hget:(0:Int)≤(i:Int)∧(R.map fun r=>[TV.sl 1 (r.map cz)])[((i:Nat):Int).toNat]?=some [TV.sl 1 (R[i].map cz)]:=getM hlt
 have hmem:R[i]∈R:=List.getElem_mem hlt
 have hrl:=hRl _ hmem
 have htk:R.take (i+1)=R.take i++[R[i]]:=by rw[List.take_add_one,List.getElem?_eq_getElem hlt];rfl
 generalize R[i]=r at hget hmem hrl htk
 have hrm:((r.map cz).length:Int)=(r.length:Int):=by rw[List.length_map]
 refine Ok.loop (st:=fun j:Nat=>⟨[(8,vi j),(7,vi i),(6,.t (encI R))],[]⟩) (R:=fun j=>j≤r.length∧(r.take j).all posI=true) (μ:=fun j=>r.length-j) 0 (Wk.sub ⟨rfl,rfl,rfl,trivial⟩ trivial) ⟨Nat.zero_le _,rfl⟩ ?_
 rintro j ⟨hj,hjall⟩
 have hj:j≤r.length:=hj
 have hjall:(r.take j).all posI=true:=hjall
 by_cases hlj:j<r.length
 ·have hgj:(0:Int)≤(j:Int)∧(r.map cz)[((j:Nat):Int).toNat]?=some (cz r[j]):=getM hlj
  have hmj:r[j]∈r:=List.getElem_mem hlj
  have htj:r.take (j+1)=r.take j++[r[j]]:=by rw[List.take_add_one,List.getElem?_eq_getElem hlj];rfl
  generalize r[j]=z at hgj hmj htj
  have hjd:decide ((j:Int)<((r.map cz).length:Int))=true:=by rw[hrm];exact decide_eq_true (by omega)
  have hbad:z<0→T=.tup [nilT,tI 6]:=fun h=>hT2 (by
   cases hq:R.all fun r=>r.all posI with
   | false=>rfl
   | true =>
    have:=List.all_eq_true.1 (List.all_eq_true.1 hq r hmem) z hmj
    unfold posI at this
    rw[decide_eq_true h] at this;cases this)
  have hgood:¬ z<0→(r.take (j+1)).all posI=true:=fun h=>by
   rw[htj,List.all_append,hjall]
   simp[posI,h]
  refine ev_sound ctx (own:=[]) _ _ _ ?_
  refine⟨_,hget,?_⟩
  refine⟨fun _=>?_,fun hx=>Bool.noConfusion (hjd.symm.trans hx)⟩
  refine⟨_,hget,?_⟩
  refine⟨_,hgj,?_⟩
  refine⟨fun h=>toEq (hbad (of_decide_eq_true h)).symm,fun h=>?_⟩
  exact⟨trivial,j+1,Wk.sub ⟨slotI (wr1 hlj hrl),rfl,rfl,trivial⟩ trivial,⟨hlj,hgood (of_decide_eq_false h)⟩,dec hlj⟩
 ·have hnx:(R.take (i+1)).all (fun r=>r.all posI)=true:=by
   rw[List.take_of_length_le (by omega)] at hjall
   rw[htk,List.all_append,hall]
   simp only[List.all_cons,List.all_nil,Bool.true_and,Bool.and_true]
   exact hjall
  refine ev_sound ctx (own:=[]) _ _ _ ?_
  refine⟨_,hget,?_⟩
  refine⟨fun hx=>absurd (ltOf (by rw[←hrm];exact hx)) hlj,fun hx=>?_⟩
  exact⟨trivial,i+1,Wk.sub ⟨slotI (wr1 hlt hR),rfl,trivial⟩ trivial,⟨hlt,hnx⟩,dec hlt⟩
theorem rsucc_of (cs:List TV) (hc:cs.length=4) (x y:TV) (h:PC Tryz.prog 21 [.agg cs] (.tup [x,y])):PC Tryz.prog 7 [.agg cs] (.tup [x,y]):=by
 match cs,hc with
 | [x1,x2,x3,x4],_ =>
 refine PC.of_ok tok Tryz.func7 rfl (Nat.le_of_ble_eq_true rfl) (ev_sound ctx (own:=[]) _ _ _ ?_)
 refine⟨graph_ent,.inl ⟨_,h,?_⟩⟩
 exact rfl
end
section
end
end Go.Proofs.YtihbimigddlbaaaGreatDoor.L
end
