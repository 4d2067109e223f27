/- A part of the proof: PmX1 PmX2 PmX3 PmX4 PmX5 PmX6 PmX7 PmX8. -/
import Derived.Test.YtihbimigddlbaaaGreatDoorUnF
import Derived.Test.YtihbimigddlbaaaGreatDoorUnD
noncomputable section
set_option linter.all false
namespace Go.Proofs.YtihbimigddlbaaaGreatDoor.L
open Go Go.RowKit Go.Proofs.YtihbimigddlbaaaGreatDoor.Pl
section
inductive Rch (g:Gr) (wo:Int) (a:Nat):Nat→Prop
 | refl (h:(a:Int)≠wo):Rch g wo a a
 | step {b c:Nat} (h:Rch g wo a b) (hc:c∈g.getD b []) (hw:(c:Int)≠wo):Rch g wo a c
theorem rS_mem {wo:Int} {Q:List Nat} {k x:Nat} (h:x∈rS wo Q k):x∈Q∨(x=k∧(k:Int)≠wo):=by
 unfold rS at h
 split at h
 ·rename_i hc
  rw[Bool.and_eq_true] at hc
  rcases List.mem_append.1 h with h | h
  ·exact .inl h
  ·simp at h;exact .inr ⟨h,by simpa using hc.1⟩
 ·exact .inl h
theorem rSs_mem {wo:Int}:∀ {l Q:List Nat} {x:Nat},x∈l.foldl (rS wo) Q→x∈Q∨(x∈l∧(x:Int)≠wo)
 | [],Q,x,h=>.inl h
 | k::l,Q,x,h=>by
  rcases rSs_mem (l:=l) h with h | ⟨h,hw⟩
  ·rcases rS_mem h with h | ⟨rfl,hw⟩
   ·exact .inl h
   ·exact .inr ⟨List.mem_cons_self ..,hw⟩
  ·exact .inr ⟨List.mem_cons_of_mem _ h,hw⟩
theorem rS_in {wo:Int} {Q:List Nat} {k:Nat} (hw:(k:Int)≠wo):k∈rS wo Q k:=by
 unfold rS
 split
 ·simp
 ·rename_i hc
  have h1:((k:Int) != wo)=true:=by simpa using hw
  rw[h1,Bool.true_and] at hc
  simpa using hc
theorem rSs_in {wo:Int}:∀ {l Q:List Nat} {k:Nat},k∈l→(k:Int)≠wo→k∈l.foldl (rS wo) Q
 | x::l,Q,k,hk,hw=>by
  rcases List.mem_cons.1 hk with e | hk
  ·subst e;exact (rSs_pre wo l _).subset (rS_in hw)
  ·exact rSs_in (l:=l) hk hw
theorem getD_at {α:Type} {g:List α} {q:Nat} (h:q<g.length) (d:α):g.getD q d=g[q]:=by simp[List.getD,List.getElem?_eq_getElem h]
theorem rO_ok (g:Gr) (hg:GrOK g) (wo:Int) (a:Nat):∀ (f i:Nat) (Q:List Nat),g.length-i<f→Q.Nodup→(∀ q∈Q,q<g.length)→(∀ q∈Q,Rch g wo a q) →
  (∀ p,p<i→∀ k∈g.getD (Q.getD p 0) [],(k:Int)≠wo→k∈Q)→i≤Q.length →
  Q <+: rO g wo f i Q∧(∀ q∈rO g wo f i Q,Rch g wo a q)∧∀ q∈rO g wo f i Q,∀ k∈g.getD q [],(k:Int)≠wo→k∈rO g wo f i Q
 | 0,i,Q,hf,_,_,_,_,_=>absurd hf (by omega)
 | f+1,i,Q,hf,hn,hl,hr,hc,hi=>by
  unfold rO
  by_cases h:i<Q.length
  ·rw[if_pos h]
   have hqi:Q.getD i 0=Q[i]:=by simp[List.getD,List.getElem?_eq_getElem h]
   have hqm:Q.getD i 0∈Q:=by rw[hqi];exact List.getElem_mem h
   have hql:=hl _ hqm
   have hltl:∀ k∈g.getD (Q.getD i 0) [],k<g.length:=fun k hk=>by
    have:g.getD (Q.getD i 0) []=g[Q.getD i 0]:=getD_at hql _
    rw[this] at hk
    exact hg.lt _ (List.getElem_mem hql) k hk
   have hok:=rSs_ok (g:=g) (wo:=wo) (g.getD (Q.getD i 0) []) Q hltl hn hl
   have hp:=rSs_pre wo (g.getD (Q.getD i 0) []) Q
   have hsub:=hp.subset
   have hpl:=hp.length_le
   have hnl:=nodup_len hn hl
   have hget:∀ p,p<Q.length→((g.getD (Q.getD i 0) []).foldl (rS wo) Q).getD p 0=Q.getD p 0:=fun p hpq=>by
    obtain⟨r,hr⟩:=hp
    rw[←hr]
    simp[List.getD,List.getElem?_append_left hpq]
   have ih:=rO_ok g hg wo a f (i+1) ((g.getD (Q.getD i 0) []).foldl (rS wo) Q) (by omega) hok.1 hok.2 (fun q hq=>by
    rcases rSs_mem hq with hq | ⟨hq,hw⟩
    ·exact hr q hq
    ·exact .step (hr _ hqm) hq hw) (fun p hpi k hk hw=>by
    rw[hget p (by omega)] at hk
    by_cases e:p=i
    ·subst e;exact rSs_in hk hw
    ·exact hsub (hc p (by omega) k hk hw)) (by omega)
   exact⟨hp.trans ih.1,ih.2⟩
  ·rw[if_neg h]
   refine⟨List.prefix_refl _,hr,fun q hq k hk hw=>?_⟩
   obtain⟨p,hp,rfl⟩:=List.mem_iff_getElem.1 hq
   refine hc p (by omega) k ?_ hw
   rw[show Q.getD p 0=Q[p] by simp[List.getD,List.getElem?_eq_getElem hp]]
   exact hk
theorem rRch_iff (g:Gr) (hg:GrOK g) (wo:Int) (a:Nat) (ha:a<g.length) (b:Nat):b∈rRch g a wo↔Rch g wo a b:=by
 unfold rRch
 by_cases hw:(a:Int)=wo
 ·rw[if_pos (by simp[hw])]
  constructor
  ·intro h;cases h
  ·intro h
   exfalso
   induction h with
   | refl h=>exact h hw
   | step _ _ _ ih=>exact ih
 ·rw[if_neg (by simp[hw];omega)]
  have h:=rO_ok g hg wo a (g.length+1) 0 [a] (by omega) (by simp) (fun q hq=>by simp at hq;omega) (fun q hq=>by simp at hq;subst hq;exact .refl hw) (fun p hp=>absurd hp (by omega)) (by simp)
  constructor
  ·intro hb;exact h.2.1 b hb
  ·intro hb
   induction hb with
   | refl _=>exact h.1.subset (by simp)
   | step _ hc hw ih=>exact h.2.2 _ ih _ hc hw
end
section
theorem Rch.trans {g:Gr} {wo:Int} {a b c:Nat} (h:Rch g wo a b) (h':Rch g wo b c):Rch g wo a c:=by
 induction h' with
 | refl _=>exact h
 | step _ hc hw ih=>exact .step ih hc hw
theorem Rch.start {g:Gr} {wo:Int} {a b:Nat} (h:Rch g wo a b):(a:Int)≠wo:=by
 induction h with
 | refl h=>exact h
 | step _ _ _ ih=>exact ih
def GoOK (g:Gr) (wo:Int) (from_:Nat→Prop) (ks R:List Nat):Prop :=
 (∀ q∈R,q∉ks→∃ s,from_ s∧Rch g wo s q)∧∀ q∈R,q∉ks→∀ k∈g.getD q [],(k:Int)≠wo→k∈R
theorem fold_ok (g:Gr) (wo:Int) (f:Nat) (ih:∀ i ks,i<g.length→unseen g ks<f→((i:Int)≠wo→i∈goK g wo f i ks)∧GoOK g wo (·=i) ks (goK g wo f i ks)) :
  ∀ (l ks:List Nat),(∀ k∈l,k<g.length)→unseen g ks<f→ks <+: l.foldl (fun ks k=>goK g wo f k ks) ks∧(∀ k∈l,(k:Int)≠wo→k∈l.foldl (fun ks k=>goK g wo f k ks) ks)∧GoOK g wo (·∈l) ks (l.foldl (fun ks k=>goK g wo f k ks) ks)
 | [],ks,_,_=>⟨List.prefix_refl _,(fun k h=>by cases h),fun q hq hn=>absurd hq hn,fun q hq hn=>absurd hq hn⟩
 | x::l,ks,hl,hu=>by
  have h1:=ih x ks (hl x (List.mem_cons_self ..)) hu
  have hp:=goK_pre g wo f x ks
  have hu2:unseen g (goK g wo f x ks)<f:=by
   have:=unseen_le g (fun n hn=>hp.subset hn)
   omega
  have h2:=fold_ok g wo f ih l (goK g wo f x ks) (fun k hk=>hl k (List.mem_cons_of_mem _ hk)) hu2
  rw[List.foldl_cons]
  refine⟨hp.trans h2.1,fun k hk hw=>?_,fun q hq hn=>?_,fun q hq hn k hk hw=>?_⟩
  ·rcases List.mem_cons.1 hk with e | hk
   ·subst e;exact h2.1.subset (h1.1 hw)
   ·exact h2.2.1 k hk hw
  ·by_cases hm:q∈goK g wo f x ks
   ·obtain⟨s,hs,hr⟩:=h1.2.1 q hm hn
    have hs:s=x:=hs
    subst hs
    exact⟨s,List.mem_cons_self ..,hr⟩
   ·obtain⟨s,hs,hr⟩:=h2.2.2.1 q hq hm
    exact⟨s,List.mem_cons_of_mem _ hs,hr⟩
  ·by_cases hm:q∈goK g wo f x ks
   ·exact h2.1.subset (h1.2.2 q hm hn k hk hw)
   ·exact h2.2.2.2 q hq hm k hk hw
theorem goK_ok (g:Gr) (hg:GrOK g) (wo:Int):∀ (f i:Nat) (ks:List Nat),i<g.length→unseen g ks<f→((i:Int)≠wo→i∈goK g wo f i ks)∧GoOK g wo (·=i) ks (goK g wo f i ks)
 | 0,i,ks,_,hu=>absurd hu (by omega)
 | f+1,i,ks,hi,hu=>by
  unfold goK
  by_cases hc:(((i:Int)==wo)||ks.contains i)=true
  ·rw[if_pos hc]
   refine⟨fun hw=>?_,fun q hq hn=>absurd hq hn,fun q hq hn=>absurd hq hn⟩
   rw[show ((i:Int)==wo)=false by simpa using hw,Bool.false_or] at hc
   simpa using hc
  ·rw[if_neg hc]
   have hc:(((i:Int)==wo)||ks.contains i)=false:=by simpa using hc
   rw[Bool.or_eq_false_iff] at hc
   have hw:(i:Int)≠wo:=by simpa using hc.1
   have hun:=unseen_add g hi hc.2
   have hltl:∀ k∈g.getD i [],k<g.length:=fun k hk=>by
    rw[getD_at hi] at hk
    exact hg.lt _ (List.getElem_mem hi) k hk
   have h:=fold_ok g wo f (goK_ok g hg wo f) (g.getD i []) (ks++[i]) hltl (by omega)
   have hii:i∈(g.getD i []).foldl (fun ks k=>goK g wo f k ks) (ks++[i]):=h.1.subset (by simp)
   refine⟨fun _=>hii,fun q hq hn=>⟨i,rfl,?_⟩,fun q hq hn k hk hkw=>?_⟩
   ·by_cases e:q=i
    ·subst e;exact .refl hw
    ·obtain⟨s,hs,hr⟩:=h.2.2.1 q hq (by simp[hn,e])
     exact Rch.trans (.step (.refl hw) hs hr.start) hr
   ·by_cases e:q=i
    ·subst e;exact h.2.1 k hk hkw
    ·exact h.2.2.2 q hq (by simp[hn,e]) k hk hkw
theorem reachK_iff (g:Gr) (hg:GrOK g) (wo:Int) (a:Nat) (ha:a<g.length) (b:Nat):b∈goK g wo (g.length+1) a []↔Rch g wo a b:=by
 have h:=goK_ok g hg wo (g.length+1) a [] ha (unseen_lt g [])
 constructor
 ·intro hb
  obtain⟨s,hs,hr⟩:=h.2.1 b hb (by simp)
  have hs:s=a:=hs
  subst hs;exact hr
 ·intro hb
  induction hb with
  | refl hw=>exact h.1 hw
  | step _ hc hw ih=>exact h.2.2 _ ih (by simp) _ hc hw
end
section
theorem contains_iff {l m:List Nat} (h:∀ x,x∈l↔x∈m) (x:Nat):l.contains x=m.contains x:=by
 rw[Bool.eq_iff_iff];simp[h x]
theorem reachL_eq (g:Gr) (hg:GrOK g) (wo:Int):reachL g wo=rRL g 0 wo:=by
 unfold reachL rRL toL
 refine List.map_congr_left fun n hn=>?_
 have hn:n<g.length:=List.mem_range.1 hn
 exact contains_iff (fun x=>(reachK_iff g hg wo 0 (by omega) x).trans (rRch_iff g hg wo 0 (by omega) x).symm) n
theorem rRL_get (g:Gr) (hg:GrOK g) (wo:Int) (a:Nat) (ha:a<g.length) (b:Nat) (hb:b<g.length):(rRL g a wo).getD b false=true↔Rch g wo a b:=by
 unfold rRL
 rw[List.getD,toL_get hb,Option.getD_some,←rRch_iff g hg wo a ha b]
 simp
theorem reachL_get (g:Gr) (hg:GrOK g) (wo:Int) (b:Nat) (hb:b<g.length):(reachL g wo).getD b false=true↔Rch g wo 0 b:=by
 rw[reachL_eq g hg];exact rRL_get g hg wo 0 (by omega) b hb
theorem Rch.lt {g:Gr} (hg:GrOK g) {wo:Int} {a b:Nat} (ha:a<g.length) (h:Rch g wo a b):b<g.length:=by
 induction h with
 | refl _=>exact ha
 | step _ hc _ ih =>
  rw[getD_at ih] at hc
  exact hg.lt _ (List.getElem_mem ih) _ hc
def IsHead (g:Gr) (k:Nat):Prop:=∃ i,Rch g (-1) 0 i∧k∈g.getD i []∧¬ Rch g k 0 i
theorem neg1 (k:Nat):(k:Int)≠-1:=by omega
theorem any_int {l:List Nat} {k:Nat}:(l.any fun x:Nat=>(k:Int)==(x:Int))=true↔k∈l:=by
 rw[List.any_eq_true]
 constructor
 ·rintro⟨x,hx,h⟩
  have h:=eq_of_beq h
  have:k=x:=by omega
  subst this;exact hx
 ·intro h
  exact⟨k,h,by simp⟩
theorem not_get (g:Gr) (hg:GrOK g) (wo:Int) (b:Nat) (hb:b<g.length):(!(rRL g 0 wo).getD b false)=true↔¬ Rch g wo 0 b:=by
 rw[←rRL_get g hg wo 0 (by omega) b hb];simp
theorem hitK_iff (g:Gr) (hg:GrOK g) (k:Nat) (hk:k<g.length):hitK g k=true↔IsHead g k:=by
 unfold hitK hitJ IsHead
 simp only[reachL_eq g hg,Bool.and_eq_true,List.any_eq_true,List.mem_range]
 constructor
 ·rintro⟨_,j,hj,⟨h1,h2⟩,h3⟩
  exact⟨j,(rRL_get g hg _ 0 (by omega) j hj).1 h1,any_int.1 (List.any_eq_true.2 h3),(not_get g hg _ j hj).1 h2⟩
 ·rintro⟨i,h1,h2,h3⟩
  have hi:=Rch.lt hg (by omega) h1
  refine⟨(rRL_get g hg _ 0 (by omega) k hk).2 (.step h1 h2 (neg1 k)),i,hi,⟨(rRL_get g hg _ 0 (by omega) i hi).2 h1,(not_get g hg _ i hi).2 h3⟩,List.any_eq_true.1 (any_int.2 h2)⟩
end
section
end
section
theorem r0_eq (c:Fm):r0 c=c.kids.getD 1 w0:=by unfold r0 restOf;simp[List.getD]
theorem is_eq (s:ByteArray):rIs s=blkIs s:=by
 funext c
 unfold rIs blkIs
 rw[r0_eq]
theorem fin_eq {c:Fm} (h:2≤c.kids.length):rfin c=finOf c:=by
 unfold rfin finOf restOf
 rw[List.length_drop]
 simp only[List.getD,List.getElem?_drop]
 congr 2
 omega
def ixs (bs:List Fm):List (List Int):=bs.map fun b=>(tgtsOf b).map fun k=>idxI (blkIs k.text) bs
theorem rsuc_ixs (bs:List Fm) (h:∀ b∈bs,2≤b.kids.length):rsucT bs=encI (ixs bs):=by
 unfold rsucT encI ixs
 rw[List.map_map]
 congr 1
 refine List.map_congr_left fun b hb=>?_
 show [TV.sl 1 ((rtg b).map (rix bs))]=[TV.sl 1 (((tgtsOf b).map fun k=>idxI (blkIs k.text) bs).map cz)]
 rw[List.map_map]
 unfold rtg tgtsOf
 rw[fin_eq (h b hb)]
 congr 2
 refine List.map_congr_left fun k _=>?_
 show rix bs k=cz (idxI (blkIs k.text) bs)
 unfold rix cz
 rw[is_eq]
theorem ixs_all (bs:List Fm):((ixs bs).all fun r=>r.all posI)=namedB bs:=by
 unfold ixs namedB
 rw[List.all_map]
 congr 1
 funext b
 show ((tgtsOf b).map fun k=>idxI (blkIs k.text) bs).all posI=_
 rw[List.all_map]
 congr 1
 funext k
 show posI (idxI (blkIs k.text) bs)=_
 unfold posI
 by_cases h:idxI (blkIs k.text) bs<0
 ·rw[decide_eq_true h,decide_eq_false (by omega)];rfl
 ·rw[decide_eq_false h,decide_eq_true (by omega)];rfl
theorem ixs_enc (bs:List Fm) (h:namedB bs=true):encI (ixs bs)=encG (sucG bs):=by
 unfold encI encG ixs sucG
 rw[List.map_map,List.map_map]
 congr 1
 refine List.map_congr_left fun b hb=>?_
 show [TV.sl 1 (((tgtsOf b).map fun k=>idxI (blkIs k.text) bs).map cz)]=[encN ((tgtsOf b).map (tgtIx bs))]
 unfold encN
 rw[List.map_map,List.map_map]
 congr 2
 refine List.map_congr_left fun k hk=>?_
 have:=of_decide_eq_true (List.all_eq_true.1 (List.all_eq_true.1 h b hb) k hk)
 show [tI (idxI (blkIs k.text) bs)]=[tI ((tgtIx bs k:Nat):Int)]
 unfold tgtIx
 rw[Int.toNat_of_nonneg this]
theorem grT_named (bs:List Fm) (h:namedB bs=true):grT (ixs bs)=.tup [encG (sucG bs),tI 0]:=by
 unfold grT
 rw[ixs_all,if_pos h,ixs_enc bs h]
theorem grT_not (bs:List Fm) (h:¬ namedB bs=true):grT (ixs bs)=.tup [nilT,tI 6]:=by
 unfold grT
 rw[ixs_all,if_neg h]
end
end Go.Proofs.YtihbimigddlbaaaGreatDoor.L
end
noncomputable section
set_option linter.all false
namespace Go.Proofs.YtihbimigddlbaaaGreatDoor.L
open Go Go.RowKit Go.Proofs.YtihbimigddlbaaaGreatDoor.Pl
variable [Gm]
section
end
end Go.Proofs.YtihbimigddlbaaaGreatDoor.L
end
noncomputable section
set_option linter.all false
namespace Go.Proofs.YtihbimigddlbaaaGreatDoor.L
open Go Go.RowKit Go.Proofs.YtihbimigddlbaaaGreatDoor.Pl
section
end
end Go.Proofs.YtihbimigddlbaaaGreatDoor.L
end
noncomputable section
set_option linter.all false
namespace Go.Proofs.YtihbimigddlbaaaGreatDoor.L
open Go Go.RowKit Go.Proofs.YtihbimigddlbaaaGreatDoor.Pl
variable [Gm]
section
end
end Go.Proofs.YtihbimigddlbaaaGreatDoor.L
end
