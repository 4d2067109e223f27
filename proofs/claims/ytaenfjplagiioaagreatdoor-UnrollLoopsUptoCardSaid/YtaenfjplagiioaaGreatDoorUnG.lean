/- A part of the proof: PlX1 PlX2 PlX3 PlX4 PlX5 PlX6 PlX7 PlX8. -/
import Derived.Test.YtaenfjplagiioaaGreatDoorUnF
import Derived.Test.YtaenfjplagiioaaGreatDoorUnD
noncomputable section
set_option linter.all false
namespace Go.Proofs.YtaenfjplagiioaaGreatDoor.L
open Go Go.RowKit Go.Proofs.YtaenfjplagiioaaGreatDoor.Pl
section
inductive Rch (g:Gr) (wo:Int) (a:Nat):Nat→Prop
 | refl (h:(a:Int)≠wo):Rch g wo a a
 | step {b c:Nat} (h:Rch g wo a b) (hc:c∈g.getD b []) (hw:(c:Int)≠wo):Rch g wo a c
theorem rS_mem {wo:Int} {Q:List Nat} {k x:Nat} (h:x∈rS wo Q k):x∈Q∨(x=k∧(k:Int)≠wo):=by
 unfold rS at h
 split at h
 ·rename_i hc
  rw[Bool.and_eq_true] at hc
  rcases List.mem_append.1 h with h | h
  ·exact .inl h
  ·simp at h;exact .inr ⟨h,by simpa using hc.1⟩
 ·exact .inl h
theorem rSs_mem {wo:Int}:∀ {l Q:List Nat} {x:Nat},x∈l.foldl (rS wo) Q→x∈Q∨(x∈l∧(x:Int)≠wo)
 | [],Q,x,h=>.inl h
 | k::l,Q,x,h=>by
  rcases rSs_mem (l:=l) h with h | ⟨h,hw⟩
  ·rcases rS_mem h with h | ⟨rfl,hw⟩
   ·exact .inl h
   ·exact .inr ⟨List.mem_cons_self ..,hw⟩
  ·exact .inr ⟨List.mem_cons_of_mem _ h,hw⟩
theorem rS_in {wo:Int} {Q:List Nat} {k:Nat} (hw:(k:Int)≠wo):k∈rS wo Q k:=by
 unfold rS
 split
 ·simp
 ·rename_i hc
  have h1:((k:Int) != wo)=true:=by simpa using hw
  rw[h1,Bool.true_and] at hc
  simpa using hc
theorem rSs_in {wo:Int}:∀ {l Q:List Nat} {k:Nat},k∈l→(k:Int)≠wo→k∈l.foldl (rS wo) Q
 | x::l,Q,k,hk,hw=>by
  rcases List.mem_cons.1 hk with e | hk
  ·subst e;exact (rSs_pre wo l _).subset (rS_in hw)
  ·exact rSs_in (l:=l) hk hw
theorem getD_at {α:Type} {g:List α} {q:Nat} (h:q<g.length) (d:α):g.getD q d=g[q]:=by simp[List.getD,List.getElem?_eq_getElem h]
theorem rO_ok (g:Gr) (hg:GrOK g) (wo:Int) (a:Nat):∀ (f i:Nat) (Q:List Nat),g.length-i<f→Q.Nodup→(∀ q∈Q,q<g.length)→(∀ q∈Q,Rch g wo a q) →
  (∀ p,p<i→∀ k∈g.getD (Q.getD p 0) [],(k:Int)≠wo→k∈Q)→i≤Q.length →
  Q <+: rO g wo f i Q∧(∀ q∈rO g wo f i Q,Rch g wo a q)∧∀ q∈rO g wo f i Q,∀ k∈g.getD q [],(k:Int)≠wo→k∈rO g wo f i Q
 | 0,i,Q,hf,_,_,_,_,_=>absurd hf (by omega)
 | f+1,i,Q,hf,hn,hl,hr,hc,hi=>by
  unfold rO
  by_cases h:i<Q.length
  ·rw[if_pos h]
   have hqi:Q.getD i 0=Q[i]:=by simp[List.getD,List.getElem?_eq_getElem h]
   have hqm:Q.getD i 0∈Q:=by rw[hqi];exact List.getElem_mem h
   have hql:=hl _ hqm
   have hltl:∀ k∈g.getD (Q.getD i 0) [],k<g.length:=fun k hk=>by
    have:g.getD (Q.getD i 0) []=g[Q.getD i 0]:=getD_at hql _
    rw[this] at hk
    exact hg.lt _ (List.getElem_mem hql) k hk
   have hok:=rSs_ok (g:=g) (wo:=wo) (g.getD (Q.getD i 0) []) Q hltl hn hl
   have hp:=rSs_pre wo (g.getD (Q.getD i 0) []) Q
   have hsub:=hp.subset
   have hpl:=hp.length_le
   have hnl:=nodup_len hn hl
   have hget:∀ p,p<Q.length→((g.getD (Q.getD i 0) []).foldl (rS wo) Q).getD p 0=Q.getD p 0:=fun p hpq=>by
    obtain⟨r,hr⟩:=hp
    rw[←hr]
    simp[List.getD,List.getElem?_append_left hpq]
   have ih:=rO_ok g hg wo a f (i+1) ((g.getD (Q.getD i 0) []).foldl (rS wo) Q) (by omega) hok.1 hok.2 (fun q hq=>by
    rcases rSs_mem hq with hq | ⟨hq,hw⟩
    ·exact hr q hq
    ·exact .step (hr _ hqm) hq hw) (fun p hpi k hk hw=>by
    rw[hget p (by omega)] at hk
    by_cases e:p=i
    ·subst e;exact rSs_in hk hw
    ·exact hsub (hc p (by omega) k hk hw)) (by omega)
   exact⟨hp.trans ih.1,ih.2⟩
  ·rw[if_neg h]
   refine⟨List.prefix_refl _,hr,fun q hq k hk hw=>?_⟩
   obtain⟨p,hp,rfl⟩:=List.mem_iff_getElem.1 hq
   refine hc p (by omega) k ?_ hw
   rw[show Q.getD p 0=Q[p] by simp[List.getD,List.getElem?_eq_getElem hp]]
   exact hk
theorem rRch_iff (g:Gr) (hg:GrOK g) (wo:Int) (a:Nat) (ha:a<g.length) (b:Nat):b∈rRch g a wo↔Rch g wo a b:=by
 unfold rRch
 by_cases hw:(a:Int)=wo
 ·rw[if_pos (by simp[hw])]
  constructor
  ·intro h;cases h
  ·intro h
   exfalso
   induction h with
   | refl h=>exact h hw
   | step _ _ _ ih=>exact ih
 ·rw[if_neg (by simp[hw];omega)]
  have h:=rO_ok g hg wo a (g.length+1) 0 [a] (by omega) (by simp) (fun q hq=>by simp at hq;omega) (fun q hq=>by simp at hq;subst hq;exact .refl hw) (fun p hp=>absurd hp (by omega)) (by simp)
  constructor
  ·intro hb;exact h.2.1 b hb
  ·intro hb
   induction hb with
   | refl _=>exact h.1.subset (by simp)
   | step _ hc hw ih=>exact h.2.2 _ ih _ hc hw
end
section
theorem Rch.trans {g:Gr} {wo:Int} {a b c:Nat} (h:Rch g wo a b) (h':Rch g wo b c):Rch g wo a c:=by
 induction h' with
 | refl _=>exact h
 | step _ hc hw ih=>exact .step ih hc hw
theorem Rch.start {g:Gr} {wo:Int} {a b:Nat} (h:Rch g wo a b):(a:Int)≠wo:=by
 induction h with
 | refl h=>exact h
 | step _ _ _ ih=>exact ih
def GoOK (g:Gr) (wo:Int) (from_:Nat→Prop) (ks R:List Nat):Prop :=
 (∀ q∈R,q∉ks→∃ s,from_ s∧Rch g wo s q)∧∀ q∈R,q∉ks→∀ k∈g.getD q [],(k:Int)≠wo→k∈R
theorem fold_ok (g:Gr) (wo:Int) (f:Nat) (ih:∀ i ks,i<g.length→unseen g ks<f→((i:Int)≠wo→i∈goK g wo f i ks)∧GoOK g wo (·=i) ks (goK g wo f i ks)) :
  ∀ (l ks:List Nat),(∀ k∈l,k<g.length)→unseen g ks<f→ks <+: l.foldl (fun ks k=>goK g wo f k ks) ks∧(∀ k∈l,(k:Int)≠wo→k∈l.foldl (fun ks k=>goK g wo f k ks) ks)∧GoOK g wo (·∈l) ks (l.foldl (fun ks k=>goK g wo f k ks) ks)
 | [],ks,_,_=>⟨List.prefix_refl _,(fun k h=>by cases h),fun q hq hn=>absurd hq hn,fun q hq hn=>absurd hq hn⟩
 | x::l,ks,hl,hu=>by
  have h1:=ih x ks (hl x (List.mem_cons_self ..)) hu
  have hp:=goK_pre g wo f x ks
  have hu2:unseen g (goK g wo f x ks)<f:=by
   have:=unseen_le g (fun n hn=>hp.subset hn)
   omega
  have h2:=fold_ok g wo f ih l (goK g wo f x ks) (fun k hk=>hl k (List.mem_cons_of_mem _ hk)) hu2
  rw[List.foldl_cons]
  refine⟨hp.trans h2.1,fun k hk hw=>?_,fun q hq hn=>?_,fun q hq hn k hk hw=>?_⟩
  ·rcases List.mem_cons.1 hk with e | hk
   ·subst e;exact h2.1.subset (h1.1 hw)
   ·exact h2.2.1 k hk hw
  ·by_cases hm:q∈goK g wo f x ks
   ·obtain⟨s,hs,hr⟩:=h1.2.1 q hm hn
    have hs:s=x:=hs
    subst hs
    exact⟨s,List.mem_cons_self ..,hr⟩
   ·obtain⟨s,hs,hr⟩:=h2.2.2.1 q hq hm
    exact⟨s,List.mem_cons_of_mem _ hs,hr⟩
  ·by_cases hm:q∈goK g wo f x ks
   ·exact h2.1.subset (h1.2.2 q hm hn k hk hw)
   ·exact h2.2.2.2 q hq hm k hk hw
theorem goK_ok (g:Gr) (hg:GrOK g) (wo:Int):∀ (f i:Nat) (ks:List Nat),i<g.length→unseen g ks<f→((i:Int)≠wo→i∈goK g wo f i ks)∧GoOK g wo (·=i) ks (goK g wo f i ks)
 | 0,i,ks,_,hu=>absurd hu (by omega)
 | f+1,i,ks,hi,hu=>by
  unfold goK
  by_cases hc:(((i:Int)==wo)||ks.contains i)=true
  ·rw[if_pos hc]
   refine⟨fun hw=>?_,fun q hq hn=>absurd hq hn,fun q hq hn=>absurd hq hn⟩
   rw[show ((i:Int)==wo)=false by simpa using hw,Bool.false_or] at hc
   simpa using hc
  ·rw[if_neg hc]
   have hc:(((i:Int)==wo)||ks.contains i)=false:=by simpa using hc
   rw[Bool.or_eq_false_iff] at hc
   have hw:(i:Int)≠wo:=by simpa using hc.1
   have hun:=unseen_add g hi hc.2
   have hltl:∀ k∈g.getD i [],k<g.length:=fun k hk=>by
    rw[getD_at hi] at hk
    exact hg.lt _ (List.getElem_mem hi) k hk
   have h:=fold_ok g wo f (goK_ok g hg wo f) (g.getD i []) (ks++[i]) hltl (by omega)
   have hii:i∈(g.getD i []).foldl (fun ks k=>goK g wo f k ks) (ks++[i]):=h.1.subset (by simp)
   refine⟨fun _=>hii,fun q hq hn=>⟨i,rfl,?_⟩,fun q hq hn k hk hkw=>?_⟩
   ·by_cases e:q=i
    ·subst e;exact .refl hw
    ·obtain⟨s,hs,hr⟩:=h.2.2.1 q hq (by simp[hn,e])
     exact Rch.trans (.step (.refl hw) hs hr.start) hr
   ·by_cases e:q=i
    ·subst e;exact h.2.1 k hk hkw
    ·exact h.2.2.2 q hq (by simp[hn,e]) k hk hkw
theorem reachK_iff (g:Gr) (hg:GrOK g) (wo:Int) (a:Nat) (ha:a<g.length) (b:Nat):b∈goK g wo (g.length+1) a []↔Rch g wo a b:=by
 have h:=goK_ok g hg wo (g.length+1) a [] ha (unseen_lt g [])
 constructor
 ·intro hb
  obtain⟨s,hs,hr⟩:=h.2.1 b hb (by simp)
  have hs:s=a:=hs
  subst hs;exact hr
 ·intro hb
  induction hb with
  | refl hw=>exact h.1 hw
  | step _ hc hw ih=>exact h.2.2 _ ih (by simp) _ hc hw
end
section
theorem contains_iff {l m:List Nat} (h:∀ x,x∈l↔x∈m) (x:Nat):l.contains x=m.contains x:=by
 rw[Bool.eq_iff_iff];simp[h x]
theorem reachL_eq (g:Gr) (hg:GrOK g) (wo:Int):reachL g wo=rRL g 0 wo:=by
 unfold reachL rRL toL
 refine List.map_congr_left fun n hn=>?_
 have hn:n<g.length:=List.mem_range.1 hn
 exact contains_iff (fun x=>(reachK_iff g hg wo 0 (by omega) x).trans (rRch_iff g hg wo 0 (by omega) x).symm) n
theorem rRL_get (g:Gr) (hg:GrOK g) (wo:Int) (a:Nat) (ha:a<g.length) (b:Nat) (hb:b<g.length):(rRL g a wo).getD b false=true↔Rch g wo a b:=by
 unfold rRL
 rw[List.getD,toL_get hb,Option.getD_some,←rRch_iff g hg wo a ha b]
 simp
theorem reachL_get (g:Gr) (hg:GrOK g) (wo:Int) (b:Nat) (hb:b<g.length):(reachL g wo).getD b false=true↔Rch g wo 0 b:=by
 rw[reachL_eq g hg];exact rRL_get g hg wo 0 (by omega) b hb
theorem Rch.lt {g:Gr} (hg:GrOK g) {wo:Int} {a b:Nat} (ha:a<g.length) (h:Rch g wo a b):b<g.length:=by
 induction h with
 | refl _=>exact ha
 | step _ hc _ ih =>
  rw[getD_at ih] at hc
  exact hg.lt _ (List.getElem_mem ih) _ hc
def IsHead (g:Gr) (k:Nat):Prop:=∃ i,Rch g (-1) 0 i∧k∈g.getD i []∧¬ Rch g k 0 i
theorem neg1 (k:Nat):(k:Int)≠-1:=by omega
theorem any_int {l:List Nat} {k:Nat}:(l.any fun x:Nat=>(k:Int)==(x:Int))=true↔k∈l:=by
 rw[List.any_eq_true]
 constructor
 ·rintro⟨x,hx,h⟩
  have h:=eq_of_beq h
  have:k=x:=by omega
  subst this;exact hx
 ·intro h
  exact⟨k,h,by simp⟩
theorem not_get (g:Gr) (hg:GrOK g) (wo:Int) (b:Nat) (hb:b<g.length):(!(rRL g 0 wo).getD b false)=true↔¬ Rch g wo 0 b:=by
 rw[←rRL_get g hg wo 0 (by omega) b hb];simp
theorem hitK_iff (g:Gr) (hg:GrOK g) (k:Nat) (hk:k<g.length):hitK g k=true↔IsHead g k:=by
 unfold hitK hitJ IsHead
 simp only[reachL_eq g hg,Bool.and_eq_true,List.any_eq_true,List.mem_range]
 constructor
 ·rintro⟨_,j,hj,⟨h1,h2⟩,h3⟩
  exact⟨j,(rRL_get g hg _ 0 (by omega) j hj).1 h1,any_int.1 (List.any_eq_true.2 h3),(not_get g hg _ j hj).1 h2⟩
 ·rintro⟨i,h1,h2,h3⟩
  have hi:=Rch.lt hg (by omega) h1
  refine⟨(rRL_get g hg _ 0 (by omega) k hk).2 (.step h1 h2 (neg1 k)),i,hi,⟨(rRL_get g hg _ 0 (by omega) i hi).2 h1,(not_get g hg _ i hi).2 h3⟩,List.any_eq_true.1 (any_int.2 h2)⟩
theorem hS_get (g:Gr) (i:Nat) (H:List Bool) (x k:Nat) (hk:k<H.length):(hS g i H x).getD k false=true↔H.getD k false=true∨(x=k∧(((i:Int)==(x:Int))||!(rRL g 0 x).getD i false)=true):=by
 unfold hS
 split
 ·rename_i h
  by_cases e:x=k
  ·subst e
   simp only[h,and_self,or_true,iff_true]
   simp[List.getD,List.getElem?_set,hk]
  ·simp[List.getD,List.getElem?_set,e]
 ·rename_i h
  constructor
  ·exact .inl
  ·rintro (h1 | ⟨_,h1⟩)
   ·exact h1
   ·exact absurd h1 h
theorem hSs_get (g:Gr) (i:Nat) (k:Nat):∀ (l:List Nat) (H:List Bool),k<H.length→((l.foldl (hS g i) H).getD k false=true↔H.getD k false=true∨(k∈l∧(((i:Int)==(k:Int))||!(rRL g 0 k).getD i false)=true))
 | [],H,_=>by simp
 | x::l,H,hk=>by
  rw[List.foldl_cons,hSs_get g i k l _ (by rw[hS_len];exact hk),hS_get g i H x k hk]
  constructor
  ·rintro ((h | ⟨rfl,h⟩) | ⟨h1,h2⟩)
   ·exact .inl h
   ·exact .inr ⟨List.mem_cons_self ..,h⟩
   ·exact .inr ⟨List.mem_cons_of_mem _ h1,h2⟩
  ·rintro (h | ⟨h1,h2⟩)
   ·exact .inl (.inl h)
   ·rcases List.mem_cons.1 h1 with e | h1
    ·subst e;exact .inl (.inr ⟨rfl,h2⟩)
    ·exact .inr ⟨h1,h2⟩
theorem hRow_get (g:Gr) (H:List Bool) (i k:Nat) (hk:k<H.length):(hRow g H i).getD k false=true↔H.getD k false=true∨((rRL g 0 (-1)).getD i false=true∧k∈g.getD i []∧(((i:Int)==(k:Int))||!(rRL g 0 k).getD i false)=true):=by
 unfold hRow
 split
 ·rename_i h
  rw[hSs_get g i k _ H hk]
  exact⟨fun h'=>h'.imp id fun h2=>⟨h,h2⟩,fun h'=>h'.imp id fun h2=>h2.2⟩
 ·rename_i h
  exact⟨.inl,fun h'=>h'.elim id (fun h2=>absurd h2.1 h)⟩
theorem hRows_get (g:Gr) (k:Nat):∀ (n:Nat) (H:List Bool),k<H.length→(((List.range n).foldl (hRow g) H).getD k false=true↔H.getD k false=true∨∃ i,i<n∧(rRL g 0 (-1)).getD i false=true∧k∈g.getD i []∧(((i:Int)==(k:Int))||!(rRL g 0 k).getD i false)=true)
 | 0,H,_=>by simp
 | n+1,H,hk=>by
  rw[foldRange,hRow_get g _ n k (by rw[hRows_len];exact hk),hRows_get g k n H hk]
  constructor
  ·rintro ((h | ⟨i,hi,h⟩) | h)
   ·exact .inl h
   ·exact .inr ⟨i,by omega,h⟩
   ·exact .inr ⟨n,by omega,h⟩
  ·rintro (h | ⟨i,hi,h⟩)
   ·exact .inl (.inl h)
   ·by_cases e:i=n
    ·subst e;exact .inr h
    ·exact .inl (.inr ⟨i,by omega,h⟩)
theorem rheads_iff (g:Gr) (hg:GrOK g) (k:Nat) (hk:k<g.length):(rheads g).getD k false=true↔IsHead g k:=by
 unfold rheads
 rw[hRows_get g k g.length _ (by simpa using hk)]
 have h0:¬ (List.replicate g.length false).getD k false=true:=by simp[List.getD,List.getElem?_replicate];split <;> simp
 constructor
 ·rintro (h | ⟨i,hi,h1,h2,h3⟩)
  ·exact absurd h h0
  ·refine⟨i,(rRL_get g hg _ 0 (by omega) i hi).1 h1,h2,?_⟩
   rw[Bool.or_eq_true] at h3
   rcases h3 with h3 | h3
   ·have e:i=k:=by have:=eq_of_beq h3;omega
    subst e
    intro hr
    cases hr with
    | refl h=>exact h rfl
    | step _ _ h=>exact h rfl
   ·exact (not_get g hg _ i hi).1 h3
 ·rintro⟨i,h1,h2,h3⟩
  have hi:=Rch.lt hg (by omega) h1
  refine .inr ⟨i,hi,(rRL_get g hg _ 0 (by omega) i hi).2 h1,h2,?_⟩
  rw[Bool.or_eq_true]
  exact .inr ((not_get g hg _ i hi).2 h3)
end
section
def NoCirc (g:Gr):Prop:=∀ i k,Rch g (-1) 0 i→k∈g.getD i []→¬ Rch g (-1) k i
theorem racyc_iff (g:Gr) (hg:GrOK g):racyc g=true↔NoCirc g:=by
 unfold racyc NoCirc
 rw[List.all_eq_true]
 constructor
 ·intro h i k h1 h2 h3
  by_cases h0:0<g.length
  ·have hi:=Rch.lt hg h0 h1
   have hk:k<g.length:=by
    rw[getD_at hi] at h2
    exact hg.lt _ (List.getElem_mem hi) k h2
   have hr:=h i (List.mem_range.2 hi)
   unfold rowOK at hr
   rw[Bool.or_eq_true] at hr
   rcases hr with hr | hr
   ·exact (not_get g hg _ i hi).1 hr h1
   ·have:=List.all_eq_true.1 hr k h2
    unfold noBack at this
    rw[(rRL_get g hg (-1) k hk i hi).2 h3] at this
    cases this
  ·have:g=[]:=List.eq_nil_of_length_eq_zero (by omega)
   subst this
   simp[List.getD] at h2
 ·intro h i hi
  have hi:i<g.length:=List.mem_range.1 hi
  unfold rowOK
  rw[Bool.or_eq_true]
  by_cases hr:Rch g (-1) 0 i
  ·right
   rw[List.all_eq_true]
   intro k hk
   have hkl:k<g.length:=by
    have hk':=hk
    rw[getD_at hi] at hk'
    exact hg.lt _ (List.getElem_mem hi) k hk'
   unfold noBack
   have:=h i k hr hk
   rw[←rRL_get g hg (-1) k hkl i hi] at this
   simpa using this
  ·exact .inl ((not_get g hg _ i hi).2 hr)
end
section
theorem r0_eq (c:Fm):r0 c=c.kids.getD 1 w0:=by unfold r0 restOf;simp[List.getD]
theorem is_eq (s:ByteArray):rIs s=blkIs s:=by
 funext c
 unfold rIs blkIs
 rw[r0_eq]
theorem fin_eq {c:Fm} (h:2≤c.kids.length):rfin c=finOf c:=by
 unfold rfin finOf restOf
 rw[List.length_drop]
 simp only[List.getD,List.getElem?_drop]
 congr 2
 omega
def ixs (bs:List Fm):List (List Int):=bs.map fun b=>(tgtsOf b).map fun k=>idxI (blkIs k.text) bs
theorem rsuc_ixs (bs:List Fm) (h:∀ b∈bs,2≤b.kids.length):rsucT bs=encI (ixs bs):=by
 unfold rsucT encI ixs
 rw[List.map_map]
 congr 1
 refine List.map_congr_left fun b hb=>?_
 show [TV.sl 1 ((rtg b).map (rix bs))]=[TV.sl 1 (((tgtsOf b).map fun k=>idxI (blkIs k.text) bs).map cz)]
 rw[List.map_map]
 unfold rtg tgtsOf
 rw[fin_eq (h b hb)]
 congr 2
 refine List.map_congr_left fun k _=>?_
 show rix bs k=cz (idxI (blkIs k.text) bs)
 unfold rix cz
 rw[is_eq]
theorem ixs_all (bs:List Fm):((ixs bs).all fun r=>r.all posI)=namedB bs:=by
 unfold ixs namedB
 rw[List.all_map]
 congr 1
 funext b
 show ((tgtsOf b).map fun k=>idxI (blkIs k.text) bs).all posI=_
 rw[List.all_map]
 congr 1
 funext k
 show posI (idxI (blkIs k.text) bs)=_
 unfold posI
 by_cases h:idxI (blkIs k.text) bs<0
 ·rw[decide_eq_true h,decide_eq_false (by omega)];rfl
 ·rw[decide_eq_false h,decide_eq_true (by omega)];rfl
theorem ixs_enc (bs:List Fm) (h:namedB bs=true):encI (ixs bs)=encG (sucG bs):=by
 unfold encI encG ixs sucG
 rw[List.map_map,List.map_map]
 congr 1
 refine List.map_congr_left fun b hb=>?_
 show [TV.sl 1 (((tgtsOf b).map fun k=>idxI (blkIs k.text) bs).map cz)]=[encN ((tgtsOf b).map (tgtIx bs))]
 unfold encN
 rw[List.map_map,List.map_map]
 congr 2
 refine List.map_congr_left fun k hk=>?_
 have:=of_decide_eq_true (List.all_eq_true.1 (List.all_eq_true.1 h b hb) k hk)
 show [tI (idxI (blkIs k.text) bs)]=[tI ((tgtIx bs k:Nat):Int)]
 unfold tgtIx
 rw[Int.toNat_of_nonneg this]
theorem grT_named (bs:List Fm) (h:namedB bs=true):grT (ixs bs)=.tup [encG (sucG bs),tI 0]:=by
 unfold grT
 rw[ixs_all,if_pos h,ixs_enc bs h]
theorem grT_not (bs:List Fm) (h:¬ namedB bs=true):grT (ixs bs)=.tup [nilT,tI 6]:=by
 unfold grT
 rw[ixs_all,if_neg h]
end
end Go.Proofs.YtaenfjplagiioaaGreatDoor.L
end
noncomputable section
set_option linter.all false
namespace Go.Proofs.YtaenfjplagiioaaGreatDoor.L
open Go Go.RowKit Go.Proofs.YtaenfjplagiioaaGreatDoor.Pl
variable [Gm]
section
theorem tup_nil (k:Nat) (hk:0<k) (x:TV):TV.le (.tup [nilT,x]) (.tup [.sl k [],x]):=by
 intro w F y h
 simp only[TV.rel,TV.relL] at h ⊢
 obtain⟨us,rfl,u,us',rfl,h1,h2⟩:=h
 exact⟨_,rfl,u,us',rfl,TV.nil_le k hk w F u h1,h2⟩
theorem pc_nil {P:Program} {f:FuncId} {args:List TV} {x:TV} (k:Nat) (hk:0<k) (h:PC P f args (.tup [nilT,x])):PC P f args (.tup [.sl k [],x]):=by
 intro w F us hg hF hargs
 refine (h w F us hg hF hargs).mono ?_
 rintro e w' ⟨v,h1,h2,h3⟩
 exact⟨v,h1,h2,tup_nil k hk x _ _ _ h3⟩
def loopA (f:Fm) (k:Int):List Nat×Int :=
 if shapedB f=true then (if ((headsK (graphOf f)).any fun x:Nat=>k==(x:Int))=true then (loopK (graphOf f) k.toNat,0) else ([],3)) else ([],1)
theorem uLoop_nil (L:LF) (f:Fm) (hf:Fit f) (hlow:Low f) (k:Int):PC Tryz.prog 6 [f.enc,tI k] (.tup [encN (loopA f k).1,tI (loopA f k).2]):=by
 have h:=uLoop_spec L f hf hlow k
 unfold uLoop at h
 unfold loopA
 split at h
 ·rename_i hs
  rw[if_pos hs]
  split at h
  ·rename_i hk
   rw[if_pos hk];exact h
  ·rename_i hk
   rw[if_neg hk];exact pc_nil 1 (by decide) h
 ·rename_i hs
  rw[if_neg hs];exact pc_nil 1 (by decide) h
end
end Go.Proofs.YtaenfjplagiioaaGreatDoor.L
end
noncomputable section
set_option linter.all false
namespace Go.Proofs.YtaenfjplagiioaaGreatDoor.L
open Go Go.RowKit Go.Proofs.YtaenfjplagiioaaGreatDoor.Pl
section
theorem through {g:Gr} {a k i:Nat} (h:Rch g (-1) a i) (hn:¬ Rch g k a i):Rch g (-1) k i:=by
 induction h with
 | refl _ =>
  by_cases e:a=k
  ·subst e;exact .refl (neg1 _)
  ·exact absurd (.refl (by omega)) hn
 | @step b c hb hc hw ih =>
  by_cases hk:Rch g k a b
  ·by_cases e:c=k
   ·subst e;exact .refl (neg1 _)
   ·exact absurd (.step hk hc (by omega)) hn
  ·exact .step (ih hk) hc hw
theorem head_circ {g:Gr} {k:Nat} (h:IsHead g k):¬ NoCirc g:=by
 obtain⟨i,h1,h2,h3⟩:=h
 exact fun hn=>hn i k h1 h2 (through h1 h3)
theorem heads_none (g:Gr) (hg:GrOK g) (h:NoCirc g):headsK g=[]:=by
 unfold headsK
 rw[List.filter_eq_nil_iff]
 intro k hk hh
 exact head_circ ((hitK_iff g hg k (List.mem_range.1 hk)).1 hh) h
end
end Go.Proofs.YtaenfjplagiioaaGreatDoor.L
end
noncomputable section
set_option linter.all false
namespace Go.Proofs.YtaenfjplagiioaaGreatDoor.L
open Go Go.RowKit Go.Proofs.YtaenfjplagiioaaGreatDoor.Pl
variable [Gm]
section
def asgA (f:Fm) (l:List Int):List ByteArray×Int :=
 if shapedB f=true then (if (l.all (inB (blksOf f.kids).length))=true then ((srt ((addAll [] (nmsOf (blksOf f.kids) l)).map bts)).map fun s=>⟨s.toArray⟩,0) else ([],1)) else ([],1)
theorem uAsg_nil (L:LF) (f:Fm) (hf:Fit f) (hlow:Low f) (hfew:Few f) (l:List Int):PC Tryz.prog 8 [f.enc,.sl 1 (l.map fun n=>[tI n])] (.tup [.sl 1 ((asgA f l).1.map cw),tI (asgA f l).2]):=by
 have h:=uAsg_spec L f hf hlow hfew l
 unfold uAsg asgT at h
 unfold asgA
 split at h
 ·rename_i hs
  rw[if_pos hs]
  split at h
  ·rename_i hk
   rw[if_pos hk]
   have e:sortS (addAll [] (nmsOf (blksOf f.kids) l))=.sl 1 (((srt ((addAll [] (nmsOf (blksOf f.kids) l)).map bts)).map fun s=>(⟨s.toArray⟩:ByteArray)).map cw):=by
    unfold sortS
    rw[List.map_map];rfl
   rw[e] at h;exact h
  ·rename_i hk
   rw[if_neg hk];exact pc_nil 1 (by decide) h
 ·rename_i hs
  rw[if_neg hs];exact pc_nil 1 (by decide) h
end
end Go.Proofs.YtaenfjplagiioaaGreatDoor.L
end
