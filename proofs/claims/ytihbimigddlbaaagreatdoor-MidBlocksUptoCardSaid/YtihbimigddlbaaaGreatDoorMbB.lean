/- A part of the proof: PmA5 PmA6 PmA7. -/
import Derived.Test.YtihbimigddlbaaaGreatDoorMbA
import Derived.Test.YtihbimigddlbaaaGreatDoorUnI
noncomputable section
set_option linter.all false
namespace Go.Proofs.YtihbimigddlbaaaGreatDoor.L
open Go Go.RowKit Go.Proofs.YtihbimigddlbaaaGreatDoor.Pl
variable [Gm]
set_option maxRecDepth 10000
section
theorem large_ent:Ent Tryz.prog 4:=fun a w=>Tryz.call4 a w
theorem large_spec (f:Fm) (hf:Fit f) (hc:f.cnt≤1000000):PC Tryz.prog 4 [encs [f]] (tB (decide (f.sz+1>3000))):=by
 have hl:=list_spec [f]
 have hfit:Fit (.mk 3 0 ⟨#[]⟩ [f]):=.mk (by simp[maxLen]) (by simp) (by decide) (fun g hg=>by simp at hg;subst hg;exact hf)
 have hs:=size_spec _ hfit
 have hz:(Fm.mk 3 0 ⟨#[]⟩ [f]).zs=((f.sz+1:Nat):Int):=by
  have h2:=sz_le f
  simp only[Fm.zs,zsl,if_true]
  rw[zs_eq f hc,wrN (by omega) (by omega)];push_cast;omega
 rw[hz] at hs
 have hd:decide (((f.sz+1:Nat):Int)>3000)=decide (f.sz+1>3000):=by
  by_cases h:f.sz+1>3000
  ·rw[decide_eq_true h,decide_eq_true (by omega)]
  ·rw[decide_eq_false h,decide_eq_false (by omega)]
 rw[←hd]
 generalize ((f.sz+1:Nat):Int)=z at hs
 have he:encs [f]=.sl 4 [f.cells]:=rfl
 have he2:(Fm.mk 3 0 ⟨#[]⟩ [f]).enc=.agg [tI 3,tI 0,tS ⟨#[]⟩,encs [f]]:=rfl
 rw[he2] at hl hs
 rw[he] at hl hs ⊢
 generalize f.cells=cs at hl hs
 refine PC.of_ok tok Tryz.func4 rfl (Nat.le_of_ble_eq_true rfl) (ev_sound ctx (own:=[]) _ _ _ ?_)
 refine⟨list_ent,.inl ⟨_,hl,?_⟩⟩
 refine⟨size_ent,.inl ⟨_,hs,?_⟩⟩
 exact rfl
theorem ints_nil:PC Tryz.prog 8 [nilT,nilT] (tB true):=by
 refine PC.of_ok tok Tryz.func8 rfl (Nat.le_of_ble_eq_true rfl) (ev_sound ctx (own:=[]) _ _ _ ?_)
 refine⟨fun h=>absurd h (by decide),fun _=>?_⟩
 refine Ok.loop (st:=fun _:Unit=>⟨[(5,vi 0),(1,.t nilT),(0,.t nilT)],[]⟩) (R:=fun _=>True) (μ:=fun _=>0) () (Wk.sub ⟨rfl,rfl,rfl,trivial⟩ trivial) trivial ?_
 intro _ _
 refine ev_sound ctx (own:=[]) _ _ _ ?_
 refine⟨fun h=>absurd h (by decide),fun _=>?_⟩
 exact rfl
theorem sane_ent:Ent Tryz.prog 5:=fun a w=>Tryz.call5 a w
theorem law_big (cs:List TV) (hc:cs.length=4) (h4:PC Tryz.prog 4 [.sl 4 [cs]] (tB true)) (hs:PC Tryz.prog 5 [] (tB true)):PC Tryz.prog 3 [.agg cs] (tB true):=by
 match cs,hc with
 | [x1,x2,x3,x4],_ =>
 refine PC.of_ok tok Tryz.func3 rfl (Nat.le_of_ble_eq_true rfl) (ev_sound ctx (own:=[]) _ _ _ ?_)
 refine⟨large_ent,.inl ⟨_,h4,?_⟩⟩
 refine⟨fun _=>?_,fun h=>absurd h (by decide)⟩
 refine⟨sane_ent,.inl ⟨_,hs,?_⟩⟩
 exact rfl
theorem law_bad (cs:List TV) (hc:cs.length=4) (e:Int) (h4:PC Tryz.prog 4 [.sl 4 [cs]] (tB false)) (hs:PC Tryz.prog 5 [] (tB true))
  (h6:PC Tryz.prog 6 [.agg cs] (.tup [nilT,tI e])) (h7:PC Tryz.prog 7 [.agg cs] (.tup [nilT,tI e])) (h9:PC Tryz.prog 9 [.agg cs] (.tup [nilT,tB false,tI e])) (h10:PC Tryz.prog 10 [.agg cs] (.tup [nilT,tB false,tI e]))
  (h11:PC Tryz.prog 11 [.agg cs] (.tup [nilT,tI e])) (h12:PC Tryz.prog 12 [.agg cs] (.tup [nilT,tI e])):PC Tryz.prog 3 [.agg cs] (tB true):=by
 match cs,hc with
 | [x1,x2,x3,x4],_ =>
 refine PC.of_ok tok Tryz.func3 rfl (Nat.le_of_ble_eq_true rfl) (ev_sound ctx (own:=[]) _ _ _ ?_)
 refine⟨large_ent,.inl ⟨_,h4,?_⟩⟩
 refine⟨fun h=>absurd h (by decide),fun _=>?_⟩
 refine⟨pSucc_ent,.inl ⟨_,h6,?_⟩⟩
 refine⟨rSucc_ent,.inl ⟨_,h7,?_⟩⟩
 have hcond:((e != e)||((0:Int) != 0))=false:=by simp
 refine⟨fun h=>Bool.noConfusion (hcond.symm.trans h),fun _=>?_⟩
 refine Ok.loop (st:=fun _:Unit=>⟨[(7,vi 0),(5,.t nilT),(3,.t nilT),(1,.ptr 1 0)],[(1,.var [.t x1,.t x2,.t x3,.t x4])]⟩) (R:=fun _=>True) (μ:=fun _=>0) ()
  (Wk.sub ⟨rfl,rfl,rfl,rfl,trivial⟩ ⟨rfl,trivial⟩) trivial ?_
 intro _ _
 refine ev_sound ctx (own:=[]) _ _ _ ?_
 refine⟨fun h=>absurd h (by decide),fun _=>?_⟩
 refine⟨pLoops_ent,.inl ⟨_,h9,?_⟩⟩
 refine⟨rLoops_ent,.inl ⟨_,h10,?_⟩⟩
 refine⟨pReach_ent,.inl ⟨_,h11,?_⟩⟩
 refine⟨rReach_ent,.inl ⟨_,h12,?_⟩⟩
 refine⟨ints_ent,.inl ⟨_,ints_nil,?_⟩⟩
 refine⟨ints_ent,_,fun _=>ints_nil,?_⟩
 refine⟨sane_ent,_,fun _=>hs,?_⟩
 refine toEq ?_
 simp[tB,Pl.flip]
theorem law_good (cs:List TV) (hc:cs.length=4) (g:Gr) (hg:GrOK g) (A R:List Nat) (hA:A.length≤maxLen) (hR:R.length≤maxLen) (b:Bool) (h4:PC Tryz.prog 4 [.sl 4 [cs]] (tB false)) (hs:PC Tryz.prog 5 [] (tB true))
  (h6:PC Tryz.prog 6 [.agg cs] (.tup [encG g,tI 0])) (h7:PC Tryz.prog 7 [.agg cs] (.tup [encG g,tI 0])) (h9:PC Tryz.prog 9 [.agg cs] (.tup [encN A,tB b,tI 0])) (h10:PC Tryz.prog 10 [.agg cs] (.tup [encN A,tB b,tI 0]))
  (h11:PC Tryz.prog 11 [.agg cs] (.tup [encN R,tI 0])) (h12:PC Tryz.prog 12 [.agg cs] (.tup [encN R,tI 0])):PC Tryz.prog 3 [.agg cs] (tB true):=by
 have hgl:((g.map fun l=>[encN l]).length:Int)=(g.length:Int):=by simp
 have hAA:=ints_spec A A hA
 have hRR:=ints_spec R R hR
 match cs,hc with
 | [x1,x2,x3,x4],_ =>
 refine PC.of_ok tok Tryz.func3 rfl (Nat.le_of_ble_eq_true rfl) (ev_sound ctx (own:=[]) _ _ _ ?_)
 refine⟨large_ent,.inl ⟨_,h4,?_⟩⟩
 refine⟨fun h=>absurd h (by decide),fun _=>?_⟩
 refine⟨pSucc_ent,.inl ⟨_,h6,?_⟩⟩
 refine⟨rSucc_ent,.inl ⟨_,h7,?_⟩⟩
 have hcond:(((0:Int) != 0)||(((g.map fun l=>[encN l]).length:Int) != ((g.map fun l=>[encN l]).length:Int)))=false:=by simp
 refine⟨fun h=>Bool.noConfusion (hcond.symm.trans h),fun _=>?_⟩
 refine Ok.loop (st:=fun i:Nat=>⟨[(7,vi i),(5,.t (encG g)),(3,.t (encG g)),(1,.ptr 1 0)],[(1,.var [.t x1,.t x2,.t x3,.t x4])]⟩) (R:=fun i=>i≤g.length) (μ:=fun i=>g.length-i) 0
  (Wk.sub ⟨rfl,rfl,rfl,rfl,trivial⟩ ⟨rfl,trivial⟩) (Nat.zero_le _) ?_
 intro i hi
 have hi:i≤g.length:=hi
 refine ev_sound ctx (own:=[]) _ _ _ ?_
 refine⟨fun hx=>?_,fun hx=>?_⟩
 ·have hlt:i<g.length:=ltOf (by rw[←hgl];exact hx)
  have hgetG:(0:Int)≤(i:Int)∧(g.map fun l=>[encN l])[((i:Nat):Int).toNat]?=some [encN g[i]]:=⟨Int.natCast_nonneg i,by simp[List.getElem?_eq_getElem hlt]⟩
  have hlen:=hg.lenl _ (List.getElem_mem hlt)
  generalize g[i]=l at hgetG hlen
  refine⟨_,fun _=>hgetG,?_⟩
  refine⟨_,fun _=>hgetG,?_⟩
  refine⟨ints_ent,_,fun _=>ints_spec l l hlen,?_⟩
  refine⟨fun h=>?_,fun _=>?_⟩
  ·have h:(!decide (l=l))=true:=h
   simp at h
  ·exact⟨trivial,i+1,Wk.sub ⟨slotI (wr1 hlt hg.len),rfl,rfl,rfl,trivial⟩ ⟨rfl,trivial⟩,hlt,dec hlt⟩
 refine⟨pLoops_ent,.inl ⟨_,h9,?_⟩⟩
 refine⟨rLoops_ent,.inl ⟨_,h10,?_⟩⟩
 refine⟨pReach_ent,.inl ⟨_,h11,?_⟩⟩
 refine⟨rReach_ent,.inl ⟨_,h12,?_⟩⟩
 refine⟨ints_ent,.inl ⟨_,hAA,?_⟩⟩
 refine⟨ints_ent,_,fun _=>hRR,?_⟩
 refine⟨sane_ent,_,fun _=>hs,?_⟩
 refine toEq ?_
 simp[tB,Pl.flip]
end
end Go.Proofs.YtihbimigddlbaaaGreatDoor.L
end
noncomputable section
set_option linter.all false
namespace Go.Proofs.YtihbimigddlbaaaGreatDoor.L
open Go Go.RowKit Go.Proofs.YtihbimigddlbaaaGreatDoor.Pl
section
def circP (g:Gr) (p:Nat→Bool):Bool:=(anyK (fun k C=>if p k=true then cirF g [] (g.length+1) k C else (false,C)) (List.range g.length) (List.replicate g.length 0)).1
theorem circP_iff (g:Gr) (hg:GrOK g) (p:Nat→Bool):circP g p=true↔∃ a b,a<g.length∧p a=true∧Rch g (-1) a b∧Cir g b:=by
 have hrng:∀ k∈List.range g.length,k<g.length:=fun k hk=>List.mem_range.1 hk
 have hrep:∀ j,(List.replicate g.length 0).getD j 0=0:=fun j=>by
  simp only[List.getD,List.getElem?_replicate]
  split <;> rfl
 constructor
 ·intro h
  unfold circP at h
  have h:∃ D,anyK (fun k C=>if p k=true then cirF g [] (g.length+1) k C else (false,C)) (List.range g.length) (List.replicate g.length 0)=(true,D):=⟨_,Prod.ext h rfl⟩
  obtain⟨D,h⟩:=h
  refine any_true (n:=g.length) (P:=∃ a b,a<g.length∧p a=true∧Rch g (-1) a b∧Cir g b) (fun C=>∀ j,C.getD j 0≠1) (fun k C C' hk hC e hG=>?_) _ _ _ hrng (by simp) (fun j=>by rw[hrep];omega) (fun k hk C C' hC hG e=>?_) h
  ·by_cases hr:p k=true
   ·rw[if_pos hr] at e
    have:=cir_gry g hg _ k C C' hk hC e
    exact⟨this.1.trans hC,fun j hj=>hG j ((this.2.1 j).1 hj)⟩
   ·rw[if_neg hr] at e
    injection e with _ e;subst e
    exact⟨hC,hG⟩
  ·have hk:=hrng k hk
   by_cases hr:p k=true
   ·rw[if_pos hr] at e
    rw[cir_step] at e
    split at e
    ·cases e
    ·split at e
     ·rename_i h1;exact absurd h1 (hG k)
     ·split at e
      ·rename_i E e2
       have hs:∀ x∈g.getD k [],x<g.length:=fun x hx=>by
        rw[getD_at hk] at hx
        exact hg.lt _ (List.getElem_mem hk) x hx
       have:=any_true (n:=g.length) (P:=∃ b,Rch g (-1) k b∧Cir g b) (fun C=>∀ j,C.getD j 0=1→Rch g (-1) j k)
        (fun x C C' hx hC e hG=>by
         have:=cir_gry g hg _ x C C' hx hC e
         exact⟨this.1.trans hC,fun j hj=>hG j ((this.2.1 j).1 hj)⟩) _ _ _ hs (by simpa using hC)
        (fun j hj=>by
         rw[cget (by omega)] at hj
         by_cases ej:j=k
         ·subst ej;exact .refl (neg1 _)
         ·rw[if_neg ej] at hj
          exact absurd hj (hG j))
        (fun x hx C C' hC hG e=>cir_true g hg _ x k C C' (hs x hx) hC hG hx e) e2
       obtain⟨b,h1,h2⟩:=this
       exact⟨k,b,hk,hr,h1,h2⟩
      ·cases e
   ·rw[if_neg hr] at e;cases e
 ·rintro⟨a,b,ha,hp,hab,hcb⟩
  cases hc:circP g p with
  | true=>rfl
  | false =>
   exfalso
   unfold circP at hc
   have hc:∃ D,anyK (fun k C=>if p k=true then cirF g [] (g.length+1) k C else (false,C)) (List.range g.length) (List.replicate g.length 0)=(false,D):=⟨_,Prod.ext hc rfl⟩
   obtain⟨D,hc⟩:=hc
   have key:∀ (l C D:List Nat),(∀ k∈l,k<g.length)→C.length=g.length→white C<g.length+1→Blk g C →
     anyK (fun k C=>if p k=true then cirF g [] (g.length+1) k C else (false,C)) l C=(false,D)→Blk g D∧(∀ k∈l,p k=true→D.getD k 0=2)∧∀ j,C.getD j 0=2→D.getD j 0=2:=by
    intro l
    induction l with
    | nil =>
     intro C D _ _ _ hB h
     simp only[anyK,Prod.mk.injEq,true_and] at h
     subst h;exact⟨hB,fun k hk=>by simp at hk,fun _ h=>h⟩
    | cons k l ih =>
     intro C D hl hn hw hB h
     unfold anyK at h
     split at h
     ·cases h
     ·rename_i E e
      have hk:=hl k (by simp)
      by_cases hr:p k=true
      ·rw[if_pos hr] at e
       obtain⟨a1,a2,a3,a4⟩:=cir_false g hg _ k C E hk hn hw hB e
       obtain⟨b1,b2,b3⟩:=ih E D (fun x hx=>hl x (by simp[hx])) (a3.1.trans hn) (by omega) a1 h
       refine⟨b1,fun x hx hrx=>?_,fun j hj=>b3 j (a3.2.2 j hj)⟩
       rcases List.mem_cons.1 hx with rfl | hx
       ·exact b3 _ a2
       ·exact b2 x hx hrx
      ·rw[if_neg hr] at e
       injection e with _ e;subst e
       obtain⟨b1,b2,b3⟩:=ih C D (fun x hx=>hl x (by simp[hx])) hn hw hB h
       refine⟨b1,fun x hx hrx=>?_,b3⟩
       rcases List.mem_cons.1 hx with rfl | hx
       ·exact absurd hrx hr
       ·exact b2 x hx hrx
   have hwh:white (List.replicate g.length 0)<g.length+1:=by
    have:white (List.replicate g.length 0)≤(List.replicate g.length 0).length:=List.countP_le_length
    rw[List.length_replicate] at this
    omega
   obtain⟨a1,a2,_⟩:=key _ _ D hrng (by simp) hwh (fun b hb=>by rw[hrep] at hb;cases hb) hc
   exact (a1 b (a1.rch (a2 a (List.mem_range.2 ha) hp) hab)).2 hcb
def cln (g:Gr) (hs:List Nat):Gr:=(List.range g.length).map fun i=>if isHd hs i=true then [] else (g.getD i []).filter fun k=>!isHd hs k
theorem cln_len (g:Gr) (hs:List Nat):(cln g hs).length=g.length:=by simp[cln]
theorem cln_get (g:Gr) (hs:List Nat) (i:Nat):(cln g hs).getD i []=if isHd hs i=true then [] else (g.getD i []).filter fun k=>!isHd hs k:=by
 unfold cln
 by_cases h:i<g.length
 ·simp[List.getD,h]
 ·have:g[i]?=none:=List.getElem?_eq_none (by omega)
  have h2:(List.range g.length)[i]?=none:=List.getElem?_eq_none (by simp;omega)
  simp[List.getD,this,h2]
theorem cln_mem {g:Gr} {hs:List Nat} {i k:Nat}:k∈(cln g hs).getD i []↔k∈g.getD i []∧isHd hs i=false∧isHd hs k=false:=by
 rw[cln_get]
 split
 ·rename_i h;simp[h]
 ·rename_i h;rw[List.mem_filter];simp[h]
theorem getD_mem_lt {g:Gr} (hg:GrOK g) {i k:Nat} (h:k∈g.getD i []):i<g.length∧k<g.length:=by
 by_cases hi:i<g.length
 ·rw[getD_at hi] at h
  exact⟨hi,hg.lt _ (List.getElem_mem hi) k h⟩
 ·simp[List.getD,List.getElem?_eq_none (show g.length≤i by omega)] at h
theorem cln_ok {g:Gr} (hg:GrOK g) (hs:List Nat):GrOK (cln g hs):=by
 have hrow:∀ l∈cln g hs,∃ i,i<g.length∧l=(cln g hs).getD i []:=fun l hl=>by
  obtain⟨i,hi,rfl⟩:=List.mem_iff_getElem.1 hl
  refine⟨i,by rw[cln_len] at hi;exact hi,?_⟩
  rw[getD_at hi]
 refine⟨fun l hl n hn=>?_,by rw[cln_len];exact hg.len,by rw[cln_len];exact hg.sm,fun l hl=>?_⟩
 ·obtain⟨i,hi,rfl⟩:=hrow l hl
  rw[cln_len]
  exact (getD_mem_lt hg (cln_mem.1 hn).1).2
 ·obtain⟨i,hi,rfl⟩:=hrow l hl
  rw[cln_get]
  split
  ·simp
  ·rw[getD_at hi]
   exact Nat.le_trans (List.length_filter_le _ _) (hg.lenl _ (List.getElem_mem hi))
theorem anyK_filter {F F':Nat→List Nat→Bool×List Nat} {q:Nat→Bool} (h1:∀ k C,q k=true→F k C=F' k C) (h0:∀ k C,q k=false→F k C=(false,C)):∀ (l C:List Nat),anyK F l C=anyK F' (l.filter q) C
 | [],C=>rfl
 | k::l,C=>by
  cases hk:q k with
  | true =>
   rw[List.filter_cons_of_pos hk]
   simp only[anyK,h1 k C hk]
   split
   ·rfl
   ·exact anyK_filter h1 h0 l _
  | false =>
   rw[List.filter_cons_of_neg (by rw[hk];simp)]
   simp only[anyK,h0 k C hk]
   exact anyK_filter h1 h0 l _
theorem cirF_hd (g:Gr) (hs:List Nat) (f i:Nat) (C:List Nat) (h:isHd hs i=true):cirF g hs f i C=(false,C):=by
 cases f with
 | zero=>rfl
 | succ f=>unfold cirF;rw[if_pos (by rw[h];rfl)]
theorem cirF_cln (g:Gr) (hs:List Nat):∀ (f i:Nat) (C:List Nat),isHd hs i=false→cirF g hs f i C=cirF (cln g hs) [] f i C
 | 0,i,C,_=>rfl
 | f+1,i,C,h=>by
  have hsucc:(cln g hs).getD i []=(g.getD i []).filter fun k=>!isHd hs k:=by rw[cln_get,h];rfl
  have hany:=anyK_filter (F:=cirF g hs f) (F':=cirF (cln g hs) [] f) (q:=fun k=>!isHd hs k) (fun k C hk=>cirF_cln g hs f k C (by simpa using hk)) (fun k C hk=>cirF_hd g hs f k C (by simpa using hk)) (g.getD i []) (C.set i 1)
  unfold cirF
  rw[h,hsucc,hany]
  rfl
theorem circ_cln (g:Gr) (hs:List Nat):circ g hs=circP (cln g hs) (fun k=>(reachL g (-1)).getD k false&&!isHd hs k):=by
 unfold circ circP
 rw[cln_len]
 congr 1
 congr 1
 funext k C
 show (if (reachL g (-1)).getD k false=true then _ else _)=(if ((reachL g (-1)).getD k false&&!isHd hs k)=true then _ else _)
 cases hr:(reachL g (-1)).getD k false with
 | false=>rfl
 | true =>
  rw[if_pos rfl]
  cases hh:isHd hs k with
  | true=>rw[cirF_hd g hs _ k C hh];rfl
  | false=>rw[cirF_cln g hs _ k C hh];rfl
theorem countP_lt {p q:Nat→Bool}:∀ {l:List Nat} {y:Nat},(∀ x∈l,p x=true→q x=true)→y∈l→q y=true→p y=false→l.countP p<l.countP q
 | x::l,y,h,hy,hq,hp=>by
  have hle:l.countP p≤l.countP q:=List.countP_mono_left fun z hz=>h z (List.mem_cons_of_mem _ hz)
  rcases List.mem_cons.1 hy with rfl | hy
  ·rw[List.countP_cons_of_neg (by rw[hp];simp),List.countP_cons_of_pos hq];omega
  ·have ih:=countP_lt (fun z hz=>h z (List.mem_cons_of_mem _ hz)) hy hq hp
   have hx:=h x (List.mem_cons_self ..)
   rw[List.countP_cons,List.countP_cons]
   cases hpx:p x with
   | true=>rw[hx hpx];simp;exact ih
   | false=>rw[if_neg (by simp)];omega
theorem Rch.first {g:Gr} {wo:Int} {x b:Nat} (h:Rch g wo x b):x=b∨∃ k∈g.getD x [],Rch g wo k b:=by
 induction h with
 | refl _=>exact .inl rfl
 | step _ hc hw ih =>
  rcases ih with rfl | ⟨k,hk,hr⟩
  ·exact .inr ⟨_,hc,.refl hw⟩
  ·exact .inr ⟨k,hk,.step hr hc hw⟩
theorem sus_cir {g:Gr} (hg:GrOK g) {p:Nat→Prop} (h:∀ x,p x→∃ k∈g.getD x [],p k) {x:Nat} (hx:p x):∃ b,p b∧Cir g b:=by
 classical
 refine Classical.byContradiction fun hno=>?_
 have hno:∀ b,p b→¬ Cir g b:=fun b hb hc=>hno ⟨b,hb,hc⟩
 let m:Nat→Nat:=fun x=>(List.range g.length).countP fun y=>decide (Rch g (-1) x y)
 have:∀ n x,m x=n→¬ p x:=by
  intro n
  induction n using Nat.strongRecOn with
  | ind n ih =>
  intro x hm hp
  obtain⟨k,hk,hpk⟩:=h x hp
  obtain⟨hxl,hkl⟩:=getD_mem_lt hg hk
  have hxk:Rch g (-1) x k:=.step (.refl (neg1 _)) hk (neg1 _)
  have hlt:m k<m x:=countP_lt (y:=x) (fun z _ hz=>decide_eq_true (hxk.trans (of_decide_eq_true hz))) (List.mem_range.2 hxl) (decide_eq_true (.refl (neg1 _))) (decide_eq_false fun hr=>hno x hp ⟨k,hk,hr⟩)
  exact ih (m k) (by omega) k rfl hpk
 exact this _ x rfl hx
theorem cln_rch {g:Gr} {hs:List Nat} {a b:Nat} (h:Rch (cln g hs) (-1) a b):Rch g (-1) a b∧(isHd hs a=false→isHd hs b=false):=by
 induction h with
 | refl _=>exact⟨.refl (neg1 _),id⟩
 | step _ hc hw ih=>exact⟨.step ih.1 (cln_mem.1 hc).1 hw,fun _=>(cln_mem.1 hc).2.2⟩
theorem rcirc_eq (g:Gr) (hg:GrOK g) (hs:List Nat) (W:List Bool) (hW:∀ x,x<g.length→W.getD x false=isHd hs x):rcirc g (rRL g 0 (-1)) W=circ g hs:=by
 have hg':=cln_ok hg hs
 rw[circ_cln,Bool.eq_iff_iff,rcirc_iff,circP_iff _ hg']
 have hlf:∀ x,x<g.length→(lf0 (rRL g 0 (-1)) W x=true↔Rch g (-1) 0 x∧isHd hs x=false):=fun x hx=>by
  unfold lf0
  rw[Bool.and_eq_true,hW x hx,rRL_get g hg (-1) 0 (by omega) x hx]
  simp
 have hI:∀ x,x<g.length→((reachL g (-1)).getD x false=true↔Rch g (-1) 0 x):=fun x hx=>reachL_get g hg (-1) x hx
 constructor
 ·rintro⟨p,x,⟨hS,hin⟩,hx⟩
  have hp:∀ y,p y→y<g.length∧Rch g (-1) 0 y∧isHd hs y=false:=fun y hy=>⟨(hS y hy).1,(hlf y (hS y hy).1).1 (hin y hy)⟩
  obtain⟨b,hb,hc⟩:=sus_cir hg' (p:=p) (fun y hy=>by
   obtain⟨_,k,hk,hpk⟩:=hS y hy
   exact⟨k,cln_mem.2 ⟨hk,(hp y hy).2.2,(hp k hpk).2.2⟩,hpk⟩) hx
  obtain⟨h1,h2,h3⟩:=hp b hb
  exact⟨b,b,by rw[cln_len];exact h1,by rw[(hI b h1).2 h2,h3];rfl,.refl (neg1 _),hc⟩
 ·rintro⟨a,b,ha,hqa,hab,s,hs',hsb⟩
  rw[cln_len] at ha
  rw[Bool.and_eq_true,hI a ha] at hqa
  have hna:isHd hs a=false:=by simpa using hqa.2
  have hbl:=Rch.lt hg' (by rw[cln_len];exact ha) hab
  rw[cln_len] at hbl
  have hsl:=(getD_mem_lt hg' hs').2
  refine⟨fun x=>Rch (cln g hs) (-1) s x∧Rch (cln g hs) (-1) x b,s,⟨fun x hx=>?_,fun x hx=>?_⟩,.refl (neg1 _),hsb⟩
  ·have hxl:=Rch.lt hg' hsl hx.1
   rw[cln_len] at hxl
   refine⟨hxl,?_⟩
   rcases hx.2.first with rfl | ⟨k,hk,hr⟩
   ·exact⟨s,(cln_mem.1 hs').1,.refl (neg1 _),hsb⟩
   ·exact⟨k,(cln_mem.1 hk).1,.step hx.1 hk (neg1 _),hr⟩
  ·have hxl:=Rch.lt hg' hsl hx.1
   rw[cln_len] at hxl
   have hax:Rch (cln g hs) (-1) a x:=(Rch.step hab hs' (neg1 _)).trans hx.1
   have h2:=cln_rch hax
   exact (hlf x hxl).2 ⟨hqa.1.trans h2.1,h2.2 hna⟩
end
end Go.Proofs.YtihbimigddlbaaaGreatDoor.L
end
noncomputable section
set_option linter.all false
namespace Go.Proofs.YtihbimigddlbaaaGreatDoor.L
open Go Go.RowKit Go.Proofs.YtihbimigddlbaaaGreatDoor.Pl
variable [Gm]
set_option maxRecDepth 10000
section
omit [Gm] in
theorem Rch.last {g:Gr} {wo:Int} {a b:Nat} (h:Rch g wo a b):(b:Int)≠wo:=by
 cases h with
 | refl h=>exact h
 | step _ _ hw=>exact hw
omit [Gm] in
theorem rhH_eq (g:Gr) (hg:GrOK g) (h:Nat) (hh:h<g.length):rhH g h=hitK g h:=by
 have h0:0<g.length:=by omega
 rw[Bool.eq_iff_iff,hitK_iff g hg h hh]
 unfold rhH IsHead
 rw[Bool.and_eq_true,rRL_get g hg (-1) 0 h0 h hh,List.any_eq_true]
 constructor
 ·rintro⟨_,b,hb,hB⟩
  have hb:=List.mem_range.1 hb
  unfold rhB at hB
  rw[Bool.and_eq_true,rRL_get g hg (-1) 0 h0 b hb,List.any_eq_true] at hB
  obtain⟨hr,k,hk,hJ⟩:=hB
  unfold rhJ at hJ
  rw[Bool.and_eq_true,Bool.or_eq_true,not_get g hg (h:Int) b hb] at hJ
  have hkh:k=h:=by have:=hJ.1;simp at this;omega
  subst hkh
  refine⟨b,hr,hk,?_⟩
  rcases hJ.2 with h1 | h1
  ·exact h1
  ·have:b=k:=by simp at h1;omega
   subst this
   exact fun h=>h.last rfl
 ·rintro⟨i,hr,hk,hno⟩
  have hi:=Rch.lt hg h0 hr
  refine⟨.step hr hk (neg1 _),i,List.mem_range.2 hi,?_⟩
  unfold rhB
  rw[Bool.and_eq_true,rRL_get g hg (-1) 0 h0 i hi,List.any_eq_true]
  refine⟨hr,h,hk,?_⟩
  unfold rhJ
  rw[Bool.and_eq_true,Bool.or_eq_true,not_get g hg (h:Int) i hi]
  exact⟨by simp,.inl hno⟩
omit [Gm] in
theorem rmk0_get (g:Gr) (x:Nat) (hx:x<g.length):(rmk0 g g.length).getD x false=rhH g x:=by
 unfold rmk0
 simp[List.getD,hx]
omit [Gm] in
theorem idx_heads (g:Gr) (hg:GrOK g):idxOf (rmk0 g g.length)=headsK g:=by
 unfold idxOf headsK
 have hl:(rmk0 g g.length).length=g.length:=by unfold rmk0;simp
 rw[hl]
 refine List.filter_congr fun x hx=>?_
 have hx:=List.mem_range.1 hx
 rw[rmk0_get g x hx,rhH_eq g hg x hx]
omit [Gm] in
theorem isHd_heads (g:Gr) (x:Nat) (hx:x<g.length):isHd (headsK g) x=hitK g x:=by
 unfold isHd
 rw[Bool.eq_iff_iff,any_int]
 unfold headsK
 rw[List.mem_filter,List.mem_range]
 exact⟨fun h=>h.2,fun h=>⟨hx,h⟩⟩
omit [Gm] in
theorem rcirc_heads (g:Gr) (hg:GrOK g):rcirc g (rRL g 0 (-1)) (rmk0 g g.length)=circ g (headsK g) :=
 rcirc_eq g hg (headsK g) _ fun x hx=>by rw[rmk0_get g x hx,rhH_eq g hg x hx,isHd_heads g x hx]
omit [Gm] in
theorem formB_eq (f:Fm) (h:f.cnt≤1000000):formB f=rdB f:=by
 unfold formB rdB rd0 rdV procOK
 rw[valid_eq f h,cls_eq _ _ rfl]
 have hg:lenGe f.kids 4=decide (4≤f.kids.length):=lenGe_dec f.kids 4
 have hd:decide (((rows f.kids).length:Int)<4)=!decide (4≤f.kids.length):=by
  rw[rows_len]
  by_cases h:4≤f.kids.length
  ·rw[decide_eq_true h,decide_eq_false (by omega)];rfl
  ·rw[decide_eq_false h,decide_eq_true (by omega)];rfl
 rw[hg,hd]
 cases validB f <;> cases hEq f sProc <;> cases decide (4≤f.kids.length) <;> cases isNm (f.kids.getD 1 w0) <;> cases varsOK (f.kids.getD 2 w0) <;> cases varsOK (f.kids.getD 3 w0) <;> simp
theorem gra_bad (f:Fm) (hf:Fit f) (hc:f.cnt≤1000000) (hs:f.sz≤3000) (h:¬ shapedB f=true):PC Tryz.prog 21 [f.enc] (.tup [nilT,tI (shErr f)]):=by
 have hq:=formB_eq f hc
 have hse:shErr f=if formB f=true then 6 else 4:=rfl
 rw[hq] at hse
 rw[shaped_eq f hc] at h
 cases hr:rdB f with
 | false =>
  have hb:=read_bad f hf hc hs hr
  rw[hr] at hse
  rw[hse]
  rw[f_enc] at hb ⊢
  exact graph_bad _ rfl zero8 rfl hb
 | true =>
  rw[hr,Bool.true_and] at h
  have hg:=graph_of f hf hc hs hr
  rw[(rd_blk hr).1,grT_not _ h] at hg
  rw[hr] at hse
  rw[hse]
  exact hg
theorem gra_ok (f:Fm) (hf:Fit f) (hc:f.cnt≤1000000) (hs:f.sz≤3000) (h:shapedB f=true):PC Tryz.prog 21 [f.enc] (.tup [encG (graphOf f),tI 0]):=by
 have h':=h
 rw[shaped_eq f hc,Bool.and_eq_true] at h'
 have hg:=graph_of f hf hc hs h'.1
 rw[(rd_blk h'.1).1,grT_named _ h'.2] at hg
 exact hg
theorem rch_good (L:LF) (f:Fm) (hf:Fit f) (hlow:Low f) (hs:shapedB f=true):PC Tryz.prog 11 [f.enc] (.tup [encN (idxOf (reachL (graphOf f) (-1))),tI 0]) :=
 SC.pc (args:=[f.enc]) (pReach_spec L f hf hlow) (fun x os' h=>by
  rcases h with⟨h,_⟩ | ⟨_,_,_,h⟩
  ·exact h
  ·exact absurd hs h)
theorem rch_bad (L:LF) (f:Fm) (hf:Fit f) (hlow:Low f) (hs:¬ shapedB f=true):PC Tryz.prog 11 [f.enc] (.tup [nilT,tI (shErr f)]) :=
 SC.pc (args:=[f.enc]) (pReach_spec L f hf hlow) (fun x os' h=>by
  rcases h with⟨_,h⟩ | ⟨e,h1,h2,_⟩
  ·exact absurd h hs
  ·have h2:e=shErr f:=h2
   rw[←h2];exact h1)
omit [Gm] in
theorem idx_len (L:List Bool):(idxOf L).length≤L.length:=filLen _ _
theorem law_all (L:LF) (hsane:PC Tryz.prog 5 [] (tB true)) (f:Fm) (hf:Fit f) (hc:f.cnt≤1000000):PC Tryz.prog 3 [f.enc] (tB true):=by
 have h4:=large_spec f hf hc
 have hl:=low_of f hc
 have he:encs [f]=.sl 4 [f.cells]:=rfl
 have he2:f.enc=.agg f.cells:=rfl
 have hcl:f.cells.length=4:=by cases f;rfl
 rw[he] at h4
 by_cases hb:f.sz+1>3000
 ·rw[decide_eq_true hb] at h4
  rw[he2]
  exact law_big _ hcl h4 hsane
 rw[decide_eq_false hb] at h4
 have hs:f.sz≤3000:=by omega
 by_cases h:shapedB f=true
 ·have hg:=gr_ok f hf hc h
  have h6:=suc_good L f hf hl h
  have h7:=suc_ok f hf hc hs h
  have h9:=lps_good L f hf hl h
  have hgr:=gra_ok f hf hc hs h
  have h11:=rch_good L f hf hl h
  rw[he2] at hgr
  have h10:=rLoops_good _ hcl _ hg hgr
  have h12:=rReach_good _ hcl _ hg hgr
  rw[idx_heads _ hg,rcirc_heads _ hg] at h10
  rw[←reachL_eq _ hg] at h12
  rw[he2] at h6 h7 h9 h11 ⊢
  refine law_good _ hcl _ hg _ _ ?_ ?_ _ h4 hsane h6 h7 h9 h10 h11 h12
  ·have h1:(headsK (graphOf f)).length≤(graphOf f).length:=filLen _ _
   exact Nat.le_trans h1 hg.len
  ·have h1:=idx_len (reachL (graphOf f) (-1))
   rw[reachL_len] at h1
   exact Nat.le_trans h1 hg.len
 ·have h6:=suc_bad L f hf hl h
  have h9:=lps_bad L f hf hl h
  have h11:=rch_bad L f hf hl h
  have hgr:=gra_bad f hf hc hs h
  have hne:shErr f≠0:=EE.ne (f:=f) rfl
  rw[he2] at hgr h6 h9 h11 ⊢
  exact law_bad _ hcl _ h4 hsane h6 (rsucc_of _ hcl _ _ hgr) h9 (rLoops_bad _ hcl _ hne hgr) h11 (rReach_bad _ hcl _ hne hgr)
end
end Go.Proofs.YtihbimigddlbaaaGreatDoor.L
end
