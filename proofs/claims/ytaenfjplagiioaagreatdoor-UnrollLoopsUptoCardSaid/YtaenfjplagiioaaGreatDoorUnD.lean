/- A part of the proof: PlV18 PlV19 PlV20 PlV21. -/
import Derived.Test.YtaenfjplagiioaaGreatDoorUnC
import Derived.Test.YtaenfjplagiioaaGreatDoorSh
import Derived.Sort.OwnSorted
import Derived.Sort.KeysCollected
noncomputable section
set_option linter.all false
namespace Go.Proofs.YtaenfjplagiioaaGreatDoor.L
open Go Go.RowKit Go.Proofs.YtaenfjplagiioaaGreatDoor.Pl Go.Sort
variable [Gm]
set_option maxRecDepth 10000
section
def tL (s:List UInt8):List TV:=[tS ⟨s.toArray⟩]
def srt (ss:List (List UInt8)):List (List UInt8):=ss.mergeSort fun x y=>decide (x≤y)
omit [Gm] in
theorem relR_tL {w:World} {F:Nat→Prop}:∀ {ss:List (List UInt8)} {us:List Value},TV.relR w F 1 (ss.map tL) us↔us=ss.map encStr
 | [],us=>by simp[TV.relR]
 | s::ss,us=>by
  simp only[List.map_cons,TV.relR,tL,tS,TV.relL,TV.rel]
  constructor
  ·rintro⟨u1,u2,rfl,_,⟨u,us',rfl,⟨rfl,_⟩,rfl⟩,h⟩
   rw[relR_tL] at h
   subst h;rfl
  ·rintro rfl
   exact⟨[encStr s],ss.map encStr,rfl,rfl,⟨_,_,rfl,⟨rfl,rfl⟩,rfl⟩,relR_tL.2 rfl⟩
theorem sort_ent:Ent Tryz.prog 39:=fun a w=>Tryz.call39 a w
theorem sort_spec (ss:List (List UInt8)) (hs:ss.length≤1000000):SC Tryz.prog 39 [.row 9 1 (ss.map tL)] [.sl 1000] (fun x os'=>x=.ret (.tup [])∧os'=[.row 9 1 ((srt ss).map tL)]):=by
 intro B0 F0 w m kk us H hF hr
 have hob:=H.ob 1000 _ rfl
 obtain⟨vs,hown,hrr,hone,hk0,hkk⟩:=hob
 rw[relR_tL] at hrr
 subst hrr
 simp only[AV.relL,AV.rel] at hr
 obtain⟨u,us',rfl,⟨rfl,_⟩,rfl⟩:=hr
 have hlen:(ss.map tL).length=ss.length:=List.length_map ..
 rw[hlen] at hown
 have key:∀ w',Heap B0 F0 w (lab 1000 [.row 9 1 ((srt ss).map tL)]) m kk w'→∃ x os',(x=SE.ret (.tup [])∧os'=[AO.row 9 1 ((srt ss).map tL)])∧os'.length=[AO.row 9 1 (ss.map tL)].length∧Heap B0 F0 w (lab 1000 os') m kk w'∧x.fits w' (Fc F0 B0 (lab 1000 os') m) (.returned (.tuple #[])):=fun w' H' =>
  ⟨_,_,⟨rfl,rfl⟩,rfl,H',.tuple #[],rfl,by simp only[TV.rel,TV.relL];exact⟨[],rfl,rfl⟩⟩
 have hkl:killS 1000 (lab 1000 [AO.row 9 1 (ss.map tL)])=[]:=rfl
 have hupm:upd m 1000 (m 1000)=m:=by funext l;unfold upd;split <;> simp_all
 have hupk:upd kk 1000 1=kk:=by funext l;unfold upd;split <;> simp_all
 rcases hown.1.2 with⟨hnil,hx⟩ | ⟨g,cap,cur,hv,hbase,hb,h1,h2,h3,h4⟩
 ·have hx:ss.length=0:=hx
  have:ss=[]:=List.length_eq_zero_iff.1 hx
  subst this
  rw[hnil]
  refine (Tryz.slices_Sort_string_none none 0 w).mono ?_
  rintro e w' ⟨rfl,rfl⟩
  have hs0:srt []=[]:=by unfold srt;simp
  have key:=key w' (hs0.symm ▸ H)
  exact key
 ·have hg:g<w.heap.size:=(Array.getElem?_eq_some_iff.1 hb).1
  have hls:(srt ss).length=ss.length:=by unfold srt;simp
  have hO:B0 g:=hown.2 g (by rw[hv];rfl)
  have hc:=Tryz.slices_Sort_string g 0 cap ss w (holds_of_block hb (by simpa using h4)) hg (by omega)
  rw[←hv] at hc
  refine hc.mono ?_
  rintro e w' ⟨rfl,n,os,hw'⟩
  have hgb:w.grownBy w' (some g):=by rw[hw'];exact grownBy_sorted _
  have hrow:w'.ownsRow 0 9 1 (m 1000) ss.length ((srt ss).map encStr):=by
   rw[hw',hv]
   exact ownsRow_sorted hls (Nat.zero_le _) hb h1 h2 h3
  have hL:=Heap.lay (w':=w') H 1000 (m 1000) 1 (.row 9 1 ((srt ss).map tL)) (fun b hbl hno=>hgb.block b hbl (fun e=>hno _ rfl (by rw[hv];exact e.symm))) hgb.size hgb.os hgb.tape hgb.output
   (fun g' hg'=>.inr ⟨_,rfl,hg'⟩) (by
    rw[hupm,hupk]
    refine⟨(srt ss).map encStr,⟨?_,hown.2⟩,relR_tL.2 rfl,?_,hk0,hkk⟩
    ·rw[List.length_map,hls];exact hrow
    ·intro u hu
     obtain⟨s,_,rfl⟩:=List.mem_map.1 hu
     rfl)
  have hL:=hL.1
  rw[hkl,hupm,hupk] at hL
  exact key w' hL
end
section
def bts (s:ByteArray):List UInt8:=s.data.toList
def sortS (M:List ByteArray):TV:=.sl 1 ((srt (M.map bts)).map tL)
omit [Gm] in
theorem tL_bts (s:ByteArray):tL (bts s)=[tS s]:=by unfold tL bts;simp
omit [Gm] in
theorem seen_perm (M:List ByteArray) (seen:List Nat) (hn:seen.Nodup) (hlt:∀ i∈seen,i<M.length) (hall:∀ i,i<M.length→i∈seen):srt ((seen.map fun i=>M.getD i ⟨#[]⟩).map bts)=srt (M.map bts):=by
 have hp:seen.Perm (List.range M.length):=(List.perm_ext_iff_of_nodup hn List.nodup_range).2 fun i=>⟨fun h=>List.mem_range.2 (hlt i h),fun h=>hall i (List.mem_range.1 h)⟩
 have he:(List.range M.length).map (fun i=>M.getD i ⟨#[]⟩)=M:=by
  apply List.ext_getElem (by simp)
  intro i h1 h2
  simp[List.getD,List.getElem?_eq_getElem h2]
 have hq:=(hp.map fun i=>M.getD i ⟨#[]⟩).map bts
 rw[he] at hq
 exact mergeSort_of_perm hq
omit [Gm] in
theorem nodup_len {l:List Nat} {n:Nat} (hn:l.Nodup) (h:∀ i∈l,i<n):l.length≤n:=by
 have:=List.Nodup.length_le_of_subset hn (l₂:=List.range n) (fun i hi=>List.mem_range.2 (h i hi))
 rwa [List.length_range] at this
theorem sorted_ent:Ent Tryz.prog 22:=fun a w=>Tryz.call22 a w
theorem sorted_spec (M:List ByteArray) (hM:M.length≤1000000):SC Tryz.prog 22 [.mo (.map true (mapS M))] [.sl 1000] (fun x os'=>x=.ret (sortS M)∧os'=[.mo (.map true (mapS M))]):=by
 have hml:(mapS M).length=M.length:=List.length_map ..
 have hmg:∀ i k v,(mapS M)[i]?=some (k,v)→i<M.length∧k=.string (M.getD i ⟨#[]⟩)∧v=tB true:=fun i k v h=>by
  unfold mapS at h
  rw[List.getElem?_map] at h
  cases hg:M[i]? with
  | none=>rw[hg] at h;cases h
  | some s =>
   rw[hg] at h
   simp only[Option.map_some,Option.some.injEq,Prod.mk.injEq] at h
   exact⟨(List.getElem?_eq_some_iff.1 hg).1,by rw[List.getD,hg];exact h.1.symm,h.2.symm⟩
 refine SC.of_ok tok Tryz.func22 rfl (Nat.le_of_ble_eq_true rfl) (Nat.le_of_ble_eq_true rfl) (ev_sound ctx (own:=[14]) _ _ _ ?_)
 refine Ok.loop (st:=fun seen:List Nat=>⟨[(6,.ptr 6 0),(3,.sl 14)],[(6,.mo (.it 1000 seen (mapS M).length)),(14,.row 9 1 (seen.map fun i=>[tS (M.getD i ⟨#[]⟩)])),(1000,.mo (.map true (mapS M)))]⟩)
  (R:=fun seen=>seen.Nodup∧∀ i∈seen,i<M.length) (μ:=fun seen=>M.length-seen.length) []
  ((Wk.nil 3 14 9 1 (by decide) rfl).trans (Wk.sub ⟨rfl,rfl,trivial⟩ ⟨rfl,rfl,rfl,trivial⟩)) ⟨List.nodup_nil,fun i h=>by cases h⟩ ?_
 rintro seen ⟨hnd,hlt⟩
 have hnd:seen.Nodup:=hnd
 have hlt:∀ i∈seen,i<M.length:=hlt
 have hsl:=nodup_len hnd hlt
 refine ev_sound ctx (own:=[14]) _ _ _ ?_
 refine⟨rfl,fun i k v hget hni=>?_,fun hall=>?_⟩
 ·obtain⟨hi,hk,hv⟩:=hmg i k v hget
  have hget':(mapS M)[i]?=some (.string (M.getD i ⟨#[]⟩),tB true):=by rw[hget,hk,hv]
  refine⟨fun _=>?_,fun h=>absurd h (by decide)⟩
  refine⟨rfl,i,.string (M.getD i ⟨#[]⟩),tB true,by simp,hget',?_⟩
  have hll:(seen.map fun i=>[tS (M.getD i ⟨#[]⟩)]).length=seen.length:=List.length_map ..
  have hnd2:(seen++[i]).Nodup:=by
   rw[List.nodup_append]
   exact⟨hnd,by simp,fun a ha b hb=>by simp at hb;subst hb;exact fun e=>hni (e ▸ ha)⟩
  have hlt2:∀ j∈seen++[i],j<M.length:=fun j hj=>by
   rcases List.mem_append.1 hj with h | h
   ·exact hlt j h
   ·simp at h;omega
  have hsl2:=nodup_len hnd2 hlt2
  rw[List.length_append,List.length_singleton] at hsl2
  have hrow:some (AO.row 9 1 ((seen.map fun i=>[tS (M.getD i ⟨#[]⟩)])++[[tS (M.getD i ⟨#[]⟩)]]))=some (AO.row 9 1 ((seen++[i]).map fun i=>[tS (M.getD i ⟨#[]⟩)])):=by rw[List.map_append];rfl
  exact⟨by show ((seen.map fun i=>[tS (M.getD i ⟨#[]⟩)]).length+1)*16≤_;rw[hll];omega,by show (seen.map fun i=>[tS (M.getD i ⟨#[]⟩)]).length+1≤maxLen;rw[hll];simp only[maxLen];omega,seen++[i],Wk.sub ⟨rfl,rfl,trivial⟩ ⟨rfl,hrow,rfl,trivial⟩,⟨hnd2,hlt2⟩,by show M.length-(seen++[i]).length<M.length-seen.length;rw[List.length_append,List.length_singleton];omega⟩
 ·refine⟨fun h=>absurd h (by decide),fun _=>?_⟩
  have hss:(seen.map fun i=>[tS (M.getD i ⟨#[]⟩)])=((seen.map fun i=>M.getD i ⟨#[]⟩).map bts).map tL:=by
   rw[List.map_map,List.map_map]
   exact List.map_congr_left fun i _=>(tL_bts _).symm
  have hpm:=seen_perm M seen hnd hlt (fun i hi=>hall i (by rw[hml];exact hi))
  have hsp:=sort_spec ((seen.map fun i=>M.getD i ⟨#[]⟩).map bts) (by rw[List.length_map,List.length_map];omega)
  rw[←hss,hpm] at hsp
  refine .inl ⟨sort_ent,.inr (.inr (.inl ⟨[14],_,_,_,hsp,rfl,rfl,⟨rfl,trivial⟩,fun r os' _ h=>?_,fun r os' _ h=>?_⟩))⟩
  ·have h1:=h.2
   subst h1
   exact⟨_,⟨rfl,rfl⟩,rfl,rfl,rfl,trivial⟩
  ·cases h.1
end
section
def bNames (b:Fm):List ByteArray:=((b.kids.take (b.kids.length-1)).drop 2).flatMap asgNames
def inB (n:Nat) (i:Int):Bool:=!(decide (i<0)||decide (i≥(n:Int)))
def nmsOf (BS:List Fm) (l:List Int):List ByteArray:=l.flatMap fun i=>bNames (BS.getD i.toNat w0)
def asgT (BS:List Fm) (l:List Int):TV:=if (l.all (inB BS.length))=true then .tup [sortS (addAll [] (nmsOf BS l)),tI 0] else .tup [nilT,tI 1]
def uAsg (f:Fm) (l:List Int):TV:=if shapedB f=true then asgT (blksOf f.kids) l else .tup [nilT,tI 1]
omit [Gm] in
theorem addS_nodup {M:List ByteArray} (h:M.Nodup) (s:ByteArray):(addS M s).Nodup:=by
 unfold addS
 split
 ·exact h
 ·rename_i hn
  rw[List.nodup_append]
  refine⟨h,by simp,fun a ha b hb=>?_⟩
  simp at hb
  subst hb
  intro e
  subst e
  exact hn (List.any_eq_true.2 ⟨a,ha,beq_self a⟩)
omit [Gm] in
theorem addS_sub {M A:List ByteArray} (h:∀ x∈M,x∈A) {s:ByteArray} (hs:s∈A):∀ x∈addS M s,x∈A:=by
 unfold addS
 split
 ·exact h
 ·intro x hx
  rcases List.mem_append.1 hx with hx | hx
  ·exact h x hx
  ·simp at hx;subst hx;exact hs
omit [Gm] in
theorem addAll_ok {A:List ByteArray}:∀ (l M:List ByteArray),M.Nodup→(∀ x∈M,x∈A)→(∀ x∈l,x∈A)→(addAll M l).Nodup∧∀ x∈addAll M l,x∈A
 | [],M,h1,h2,_=>⟨h1,h2⟩
 | s::l,M,h1,h2,h3=>addAll_ok l (addS M s) (addS_nodup h1 s) (addS_sub h2 (h3 s (List.mem_cons_self ..))) (fun x hx=>h3 x (List.mem_cons_of_mem _ hx))
omit [Gm] in
theorem pan_ne {r z:TV} (h:SE.pan r=SE.ret z):False:=by cases h
theorem uAsg_ent:Ent Tryz.prog 8:=fun a w=>Tryz.call8 a w
theorem uAsg_bad (cs:List TV) (hc:cs.length=4) (l:TV) (hlp:SC Tryz.prog 15 [] [.t (.agg cs)] (fun x _=>∃ e,x=.ret (.tup [nilT,tI e])∧e≠0)):PC Tryz.prog 8 [.agg cs,l] (.tup [nilT,tI 1]):=by
 match cs,hc with
 | [a,b,c,d],_ =>
 refine PC.of_ok tok Tryz.func8 rfl (Nat.le_of_ble_eq_true rfl) (ev_sound ctx (own:=[9999,10015]) _ _ _ ?_)
 refine⟨pSucc_ent,[],[],_,_,hlp,rfl,rfl,trivial,fun r os' _ h=>?_,fun r os' _ h=>?_⟩
 ·obtain⟨e,h1,h2⟩:=h
  injection h1 with h1
  subst h1
  refine⟨fun _=>?_,fun h=>?_⟩
  ·exact rfl
  ·have h:(e != 0)=false:=h
   exact absurd (by simpa using h) h2
 ·obtain⟨e,h1,_⟩:=h
  cases h1
structure BsOK (BS:List Fm):Prop where
 len:BS.length≤1000000
 fit:∀ b∈BS,∀ c∈(b.kids.take (b.kids.length-1)).drop 2,Fit c
 lenc:∀ b∈BS,((b.kids.take (b.kids.length-1)).drop 2).length≤maxLen
 ok:∀ b∈BS,∀ c∈(b.kids.take (b.kids.length-1)).drop 2,cmdOK c=true
 all:(BS.flatMap bNames).length≤1000000
theorem uAsg_good (cs:List TV) (hc:cs.length=4) (BS:List Fm) (hB:BsOK BS) (l:List Int) (oth g:TV) (hsu:PC Tryz.prog 15 [.agg cs] (.tup [g,tI 0])) (hrd:PC Tryz.prog 20 [.agg cs] (.agg [oth,.sl 6 (BS.map rdT)])) :
  PC Tryz.prog 8 [.agg cs,.sl 1 (l.map fun n=>[tI n])] (asgT BS l):=by
 refine PC.have (fun w F us h=>(relL_tail h).elim fun _ h=>sl_len0 h) fun hl=>?_
 have hl:l.length≤maxLen:=by rw[List.length_map] at hl;exact hl
 have hbl:((BS.map rdT).length:Int)=(BS.length:Int):=by rw[List.length_map]
 have hin:∀ x:Int,(!(decide (x<0)||decide (x≥((BS.map rdT).length:Int))))=inB BS.length x:=fun x=>by rw[hbl];rfl
 have hT1:(l.all (inB BS.length))=true→asgT BS l=.tup [sortS (addAll [] (nmsOf BS l)),tI 0]:=fun h=>by unfold asgT;rw[if_pos h]
 have hT2:(l.all (inB BS.length))=false→asgT BS l=.tup [nilT,tI 1]:=fun h=>by unfold asgT;rw[if_neg (by rw[h];simp)]
 generalize asgT BS l=T at hT1 hT2
 match cs,hc with
 | [a,b,c,d],_ =>
 refine PC.of_ok tok Tryz.func8 rfl (Nat.le_of_ble_eq_true rfl) (ev_sound ctx (own:=[21]) _ _ _ ?_)
 refine⟨pSucc_ent,.inl ⟨_,hsu,?_⟩⟩
 refine⟨fun h=>absurd h (by decide),fun _=>?_⟩
 refine⟨uread_ent,.inl ⟨_,hrd,?_⟩⟩
 refine Ok.loop (st:=fun x:Nat×List ByteArray=>⟨[(24,vi x.1),(23,vi l.length),(22,.t (.sl 1 (l.map fun n=>[tI n]))),(9,.sl 21),(8,.ptr 8 0)],[(8,.var [.t oth,.t (.sl 6 (BS.map rdT))]),(21,.mo (.map true (mapS x.2)))]⟩)
  (R:=fun x=>x.1≤l.length∧addAll [] (nmsOf BS l)=addAll x.2 (nmsOf BS (l.drop x.1))∧(l.take x.1).all (inB BS.length)=true∧x.2.Nodup∧∀ s∈x.2,s∈BS.flatMap bNames) (μ:=fun x=>l.length-x.1) (0,[])
  (Wk.sub ⟨rfl,slotI (by simp),rfl,rfl,rfl,trivial⟩ ⟨rfl,rfl,trivial⟩) ⟨Nat.zero_le _,rfl,rfl,List.nodup_nil,fun s h=>by cases h⟩ ?_
 rintro⟨i,M⟩ ⟨hi,hR,hall,hnd,hsub⟩
 have hi:i≤l.length:=hi
 have hR:addAll [] (nmsOf BS l)=addAll M (nmsOf BS (l.drop i)):=hR
 have hall:(l.take i).all (inB BS.length)=true:=hall
 have hnd:M.Nodup:=hnd
 have hsub:∀ s∈M,s∈BS.flatMap bNames:=hsub
 refine ev_sound ctx (own:=[21]) _ _ _ ?_
 refine⟨fun h=>?_,fun h=>?_⟩
 ·have hlt:i<l.length:=ltOf h
  have hget:(0:Int)≤(i:Int)∧(l.map fun n=>[tI n])[((i:Nat):Int).toNat]?=some [tI l[i]]:=getM hlt
  have hmem:l[i]∈l:=List.getElem_mem hlt
  rw[List.drop_eq_getElem_cons hlt] at hR
  have htk:l.take (i+1)=l.take i++[l[i]]:=by rw[List.take_add_one,List.getElem?_eq_getElem hlt];rfl
  generalize l[i]=x at hget hmem hR htk
  refine⟨_,hget,?_⟩
  refine⟨fun h1=>?_,fun h1=>?_⟩
  ·have h1:(decide (x<0)||decide (x≥((BS.map rdT).length:Int)))=true:=h1
   have h2:inB BS.length x=false:=by rw[←hin,h1];rfl
   have h3:l.all (inB BS.length)=false:=by
    cases hq:l.all (inB BS.length) with
    | false=>rfl
    | true=>exact absurd (List.all_eq_true.1 hq x hmem) (by rw[h2];simp)
   exact toEq (hT2 h3).symm
  ·have h1:(decide (x<0)||decide (x≥((BS.map rdT).length:Int)))=false:=h1
   have h2:inB BS.length x=true:=by rw[←hin,h1];rfl
   have h0:0≤x∧x.toNat<BS.length:=by
    unfold inB at h2
    simp at h2
    omega
   have hgb:(0:Int)≤x∧(BS.map rdT)[x.toNat]?=some (rdT BS[x.toNat]):=⟨h0.1,by rw[List.getElem?_map,List.getElem?_eq_getElem h0.2];rfl⟩
   have hbm:BS[x.toNat]∈BS:=List.getElem_mem h0.2
   have hbd:BS.getD x.toNat w0=BS[x.toNat]:=by simp[List.getD,List.getElem?_eq_getElem h0.2]
   have hR2:nmsOf BS (x::l.drop (i+1))=bNames (BS.getD x.toNat w0)++nmsOf BS (l.drop (i+1)):=rfl
   rw[hR2,hbd] at hR
   have hap:∀ a b:List ByteArray,addAll M (a++b)=addAll (addAll M a) b:=fun a b=>List.foldl_append ..
   rw[hap] at hR
   have hfc:=hB.fit _ hbm
   have hlc:=hB.lenc _ hbm
   have hoc:=hB.ok _ hbm
   have hok2:=addAll_ok (bNames BS[x.toNat]) M hnd hsub (fun s hs=>List.mem_flatMap.2 ⟨_,hbm,hs⟩)
   generalize BS[x.toNat]=q at hgb hbm hR hfc hlc hoc hok2
   have hqn:bNames q=((q.kids.take (q.kids.length-1)).drop 2).flatMap asgNames:=rfl
   have hqr:rdT q=tS (q.kids.getD 1 w0).text::encs ((q.kids.take (q.kids.length-1)).drop 2)::cellsX (q.kids.getD (q.kids.length-1) w0):=rfl
   rw[hqr] at hgb
   generalize (q.kids.take (q.kids.length-1)).drop 2=cm at hgb hfc hlc hoc hqn
   generalize bNames q=N at hR hok2 hqn
   have has:=asg_spec cm hlc hfc hoc M
   rw[←hqn] at has
   refine⟨_,hgb,?_⟩
   refine⟨asg_ent,.inr (.inr (.inl ⟨[21],_,_,_,has,rfl,rfl,⟨rfl,trivial⟩,fun r os' _ h=>?_,fun r os' _ h=>?_⟩))⟩
   ·have hos:=h.2
    subst hos
    exact⟨trivial,(i+1,addAll M N),Wk.sub ⟨slotI (wr1 hlt hl),rfl,rfl,rfl,rfl,trivial⟩ ⟨rfl,rfl,trivial⟩,⟨hlt,hR,by rw[htk,List.all_append,hall];simp[h2],hok2.1,hok2.2⟩,dec hlt⟩
   ·exact (pan_ne h.1).elim
 ·have hge:l.length≤i:=geOf h
  rw[List.drop_eq_nil_of_le hge] at hR
  rw[List.take_of_length_le hge] at hall
  have hR:addAll [] (nmsOf BS l)=M:=hR
  have hml:M.length≤1000000:=Nat.le_trans (List.Nodup.length_le_of_subset hnd hsub) hB.all
  have hT:=hT1 hall
  rw[hR] at hT
  have hsp:=sorted_spec M hml
  generalize sortS M=Z at hsp hT
  refine .inl ⟨sorted_ent,.inr (.inr (.inl ⟨[21],_,_,_,hsp,rfl,rfl,⟨rfl,trivial⟩,fun r os' _ h=>?_,fun r os' _ h=>?_⟩))⟩
  ·have hr:=h.1
   injection hr with hr
   exact toEq ((congrArg (fun z=>TV.tup [z,tI 0]) hr).trans hT.symm)
  ·exact (pan_ne h.1).elim
end
section
omit [Gm] in
theorem noHead {c:Fm} (h:c.kind=3→∀ g r,c.kids=g::r→g.kind≠1):hEq c sBlock=false:=by
 have h0:headOf c=⟨#[]⟩:=by
  unfold headOf kidsOf
  by_cases h3:c.kind=3
  ·rw[if_pos h3]
   cases hk:c.kids with
   | nil=>rfl
   | cons g r=>simp only[if_neg (h h3 g r hk)]
  ·rw[if_neg h3]
 unfold hEq
 rw[h0,ByteArray.toList_eq,ByteArray.toList_eq];decide
omit [Gm] in
theorem vars_noHead {c:Fm} (h:varsOK c=true):hEq c sBlock=false:=by
 refine noHead fun h3 g r hk=>?_
 unfold varsOK at h
 rw[hk] at h
 simp only[Bool.and_eq_true,List.all_cons] at h
 have h1:=h.2.1
 unfold varOK varK at h1
 simp only[Bool.and_eq_true] at h1
 have:=eq_of_beq h1.1.1
 omega
omit [Gm] in
theorem word_noHead {c:Fm} (h:c.kind=1):hEq c sBlock=false:=noHead fun h3=>by omega
omit [Gm] in
theorem blks_drop {f:Fm} (h:shapedB f=true):blksOf f.kids=blksOf (f.kids.drop 4):=by
 unfold shapedB at h
 simp only[Bool.and_eq_true] at h
 obtain⟨⟨⟨_,h2⟩,h3⟩,_⟩:=h
 have hp:=procOK_cls h3
 match hk:f.kids,hp with
 | a::b::c::d::r,⟨_,p1,p2,p3,_⟩ =>
 have ha:a.kind=1:=by
  unfold hEq headOf kidsOf at h2
  rw[if_pos (head_kids (s:=sProc) (by decide) h2).1,hk] at h2
  by_cases h1:a.kind=1
  ·exact h1
  ·simp only[if_neg h1] at h2
   rw[ByteArray.toList_eq,ByteArray.toList_eq] at h2
   exact absurd h2 (by decide)
 have hb:b.kind=1:=by
  have p1:isNm b=true:=p1
  unfold isNm at p1
  rw[Bool.and_eq_true] at p1
  exact eq_of_beq p1.1
 have e1:=word_noHead ha
 have e2:=word_noHead hb
 have e3:hEq c sBlock=false:=vars_noHead p2
 have e4:hEq d sBlock=false:=vars_noHead p3
 unfold blksOf
 show List.filter _ (a::b::c::d::r)=List.filter _ r
 simp only[List.filter_cons,e1,e2,e3,e4];rfl
omit [Gm] in
theorem cmds_all:∀ (l:List Fm) (fr:Bool),cmdsOK fr l=true→∀ c∈l,cmdOK c=true
 | c::l,fr,h,d,hd=>by
  unfold cmdsOK at h
  simp only[Bool.and_eq_true] at h
  rcases List.mem_cons.1 hd with e | hd
  ·subst e;exact h.1.2
  ·exact cmds_all l _ h.2 d hd
omit [Gm] in
theorem blk_long {b:Fm} (h:lenGe (restOf b) 2=true):3≤b.kids.length:=by
 have:=lenGe_le (n:=2) h
 unfold restOf at this
 rw[List.length_drop] at this;omega
omit [Gm] in
theorem cmds_eq {b:Fm}:cmdsOf b=(b.kids.take (b.kids.length-1)).drop 2:=by
 unfold cmdsOf restOf
 rw[List.length_drop,List.drop_take,List.drop_take,List.drop_drop]
 congr 1
def Few (f:Fm):Prop:=((blksOf f.kids).flatMap bNames).length≤1000000
omit [Gm] in
theorem bs_ok (f:Fm) (hf:Fit f) (hlow:Low f) (hfew:Few f) (h:shapedB f=true):BsOK (blksOf f.kids):=by
 have hpre:=shaped_pre f hf hlow h
 rw[←blks_drop h] at hpre
 have hd:=blks_drop h
 unfold shapedB at h
 simp only[Bool.and_eq_true] at h
 obtain⟨⟨⟨_,h2⟩,h3⟩,_⟩:=h
 have hcl:=clsOK_all _ _ (procOK_cls h3).2.2.2.2
 have hfb:∀ b∈blksOf f.kids,Fit b:=fun b hb=>by
  have:=(mem_blks hb).1
  cases hf with
  | mk _ _ _ hq=>exact hq b this
 have hcb:∀ b∈blksOf f.kids,lenGe (restOf b) 2=true∧isNm (r0 b)=true∧cmdsOK true (cmdsOf b)=true∧endOK (finOf b)=true:=fun b hb=>by
  rw[hd] at hb
  have hm:=mem_blks hb
  exact clause_blk (hcl b hm.1).2 hm.2
 refine⟨hpre.len,?_,?_,?_,hfew⟩
 ·intro b hb c hc
  have:=List.mem_of_mem_take (List.mem_of_mem_drop hc)
  have hq:=hfb b hb
  cases hq with
  | mk _ _ _ hq=>exact hq c this
 ·intro b hb
  have hq:=hfb b hb
  cases hq with
  | mk hl _ _ _=>rw[List.length_drop,List.length_take];simp only[Fm.kids] at *;omega
 ·intro b hb c hc
  rw[←cmds_eq] at hc
  exact cmds_all _ _ (hcb b hb).2.2.1 c hc
theorem uAsg_spec (L:LF) (f:Fm) (hf:Fit f) (hlow:Low f) (hfew:Few f) (l:List Int):PC Tryz.prog 8 [f.enc,.sl 1 (l.map fun n=>[tI n])] (uAsg f l):=by
 unfold uAsg
 by_cases hs:shapedB f=true
 ·have hsu:=suc_good L f hf hlow hs
  have hok:=bs_ok f hf hlow hfew hs
  have hs2:=hs
  unfold shapedB at hs2
  simp only[Bool.and_eq_true] at hs2
  have hk:=hlow (head_kids (s:=sProc) (by decide) hs2.1.1.2).1
  have hcl:=clsOK_all _ _ (procOK_cls hs2.1.2).2.2.2.2
  have h3:∀ c∈f.kids,hEq c sBlock=true→3≤c.kids.length:=fun c hc hb=>by
   have hm:c∈blksOf f.kids:=List.mem_filter.2 ⟨hc,hb⟩
   rw[blks_drop hs] at hm
   have hm:=mem_blks hm
   exact blk_long (clause_blk (hcl c hm.1).2 hm.2).1
  have hrd:PC Tryz.prog 20 [f.enc] (.agg [encs (othOf f.kids),.sl 6 ((blksOf f.kids).map rdT)]):=by
   cases hf with
   | @mk k n t ks _ _ _ hq=>exact uread_spec ks k n t hk.1 hq h3
  rw[if_pos hs]
  rw[f_enc] at hsu hrd ⊢
  exact uAsg_good _ rfl _ hok l _ _ hsu hrd
 ·rw[if_neg hs]
  have hlp:=suc_bad L f hf hlow hs
  rw[f_enc] at hlp ⊢
  exact uAsg_bad _ rfl _ hlp
end
end Go.Proofs.YtaenfjplagiioaaGreatDoor.L
end
