/- A part of the proof: PmY1 PmY2 PmY3. -/
import Derived.Test.YtihbimigddlbaaaGreatDoorUnE
import Derived.Test.YtihbimigddlbaaaGreatDoorUnF
noncomputable section
set_option linter.all false
namespace Go.Proofs.YtihbimigddlbaaaGreatDoor.L
open Go Go.RowKit Go.Proofs.YtihbimigddlbaaaGreatDoor.Pl
variable [Gm]
set_option maxRecDepth 10000
section
structure CL where
 l:List (List TV)
 a:List (List TV)
 e:List (List TV)
 m:List (List TV)
def clO (S:CL) (p0 p1 p2 p7:TV):List AO:=[.row 188 10 S.l,.row 24 4 S.a,.row 24 4 S.e,.row 9 1 S.m,.var [.t p0,.t p1,.t p2,.sl 996,.sl 997,.sl 998,.sl 999,.t p7]]
def CL.le (S S':CL):Prop:=S'.l.length≤S.l.length+1000000∧S'.a.length≤S.a.length+1000000∧S'.e.length≤S.e.length+1000000∧S'.m.length≤S.m.length+1000000
def CL.low (S:CL):Prop:=S.l.length≤10000000000∧S.a.length≤10000000000∧S.e.length≤10000000000∧S.m.length≤10000000000
def clR (p0 p1 p2 p7:TV) (b:Bool) (S':CL) (x:SE) (os':List AO):Prop:=x=.ret (tB b)∧os'=clO S' p0 p1 p2 p7
def lc3 (c:Fm):List TV:=tS (c.kids.getD 1 w0).text::(cellsX (c.kids.getD 2 w0)++[tI 0,tI 0,tS ⟨#[]⟩,nilT,tB false])
def lc4 (c:Fm):List TV:=tS (c.kids.getD 1 w0).text::(cellsX (c.kids.getD 2 w0)++(cellsX (c.kids.getD 3 w0)++[tB true]))
def clS (S:CL) (c:Fm):CL :=
 if hEq c sRequires=true then ⟨S.l,S.a++rows (c.kids.drop 1),S.e,S.m⟩
 else if hEq c sEnsures=true then ⟨S.l,S.a,S.e++rows (c.kids.drop 1),S.m⟩
 else if hEq c sModifies=true then ⟨S.l,S.a,S.e,S.m++(c.kids.drop 1).map txt⟩
 else if hEq c sLocal=true then (if (decide (((rows c.kids).length:Int)<3)||decide (((rows c.kids).length:Int)>4)||!isNm (c.kids.getD 1 w0))=true then S
  else if c.kids.length=4 then ⟨S.l++[lc4 c],S.a,S.e,S.m⟩ else ⟨S.l++[lc3 c],S.a,S.e,S.m⟩)
 else S
def rclB (c:Fm):Bool :=
 if hEq c sRequires=true then lenIs c.kids 2
 else if hEq c sEnsures=true then lenIs c.kids 2
 else if hEq c sModifies=true then (c.kids.drop 1).all isNm
 else if hEq c sLocal=true then !(decide (((rows c.kids).length:Int)<3)||decide (((rows c.kids).length:Int)>4)||!isNm (c.kids.getD 1 w0))
 else false
theorem rcl_ent:Ent Tryz.prog 80:=fun a w=>Tryz.call80 a w
theorem rcl_req (c:Fm) (hf:Fit c) (hk:c.kids.length≤1000000) (S:CL) (hS:S.low) (p0 p1 p2 p7:TV)  (hh:hEq c sRequires=true) :
  SCR Tryz.prog 80 996 (clO S p0 p1 p2 p7) [.ptr 1000 0,.t c.enc] (clR p0 p1 p2 p7 (lenIs c.kids 2) ⟨S.l,S.a++rows (c.kids.drop 1),S.e,S.m⟩):=by
 have hhd:=rhead_spec c
 have h:((headOf c).toList==sRequires.toList)=true:=hh
 have hk1:1≤c.kids.length:=by
  obtain⟨a,r,e⟩:=(head_kids (by decide:0<sRequires.size) hh).2
  rw[e];simp
 clear hh
 generalize headOf c=hd at hhd h
 cases hf with
 | @mk k n t ks hl hb ht hks =>
 have hk:ks.length≤1000000:=hk
 have hk1:1≤ks.length:=hk1
 obtain⟨l,a,e,m⟩:=S
 obtain⟨b1,b2,b3,b4⟩:=hS
 have b1:l.length≤10000000000:=b1
 have b2:a.length≤10000000000:=b2
 have b3:e.length≤10000000000:=b3
 have b4:m.length≤10000000000:=b4
 have hrd:((rows ks).take ((rows ks).length:Int).toNat).drop (Int.toNat 1)=rows (ks.drop 1):=by
  rw[Int.toNat_natCast,List.take_length];exact rows_drop 1 ks
 have hrl:(rows (ks.drop 1)).length≤1000000:=by rw[rows_len,List.length_drop];omega
 have hB1:(a.length+(((rows ks).take ((rows ks).length:Int).toNat).drop (Int.toNat 1)).length)*56≤140737488355328:=by rw[hrd];omega
 have hB2:a.length+(((rows ks).take ((rows ks).length:Int).toNat).drop (Int.toNat 1)).length≤maxLen:=by rw[hrd];simp only[maxLen];omega
 have hB3:(a++rows (ks.drop 1)).length≤a.length+1000000:=by rw[List.length_append];omega
 refine SCR.of_ok tok Tryz.func80 rfl (Nat.le_of_ble_eq_true rfl) (Nat.le_of_ble_eq_true rfl) (ev_sound ctx (own:=[]) _ _ _ ?_)
 refine⟨rhead_ent,.inl ⟨_,hhd,?_⟩⟩
 refine⟨fun _=>?_,fun h'=>Bool.noConfusion (h.symm.trans h')⟩
 refine⟨by kernel_rfl,?_⟩
 refine⟨fun _=>⟨by decide,by rw[rows_len];omega,by rw[rows_len];omega⟩,?_⟩
 refine⟨hB1,hB2,?_⟩
 exact⟨clO ⟨l,a++rows (ks.drop 1),e,m⟩ p0 p1 p2 p7,⟨rfl,rfl⟩,rfl,rfl,⟨rfl,by rw[hrd];rfl,rfl,rfl,rfl,trivial⟩⟩
theorem rcl_ens (c:Fm) (hf:Fit c) (hk:c.kids.length≤1000000) (S:CL) (hS:S.low) (p0 p1 p2 p7:TV) (g0:hEq c sRequires=false) (hh:hEq c sEnsures=true) :
  SCR Tryz.prog 80 996 (clO S p0 p1 p2 p7) [.ptr 1000 0,.t c.enc] (clR p0 p1 p2 p7 (lenIs c.kids 2) ⟨S.l,S.a,S.e++rows (c.kids.drop 1),S.m⟩):=by
 have hhd:=rhead_spec c
 have h0:((headOf c).toList==sRequires.toList)=false:=g0
 have h:((headOf c).toList==sEnsures.toList)=true:=hh
 have hk1:1≤c.kids.length:=by
  obtain⟨a,r,e⟩:=(head_kids (by decide:0<sEnsures.size) hh).2
  rw[e];simp
 clear g0 hh
 generalize headOf c=hd at hhd h0 h
 cases hf with
 | @mk k n t ks hl hb ht hks =>
 have hk:ks.length≤1000000:=hk
 have hk1:1≤ks.length:=hk1
 obtain⟨l,a,e,m⟩:=S
 obtain⟨b1,b2,b3,b4⟩:=hS
 have b1:l.length≤10000000000:=b1
 have b2:a.length≤10000000000:=b2
 have b3:e.length≤10000000000:=b3
 have b4:m.length≤10000000000:=b4
 have hrd:((rows ks).take ((rows ks).length:Int).toNat).drop (Int.toNat 1)=rows (ks.drop 1):=by
  rw[Int.toNat_natCast,List.take_length];exact rows_drop 1 ks
 have hrl:(rows (ks.drop 1)).length≤1000000:=by rw[rows_len,List.length_drop];omega
 have hB1:(e.length+(((rows ks).take ((rows ks).length:Int).toNat).drop (Int.toNat 1)).length)*56≤140737488355328:=by rw[hrd];omega
 have hB2:e.length+(((rows ks).take ((rows ks).length:Int).toNat).drop (Int.toNat 1)).length≤maxLen:=by rw[hrd];simp only[maxLen];omega
 have hB3:(e++rows (ks.drop 1)).length≤e.length+1000000:=by rw[List.length_append];omega
 refine SCR.of_ok tok Tryz.func80 rfl (Nat.le_of_ble_eq_true rfl) (Nat.le_of_ble_eq_true rfl) (ev_sound ctx (own:=[]) _ _ _ ?_)
 refine⟨rhead_ent,.inl ⟨_,hhd,?_⟩⟩
 refine⟨fun h'=>Bool.noConfusion (h0.symm.trans h'),fun _=>?_⟩
 refine⟨fun _=>?_,fun h'=>Bool.noConfusion (h.symm.trans h')⟩
 refine⟨by kernel_rfl,?_⟩
 refine⟨fun _=>⟨by decide,by rw[rows_len];omega,by rw[rows_len];omega⟩,?_⟩
 refine⟨hB1,hB2,?_⟩
 exact⟨clO ⟨l,a,e++rows (ks.drop 1),m⟩ p0 p1 p2 p7,⟨rfl,rfl⟩,rfl,rfl,⟨rfl,rfl,by rw[hrd];rfl,rfl,rfl,trivial⟩⟩
theorem rcl_mod (c:Fm) (hf:Fit c) (hk:c.kids.length≤1000000) (S:CL) (hS:S.low) (p0 p1 p2 p7:TV) (g0:hEq c sRequires=false) (g1:hEq c sEnsures=false) (hh:hEq c sModifies=true) :
  SCR Tryz.prog 80 996 (clO S p0 p1 p2 p7) [.ptr 1000 0,.t c.enc] (clR p0 p1 p2 p7 ((c.kids.drop 1).all isNm) ⟨S.l,S.a,S.e,S.m++(c.kids.drop 1).map txt⟩):=by
 have hhd:=rhead_spec c
 have h0:((headOf c).toList==sRequires.toList)=false:=g0
 have h1:((headOf c).toList==sEnsures.toList)=false:=g1
 have h:((headOf c).toList==sModifies.toList)=true:=hh
 have hk1:1≤c.kids.length:=by
  obtain⟨a,r,e⟩:=(head_kids (by decide:0<sModifies.size) hh).2
  rw[e];simp
 clear g0 g1 hh
 generalize headOf c=hd at hhd h0 h1 h
 cases hf with
 | @mk k n t ks hl hb ht hks =>
 have hk:ks.length≤1000000:=hk
 have hk1:1≤ks.length:=hk1
 obtain⟨l,a,e,m⟩:=S
 obtain⟨b1,b2,b3,b4⟩:=hS
 have b1:l.length≤10000000000:=b1
 have b2:a.length≤10000000000:=b2
 have b3:e.length≤10000000000:=b3
 have b4:m.length≤10000000000:=b4
 have hrd:((rows ks).take ((rows ks).length:Int).toNat).drop (Int.toNat 1)=rows (ks.drop 1):=by
  rw[Int.toNat_natCast,List.take_length];exact rows_drop 1 ks
 have hrl:(rows (ks.drop 1)).length≤1000000:=by rw[rows_len,List.length_drop];omega
 have hnd:=rnames_drop ks hl hks hk1
 refine SCR.of_ok tok Tryz.func80 rfl (Nat.le_of_ble_eq_true rfl) (Nat.le_of_ble_eq_true rfl) (ev_sound ctx (own:=[]) _ _ _ ?_)
 refine⟨rhead_ent,.inl ⟨_,hhd,?_⟩⟩
 refine⟨fun h'=>Bool.noConfusion (h0.symm.trans h'),fun _=>?_⟩
 refine⟨fun h'=>Bool.noConfusion (h1.symm.trans h'),fun _=>?_⟩
 refine⟨fun _=>?_,fun h'=>Bool.noConfusion (h.symm.trans h')⟩
 refine Ok.loop (st:=fun i:Nat=>⟨[(6,vi ((i+1:Nat):Int)),(5,.t (encs ks)),(0,.ptr 1000 0)],[(996,.row 188 10 l),(997,.row 24 4 a),(998,.row 24 4 e),(999,.row 9 1 (m++((ks.drop 1).take i).map txt)),(1000,.var [.t p0,.t p1,.t p2,.sl 996,.sl 997,.sl 998,.sl 999,.t p7])]⟩)
  (R:=fun i=>i+1≤ks.length) (μ:=fun i=>ks.length-i) 0 (Wk.sub ⟨rfl,rfl,rfl,trivial⟩ ⟨rfl,rfl,rfl,by show some (AO.row 9 1 m)=some (AO.row 9 1 (m++[]));rw[List.append_nil],rfl,trivial⟩) hk1 ?_
 rintro i hi
 have hi:i+1≤ks.length:=hi
 by_cases hlt:i+1<ks.length
 ·have hd:decide (((i+1:Nat):Int)<((rows ks).length:Int))=true:=by rw[rows_len];exact decide_eq_true (by omega)
  have hget:=rows_get hlt
  have hm1:m++((ks.drop 1).take (i+1)).map txt=(m++((ks.drop 1).take i).map txt)++[txt ks[i+1]]:=by
   rw[List.take_add_one,List.getElem?_drop,show 1+i=i+1 by omega,List.getElem?_eq_getElem hlt,List.map_append,List.append_assoc];rfl
  have hml:(m++((ks.drop 1).take i).map txt).length≤m.length+i:=by rw[List.length_append,List.length_map,List.length_take];omega
  generalize m++((ks.drop 1).take i).map txt=m' at hm1 hml
  generalize ks[i+1]=g at hget hm1
  have hB1:(m'.length+1)*16≤140737488355328:=by omega
  have hB2:m'.length+1≤maxLen:=by simp only[maxLen];omega
  refine ev_sound ctx (own:=[]) _ _ _ ?_
  refine⟨fun _=>?_,fun h'=>Bool.noConfusion (hd.symm.trans h')⟩
  refine⟨by kernel_rfl,?_⟩
  refine⟨g.cells,fun _=>hget,?_⟩
  obtain⟨k',n',t',ks'⟩:=g
  have hm1:some (AO.row 9 1 (m'++[[tS t']]))=some (AO.row 9 1 (m++((ks.drop 1).take (i+1)).map txt)):=by rw[hm1];rfl
  refine⟨hB1,hB2,?_⟩
  exact⟨trivial,i+1,Wk.sub ⟨slotI (wr1 hlt hl),rfl,rfl,trivial⟩ ⟨rfl,rfl,rfl,hm1,rfl,trivial⟩,hlt,by show ks.length-(i+1)<ks.length-i;omega⟩
 ·have hd:decide (((i+1:Nat):Int)<((rows ks).length:Int))=false:=by rw[rows_len];exact decide_eq_false (by omega)
  have htk:(ks.drop 1).take i=ks.drop 1:=List.take_of_length_le (by rw[List.length_drop];omega)
  rw[htk]
  refine ev_sound ctx (own:=[]) _ _ _ ?_
  refine⟨fun h'=>Bool.noConfusion (hd.symm.trans h'),fun _=>?_⟩
  refine⟨⟨by decide,by rw[rows_len];omega,by rw[rows_len];omega⟩,?_⟩
  refine⟨rnames_ent,.inl ⟨_,hnd,?_⟩⟩
  exact⟨clO ⟨l,a,e,m++(ks.drop 1).map txt⟩ p0 p1 p2 p7,⟨rfl,rfl⟩,rfl,rfl,⟨rfl,rfl,rfl,rfl,rfl,trivial⟩⟩
theorem rcl_none (c:Fm) (hf:Fit c) (hk:c.kids.length≤1000000) (S:CL) (hS:S.low) (p0 p1 p2 p7:TV) (g0:hEq c sRequires=false) (g1:hEq c sEnsures=false) (g2:hEq c sModifies=false) (g3:hEq c sLocal=false)  :
  SCR Tryz.prog 80 996 (clO S p0 p1 p2 p7) [.ptr 1000 0,.t c.enc] (clR p0 p1 p2 p7 false S):=by
 have hhd:=rhead_spec c
 have h0:((headOf c).toList==sRequires.toList)=false:=g0
 have h1:((headOf c).toList==sEnsures.toList)=false:=g1
 have h2:((headOf c).toList==sModifies.toList)=false:=g2
 have h3:((headOf c).toList==sLocal.toList)=false:=g3
 clear g0 g1 g2 g3
 generalize headOf c=hd at hhd h0 h1 h2 h3
 cases hf with
 | @mk k n t ks hl hb ht hks =>
 have hk:ks.length≤1000000:=hk
 obtain⟨l,a,e,m⟩:=S
 obtain⟨b1,b2,b3,b4⟩:=hS
 have b1:l.length≤10000000000:=b1
 have b2:a.length≤10000000000:=b2
 have b3:e.length≤10000000000:=b3
 have b4:m.length≤10000000000:=b4
 have hrd:((rows ks).take ((rows ks).length:Int).toNat).drop (Int.toNat 1)=rows (ks.drop 1):=by
  rw[Int.toNat_natCast,List.take_length];exact rows_drop 1 ks
 have hrl:(rows (ks.drop 1)).length≤1000000:=by rw[rows_len,List.length_drop];omega
 refine SCR.of_ok tok Tryz.func80 rfl (Nat.le_of_ble_eq_true rfl) (Nat.le_of_ble_eq_true rfl) (ev_sound ctx (own:=[]) _ _ _ ?_)
 refine⟨rhead_ent,.inl ⟨_,hhd,?_⟩⟩
 refine⟨fun h'=>Bool.noConfusion (h0.symm.trans h'),fun _=>?_⟩
 refine⟨fun h'=>Bool.noConfusion (h1.symm.trans h'),fun _=>?_⟩
 refine⟨fun h'=>Bool.noConfusion (h2.symm.trans h'),fun _=>?_⟩
 refine⟨fun h'=>Bool.noConfusion (h3.symm.trans h'),fun _=>?_⟩
 exact⟨clO ⟨l,a,e,m⟩ p0 p1 p2 p7,⟨rfl,rfl⟩,rfl,rfl,⟨rfl,rfl,rfl,rfl,rfl,trivial⟩⟩
theorem rcl_locB (c:Fm) (hf:Fit c) (hk:c.kids.length≤1000000) (S:CL) (hS:S.low) (p0 p1 p2 p7:TV) (g0:hEq c sRequires=false) (g1:hEq c sEnsures=false) (g2:hEq c sModifies=false) (hh:hEq c sLocal=true) (hb0:(decide (((rows c.kids).length:Int)<3)||decide (((rows c.kids).length:Int)>4)||!isNm (c.kids.getD 1 w0))=true):
  SCR Tryz.prog 80 996 (clO S p0 p1 p2 p7) [.ptr 1000 0,.t c.enc] (clR p0 p1 p2 p7 false S):=by
 have hhd:=rhead_spec c
 have h0:((headOf c).toList==sRequires.toList)=false:=g0
 have h1:((headOf c).toList==sEnsures.toList)=false:=g1
 have h2:((headOf c).toList==sModifies.toList)=false:=g2
 have h:((headOf c).toList==sLocal.toList)=true:=hh
 have hk1:1≤c.kids.length:=by
  obtain⟨a,r,e⟩:=(head_kids (by decide:0<sLocal.size) hh).2
  rw[e];simp
 clear g0 g1 g2 hh
 generalize headOf c=hd at hhd h0 h1 h2 h
 cases hf with
 | @mk k n t ks hl hb ht hks =>
 have hk:ks.length≤1000000:=hk
 have hk1:1≤ks.length:=hk1
 obtain⟨l,a,e,m⟩:=S
 obtain⟨b1,b2,b3,b4⟩:=hS
 have b1:l.length≤10000000000:=b1
 have b2:a.length≤10000000000:=b2
 have b3:e.length≤10000000000:=b3
 have b4:m.length≤10000000000:=b4
 have hrd:((rows ks).take ((rows ks).length:Int).toNat).drop (Int.toNat 1)=rows (ks.drop 1):=by
  rw[Int.toNat_natCast,List.take_length];exact rows_drop 1 ks
 have hrl:(rows (ks.drop 1)).length≤1000000:=by rw[rows_len,List.length_drop];omega
 have hat:∀ n,n<ks.length→(0:Int)≤(n:Int)∧(rows ks)[((n:Nat):Int).toNat]?=some (cellsX (ks.getD n w0)):=fun n h=>rows_atX h
 have hln:((rows ks).length:Int)=(ks.length:Int):=by rw[rows_len]
 have hnm:=risName_specX (ks.getD 1 w0) (fit_getD hks 1)
 have hb0:((decide (((rows ks).length:Int)<3)||decide (((rows ks).length:Int)>4))||!isNm (ks.getD 1 w0))=true:=hb0
 refine SCR.of_ok tok Tryz.func80 rfl (Nat.le_of_ble_eq_true rfl) (Nat.le_of_ble_eq_true rfl) (ev_sound ctx (own:=[]) _ _ _ ?_)
 refine⟨rhead_ent,.inl ⟨_,hhd,?_⟩⟩
 refine⟨fun h'=>Bool.noConfusion (h0.symm.trans h'),fun _=>?_⟩
 refine⟨fun h'=>Bool.noConfusion (h1.symm.trans h'),fun _=>?_⟩
 refine⟨fun h'=>Bool.noConfusion (h2.symm.trans h'),fun _=>?_⟩
 refine⟨fun _=>?_,fun h'=>Bool.noConfusion (h.symm.trans h')⟩
 refine⟨_,fun hG=>hat 1 (by
  have hG:(decide (((rows ks).length:Int)<3)||decide (((rows ks).length:Int)>4))=false:=hG
  rw[Bool.or_eq_false_iff] at hG
  have:=of_decide_eq_false hG.1;omega),?_⟩
 refine⟨risName_ent,_,fun _=>hnm,?_⟩
 refine⟨fun _=>?_,fun h'=>Bool.noConfusion (hb0.symm.trans h')⟩
 exact⟨clO ⟨l,a,e,m⟩ p0 p1 p2 p7,⟨rfl,rfl⟩,rfl,rfl,⟨rfl,rfl,rfl,rfl,rfl,trivial⟩⟩
theorem rcl_loc3 (c:Fm) (hf:Fit c) (hk:c.kids.length≤1000000) (S:CL) (hS:S.low) (p0 p1 p2 p7:TV) (g0:hEq c sRequires=false) (g1:hEq c sEnsures=false) (g2:hEq c sModifies=false) (hh:hEq c sLocal=true) (hn:c.kids.length=3) (hi:isNm (c.kids.getD 1 w0)=true):
  SCR Tryz.prog 80 996 (clO S p0 p1 p2 p7) [.ptr 1000 0,.t c.enc] (clR p0 p1 p2 p7 true ⟨S.l++[lc3 c],S.a,S.e,S.m⟩):=by
 have hhd:=rhead_spec c
 have h0:((headOf c).toList==sRequires.toList)=false:=g0
 have h1:((headOf c).toList==sEnsures.toList)=false:=g1
 have h2:((headOf c).toList==sModifies.toList)=false:=g2
 have h:((headOf c).toList==sLocal.toList)=true:=hh
 have hk1:1≤c.kids.length:=by
  obtain⟨a,r,e⟩:=(head_kids (by decide:0<sLocal.size) hh).2
  rw[e];simp
 clear g0 g1 g2 hh
 generalize headOf c=hd at hhd h0 h1 h2 h
 cases hf with
 | @mk k n t ks hl hb ht hks =>
 have hk:ks.length≤1000000:=hk
 have hk1:1≤ks.length:=hk1
 obtain⟨l,a,e,m⟩:=S
 obtain⟨b1,b2,b3,b4⟩:=hS
 have b1:l.length≤10000000000:=b1
 have b2:a.length≤10000000000:=b2
 have b3:e.length≤10000000000:=b3
 have b4:m.length≤10000000000:=b4
 have hrd:((rows ks).take ((rows ks).length:Int).toNat).drop (Int.toNat 1)=rows (ks.drop 1):=by
  rw[Int.toNat_natCast,List.take_length];exact rows_drop 1 ks
 have hrl:(rows (ks.drop 1)).length≤1000000:=by rw[rows_len,List.length_drop];omega
 have hat:∀ n,n<ks.length→(0:Int)≤(n:Int)∧(rows ks)[((n:Nat):Int).toNat]?=some (cellsX (ks.getD n w0)):=fun n h=>rows_atX h
 have hln:((rows ks).length:Int)=(ks.length:Int):=by rw[rows_len]
 have hnm:=risName_specX (ks.getD 1 w0) (fit_getD hks 1)
 have hn:ks.length=3:=hn
 have hi:isNm (ks.getD 1 w0)=true:=hi
 have hb0:((decide (((rows ks).length:Int)<3)||decide (((rows ks).length:Int)>4))||!isNm (ks.getD 1 w0))=false:=by rw[hln,hn,hi];rfl
 have hB1:(l.length+1)*136≤140737488355328:=by omega
 have hB2:l.length+1≤maxLen:=by simp only[maxLen];omega
 have h4:(((rows ks).length:Int)==4)=false:=by rw[hln,hn];rfl
 have hl1:∀ x,(l++[x]).length≤l.length+1000000:=fun x=>by rw[List.length_append];show l.length+1≤_;omega
 refine SCR.of_ok tok Tryz.func80 rfl (Nat.le_of_ble_eq_true rfl) (Nat.le_of_ble_eq_true rfl) (ev_sound ctx (own:=[]) _ _ _ ?_)
 refine⟨rhead_ent,.inl ⟨_,hhd,?_⟩⟩
 refine⟨fun h'=>Bool.noConfusion (h0.symm.trans h'),fun _=>?_⟩
 refine⟨fun h'=>Bool.noConfusion (h1.symm.trans h'),fun _=>?_⟩
 refine⟨fun h'=>Bool.noConfusion (h2.symm.trans h'),fun _=>?_⟩
 refine⟨fun _=>?_,fun h'=>Bool.noConfusion (h.symm.trans h')⟩
 refine⟨_,fun hG=>hat 1 (by omega),?_⟩
 refine⟨risName_ent,_,fun _=>hnm,?_⟩
 refine⟨fun h'=>Bool.noConfusion (hb0.symm.trans h'),fun _=>?_⟩
 refine⟨_,fun _=>hat 1 (by omega),?_⟩
 refine⟨_,fun _=>hat 2 (by omega),?_⟩
 refine⟨fun h'=>Bool.noConfusion (h4.symm.trans h'),fun _=>?_⟩
 refine⟨by kernel_rfl,?_⟩
 refine⟨hB1,hB2,?_⟩
 exact⟨clO ⟨l++[lc3 (.mk k n t ks)],a,e,m⟩ p0 p1 p2 p7,⟨rfl,rfl⟩,rfl,rfl,⟨rfl,rfl,rfl,rfl,rfl,trivial⟩⟩
theorem rcl_loc4 (c:Fm) (hf:Fit c) (hk:c.kids.length≤1000000) (S:CL) (hS:S.low) (p0 p1 p2 p7:TV) (g0:hEq c sRequires=false) (g1:hEq c sEnsures=false) (g2:hEq c sModifies=false) (hh:hEq c sLocal=true) (hn:c.kids.length=4) (hi:isNm (c.kids.getD 1 w0)=true):
  SCR Tryz.prog 80 996 (clO S p0 p1 p2 p7) [.ptr 1000 0,.t c.enc] (clR p0 p1 p2 p7 true ⟨S.l++[lc4 c],S.a,S.e,S.m⟩):=by
 have hhd:=rhead_spec c
 have h0:((headOf c).toList==sRequires.toList)=false:=g0
 have h1:((headOf c).toList==sEnsures.toList)=false:=g1
 have h2:((headOf c).toList==sModifies.toList)=false:=g2
 have h:((headOf c).toList==sLocal.toList)=true:=hh
 have hk1:1≤c.kids.length:=by
  obtain⟨a,r,e⟩:=(head_kids (by decide:0<sLocal.size) hh).2
  rw[e];simp
 clear g0 g1 g2 hh
 generalize headOf c=hd at hhd h0 h1 h2 h
 cases hf with
 | @mk k n t ks hl hb ht hks =>
 have hk:ks.length≤1000000:=hk
 have hk1:1≤ks.length:=hk1
 obtain⟨l,a,e,m⟩:=S
 obtain⟨b1,b2,b3,b4⟩:=hS
 have b1:l.length≤10000000000:=b1
 have b2:a.length≤10000000000:=b2
 have b3:e.length≤10000000000:=b3
 have b4:m.length≤10000000000:=b4
 have hrd:((rows ks).take ((rows ks).length:Int).toNat).drop (Int.toNat 1)=rows (ks.drop 1):=by
  rw[Int.toNat_natCast,List.take_length];exact rows_drop 1 ks
 have hrl:(rows (ks.drop 1)).length≤1000000:=by rw[rows_len,List.length_drop];omega
 have hat:∀ n,n<ks.length→(0:Int)≤(n:Int)∧(rows ks)[((n:Nat):Int).toNat]?=some (cellsX (ks.getD n w0)):=fun n h=>rows_atX h
 have hln:((rows ks).length:Int)=(ks.length:Int):=by rw[rows_len]
 have hnm:=risName_specX (ks.getD 1 w0) (fit_getD hks 1)
 have hn:ks.length=4:=hn
 have hi:isNm (ks.getD 1 w0)=true:=hi
 have hb0:((decide (((rows ks).length:Int)<3)||decide (((rows ks).length:Int)>4))||!isNm (ks.getD 1 w0))=false:=by rw[hln,hn,hi];rfl
 have hB1:(l.length+1)*136≤140737488355328:=by omega
 have hB2:l.length+1≤maxLen:=by simp only[maxLen];omega
 have h4:(((rows ks).length:Int)==4)=true:=by rw[hln,hn];rfl
 have hl1:∀ x,(l++[x]).length≤l.length+1000000:=fun x=>by rw[List.length_append];show l.length+1≤_;omega
 refine SCR.of_ok tok Tryz.func80 rfl (Nat.le_of_ble_eq_true rfl) (Nat.le_of_ble_eq_true rfl) (ev_sound ctx (own:=[]) _ _ _ ?_)
 refine⟨rhead_ent,.inl ⟨_,hhd,?_⟩⟩
 refine⟨fun h'=>Bool.noConfusion (h0.symm.trans h'),fun _=>?_⟩
 refine⟨fun h'=>Bool.noConfusion (h1.symm.trans h'),fun _=>?_⟩
 refine⟨fun h'=>Bool.noConfusion (h2.symm.trans h'),fun _=>?_⟩
 refine⟨fun _=>?_,fun h'=>Bool.noConfusion (h.symm.trans h')⟩
 refine⟨_,fun hG=>hat 1 (by omega),?_⟩
 refine⟨risName_ent,_,fun _=>hnm,?_⟩
 refine⟨fun h'=>Bool.noConfusion (hb0.symm.trans h'),fun _=>?_⟩
 refine⟨_,fun _=>hat 1 (by omega),?_⟩
 refine⟨_,fun _=>hat 2 (by omega),?_⟩
 refine⟨fun _=>?_,fun h'=>Bool.noConfusion (h4.symm.trans h')⟩
 refine⟨_,hat 3 (by omega),?_⟩
 refine⟨by kernel_rfl,?_⟩
 refine⟨hB1,hB2,?_⟩
 exact⟨clO ⟨l++[lc4 (.mk k n t ks)],a,e,m⟩ p0 p1 p2 p7,⟨rfl,rfl⟩,rfl,rfl,⟨rfl,rfl,rfl,rfl,rfl,trivial⟩⟩
theorem rcl_spec (c:Fm) (hf:Fit c) (hk:c.kids.length≤1000000) (S:CL) (hS:S.low) (p0 p1 p2 p7:TV) :
  SCR Tryz.prog 80 996 (clO S p0 p1 p2 p7) [.ptr 1000 0,.t c.enc] (clR p0 p1 p2 p7 (rclB c) (clS S c)):=by
 unfold rclB clS
 cases h0:hEq c sRequires with
 | true=>simp only[if_true];exact rcl_req c hf hk S hS p0 p1 p2 p7 h0
 | false =>
 simp only[Bool.false_eq_true,if_false]
 cases h1:hEq c sEnsures with
 | true=>simp only[if_true];exact rcl_ens c hf hk S hS p0 p1 p2 p7 h0 h1
 | false =>
 simp only[Bool.false_eq_true,if_false]
 cases h2:hEq c sModifies with
 | true=>simp only[if_true];exact rcl_mod c hf hk S hS p0 p1 p2 p7 h0 h1 h2
 | false =>
 simp only[Bool.false_eq_true,if_false]
 cases h3:hEq c sLocal with
 | false=>simp only[Bool.false_eq_true,if_false];exact rcl_none c hf hk S hS p0 p1 p2 p7 h0 h1 h2 h3
 | true =>
 simp only[if_true]
 cases hb:(decide (((rows c.kids).length:Int)<3)||decide (((rows c.kids).length:Int)>4)||!isNm (c.kids.getD 1 w0)) with
 | true=>rw[if_pos rfl];exact rcl_locB c hf hk S hS p0 p1 p2 p7 h0 h1 h2 h3 hb
 | false =>
  rw[if_neg (by simp)]
  simp only[Bool.or_eq_false_iff,Bool.not_eq_false',decide_eq_false_iff_not,rows_len] at hb
  have hc:c.kids.length=3∨c.kids.length=4:=by omega
  rcases hc with hc | hc
  ·rw[if_neg (by omega)];exact rcl_loc3 c hf hk S hS p0 p1 p2 p7 h0 h1 h2 h3 hc hb.2
  ·rw[if_pos hc];exact rcl_loc4 c hf hk S hS p0 p1 p2 p7 h0 h1 h2 h3 hc hb.2
theorem clS_le (S:CL) (c:Fm) (hk:c.kids.length≤1000000):S.le (clS S c):=by
 have hr:∀ x:List (List TV),(x++rows (c.kids.drop 1)).length≤x.length+1000000:=fun x=>by rw[List.length_append,rows_len,List.length_drop];omega
 have hm:∀ x:List (List TV),(x++(c.kids.drop 1).map txt).length≤x.length+1000000:=fun x=>by rw[List.length_append,List.length_map,List.length_drop];omega
 have hl:∀ (x:List (List TV)) y,(x++[y]).length≤x.length+1000000:=fun x y=>by rw[List.length_append];show x.length+1≤_;omega
 have h0:∀ x:List (List TV),x.length≤x.length+1000000:=fun x=>Nat.le_add_right _ _
 unfold clS
 (repeat' split) <;> refine⟨?_,?_,?_,?_⟩ <;> first | exact h0 _ | exact hr _ | exact hm _ | exact hl _ _
end
section
def nb (c:Fm):Bool:=!hEq c sBlock
def rblkB (c:Fm):Bool:=preB c&&(cmdsOK true (rcm c)&&endOK (rfin c))
def rd0 (f:Fm):Bool:=!(((!validB f||!hEq f sProc)||decide (((rows f.kids).length:Int)<4))||!isNm (f.kids.getD 1 w0))
def rdV (f:Fm):Bool:=varsOK (f.kids.getD 2 w0)&&varsOK (f.kids.getD 3 w0)
def rd1 (cls:List Fm):Bool:=(cls.takeWhile nb).all rclB&&(cls.dropWhile nb).all rblkB
def rdB (f:Fm):Bool:=rd0 f&&(rdV f&&rd1 (f.kids.drop 4))
def S00:CL:=⟨[],[],[],[]⟩
def rdS (cls:List Fm):CL:=(cls.takeWhile nb).foldl clS S00
def rdC (f:Fm):List TV:=[tS (f.kids.getD 1 w0).text,.sl 10 ((f.kids.getD 2 w0).kids.map rvT),.sl 10 ((f.kids.getD 3 w0).kids.map rvT),.sl 10 (rdS (f.kids.drop 4)).l,.sl 4 (rdS (f.kids.drop 4)).a,.sl 4 (rdS (f.kids.drop 4)).e,.sl 1 (rdS (f.kids.drop 4)).m]
def rdBs (f:Fm):List Fm:=(f.kids.drop 4).dropWhile nb
def rbadT:TV:=.tup [.agg zero8,tB false]
omit [Gm] in
theorem rblock_good {c:Fm} (h:rblkB c=true):rblock c=.tup [.agg (rdT c),tB true]:=by
 unfold rblkB at h
 simp only[Bool.and_eq_true] at h
 obtain⟨h1,h2,h3⟩:=h
 unfold rblock rendT
 rw[if_pos h1,if_pos h2]
 unfold endOK at h3
 cases hg:hEq (rfin c) sGoto with
 | true=>rw[hg] at h3;simp only[if_true] at h3 ⊢;rw[h3]
 | false =>
  rw[hg] at h3
  cases hr:hEq (rfin c) sReturn with
  | true=>rw[hr] at h3;simp only[if_true,Bool.false_eq_true,if_false] at h3 ⊢;rw[h3]
  | false=>rw[hr] at h3;simp at h3
omit [Gm] in
theorem rblock_bad {c:Fm} (h:rblkB c=false):∃ y1 y2 y3 y4 y5 y6,rblock c=.tup [.agg [y1,y2,y3,y4,y5,y6],tB false]:=by
 have hz:∃ y1 y2 y3 y4 y5 y6,TV.tup [zBlk,tB false]=.tup [.agg [y1,y2,y3,y4,y5,y6],tB false]:=⟨_,_,_,_,_,_,rfl⟩
 have hy:∃ y1 y2 y3 y4 y5 y6,TV.tup [.agg (rdT c),tB false]=.tup [.agg [y1,y2,y3,y4,y5,y6],tB false]:=⟨_,_,_,_,_,_,rfl⟩
 unfold rblkB at h
 unfold rblock rendT
 cases h1:preB c with
 | false=>rw[if_neg (by simp)];exact hz
 | true =>
 rw[if_pos rfl]
 cases h2:cmdsOK true (rcm c) with
 | false=>rw[if_neg (by simp)];exact hz
 | true =>
 rw[if_pos rfl]
 rw[h1,h2,Bool.true_and,Bool.true_and] at h
 unfold endOK at h
 cases hg:hEq (rfin c) sGoto with
 | true=>rw[hg] at h;simp only[if_true] at h ⊢;rw[h];exact hy
 | false =>
  rw[hg] at h
  cases hr:hEq (rfin c) sReturn with
  | true=>rw[hr] at h;simp only[if_true,Bool.false_eq_true,if_false] at h ⊢;rw[h];exact hy
  | false=>simp only[Bool.false_eq_true,if_false];exact hz
omit [Gm] in
theorem tw_split {p:Fm→Bool}:∀ {l:List Fm} {j:Nat},(∀ c∈l.take j,p c=true)→(∀ c,l[j]?=some c→p c=false)→l.takeWhile p=l.take j∧l.dropWhile p=l.drop j
 | [],j,_,_=>by simp
 | x::l,0,_,h=>by
  have:=h x rfl
  simp[List.takeWhile,List.dropWhile,this]
 | x::l,j+1,h1,h2=>by
  have hx:p x=true:=h1 x (by simp)
  obtain⟨h3,h4⟩:=tw_split (l:=l) (j:=j) (fun c hc=>h1 c (by simp[hc])) (fun c hc=>h2 c (by simpa using hc))
  simp[List.takeWhile,List.dropWhile,hx,h3,h4]
omit [Gm] in
theorem tw_mem {p:Fm→Bool}:∀ {l:List Fm} {j:Nat} {c:Fm},(∀ c∈l.take j,p c=true)→l[j]?=some c→p c=true→c∈l.takeWhile p
 | [],j,c,_,h,_=>by simp at h
 | x::l,0,c,_,h,hp=>by
  simp at h;subst h
  simp[List.takeWhile,hp]
 | x::l,j+1,c,h1,h2,hp=>by
  have hx:p x=true:=h1 x (by simp)
  have:=tw_mem (l:=l) (j:=j) (fun c hc=>h1 c (by simp[hc])) (by simpa using h2) hp
  simp[List.takeWhile,hx,this]
theorem rvars_specX (c:Fm) (hf:Fit c) (hk:c.kids.length≤1000000):PC Tryz.prog 79 [.agg (cellsX c)] (rvars c):=by
 rw[←cellsX_eq];exact rvars_spec c hf (fun _=>hk)
theorem rhead_specX (c:Fm):PC Tryz.prog 77 [.agg (cellsX c)] (tS (headOf c)):=by rw[←cellsX_eq];exact rhead_spec c
theorem rread_b0 (f:Fm) (hf:Fit f) (h:rd0 f=false):PC Tryz.prog 44 [f.enc] rbadT:=by
 have hhd:=rhead_spec f
 have hvd:=rvalid_spec f hf
 have hE:hEq f sProc=((headOf f).toList==sProc.toList):=rfl
 unfold rd0 at h
 rw[hE] at h
 generalize headOf f=hd at hhd h
 generalize validB f=V at hvd h
 cases hf with
 | @mk k n t ks hl hb ht hks =>
 have h:(!(((!V||!(hd.toList==sProc.toList))||decide (((rows ks).length:Int)<4))||!isNm (ks.getD 1 w0)))=false:=h
 have hnm:=risName_specX (ks.getD 1 w0) (fit_getD hks 1)
 have hat:(decide (((rows ks).length:Int)<4))=false→(0:Int)≤1∧(rows ks)[Int.toNat 1]?=some (cellsX (ks.getD 1 w0)):=fun h=>rows_atX (n:=1) (by
  have:=of_decide_eq_false h
  rw[rows_len] at this;omega)
 refine PC.of_ok tok Tryz.func44 rfl (Nat.le_of_ble_eq_true rfl) (ev_sound ctx (own:=[]) _ _ _ ?_)
 refine⟨rvalid_ent,.inl ⟨_,hvd,?_⟩⟩
 refine⟨rhead_ent,_,fun _=>hhd,?_⟩
 refine⟨cellsX (ks.getD 1 w0),fun hG=>hat (by
  have hG:(((!V||!(hd.toList==sProc.toList))||decide (((rows ks).length:Int)<4)))=false:=hG
  rw[Bool.or_eq_false_iff] at hG
  exact hG.2),?_⟩
 refine⟨risName_ent,_,fun _=>hnm,?_⟩
 refine⟨fun _=>?_,fun h'=>?_⟩
 ·exact rfl
 ·have h':((((!V||!(hd.toList==sProc.toList))||decide (((rows ks).length:Int)<4))||!isNm (ks.getD 1 w0)))=false:=h'
  rw[h'] at h;cases h
omit [Gm] in
theorem rvars_or (c:Fm):(varsOK c=true∧rvars c=.tup [.sl 10 (c.kids.map rvT),tB true])∨(varsOK c=false∧rvars c=.tup [nilT,tB false]):=by
 unfold rvars
 cases varsOK c with
 | true=>exact .inl ⟨rfl,rfl⟩
 | false=>exact .inr ⟨rfl,rfl⟩
theorem rread_b1 (f:Fm) (hf:Fit f) (h:rd0 f=true) (hv:rdV f=false) (hkk:∀ c∈f.kids,c.kids.length≤1000000):PC Tryz.prog 44 [f.enc] rbadT:=by
 have hhd:=rhead_spec f
 have hvd:=rvalid_spec f hf
 have hE:hEq f sProc=((headOf f).toList==sProc.toList):=rfl
 unfold rd0 at h
 rw[hE] at h
 generalize headOf f=hd at hhd h
 generalize validB f=V at hvd h
 cases hf with
 | @mk k n t ks hl hb ht hks =>
 have h:(!(((!V||!(hd.toList==sProc.toList))||decide (((rows ks).length:Int)<4))||!isNm (ks.getD 1 w0)))=true:=h
 have h0:(((!V||!(hd.toList==sProc.toList))||decide (((rows ks).length:Int)<4))||!isNm (ks.getD 1 w0))=false:=by simpa using h
 have h4:4≤ks.length:=by
  simp only[Bool.or_eq_false_iff] at h0
  have:=of_decide_eq_false h0.1.2
  rw[rows_len] at this;omega
 have hnm:=risName_specX (ks.getD 1 w0) (fit_getD hks 1)
 have hat:∀ n,n<ks.length→(0:Int)≤(n:Int)∧(rows ks)[((n:Nat):Int).toNat]?=some (cellsX (ks.getD n w0)):=fun n h=>rows_atX h
 have hkg:∀ n,n<ks.length→(ks.getD n w0).kids.length≤1000000:=fun n hn=>hkk _ (by
  show ks.getD n w0∈ks
  rw[List.getD_eq_getElem?_getD,List.getElem?_eq_getElem hn];exact List.getElem_mem hn)
 have hv2:=rvars_specX (ks.getD 2 w0) (fit_getD hks 2) (hkg 2 (by omega))
 have hv3:=rvars_specX (ks.getD 3 w0) (fit_getD hks 3) (hkg 3 (by omega))
 have hv:(varsOK (ks.getD 2 w0)&&varsOK (ks.getD 3 w0))=false:=hv
 rcases rvars_or (ks.getD 2 w0) with⟨g2,e2⟩ | ⟨g2,e2⟩ <;> rcases rvars_or (ks.getD 3 w0) with⟨g3,e3⟩ | ⟨g3,e3⟩ <;> rw[e2] at hv2 <;> rw[e3] at hv3 <;> rw[g2,g3] at hv <;> clear hkg hkk e2 e3
 ·cases hv
 all_goals
  refine PC.of_ok tok Tryz.func44 rfl (Nat.le_of_ble_eq_true rfl) (ev_sound ctx (own:=[]) _ _ _ ?_)
  refine⟨rvalid_ent,.inl ⟨_,hvd,?_⟩⟩
  refine⟨rhead_ent,_,fun _=>hhd,?_⟩
  refine⟨cellsX (ks.getD 1 w0),fun _=>hat 1 (by omega),?_⟩
  refine⟨risName_ent,_,fun _=>hnm,?_⟩
  refine⟨fun h'=>Bool.noConfusion (h0.symm.trans h'),fun _=>?_⟩
  refine⟨_,hat 1 (by omega),?_⟩
  refine⟨_,hat 2 (by omega),?_⟩
  refine⟨rvars_ent,.inl ⟨_,hv2,?_⟩⟩
  refine⟨_,hat 3 (by omega),?_⟩
  refine⟨rvars_ent,.inl ⟨_,hv3,?_⟩⟩
  refine⟨fun _=>rfl,fun h'=>absurd h' (by decide)⟩
end
section
omit [Gm] in
theorem ret_elim {R:SE→List AO→Prop} {C:TV→List AO→Prop} {n:Nat} {r0:TV} {os0:List AO} (h:∀ r os',R (.ret r) os'→r=r0∧os'=os0) (hC:C r0 os0):∀ r os',os'.length=n→R (.ret r) os'→C r os' :=
 fun r os' _ hR=>by obtain⟨rfl,rfl⟩:=h r os' hR;exact hC
omit [Gm] in
theorem clR_ret {p0 p1 p2 p7 r:TV} {b:Bool} {S:CL} {os:List AO} (h:clR p0 p1 p2 p7 b S (.ret r) os):r=tB b∧os=clO S p0 p1 p2 p7:=by
 obtain⟨h1,h2⟩:=h
 injection h1 with h1
 exact⟨h1,h2⟩
omit [Gm] in
theorem clR_pan {p0 p1 p2 p7 r:TV} {b:Bool} {S:CL} {os:List AO} (h:clR p0 p1 p2 p7 b S (.pan r) os):False:=by
 obtain⟨h1,_⟩:=h
 cases h1
theorem clF_low (cls:List Fm) (hl:cls.length≤10000) (hkk:∀ c∈cls,c.kids.length≤1000000) (j:Nat):((cls.take j).foldl clS S00).low:=by
 have key:∀ (l:List Fm) (S:CL),(∀ c∈l,c.kids.length≤1000000)→(l.foldl clS S).l.length≤S.l.length+l.length*1000000∧(l.foldl clS S).a.length≤S.a.length+l.length*1000000∧(l.foldl clS S).e.length≤S.e.length+l.length*1000000∧(l.foldl clS S).m.length≤S.m.length+l.length*1000000:=by
  intro l
  induction l with
  | nil=>intro S _;simp
  | cons c l ih =>
   intro S h
   obtain⟨h1,h2,h3,h4⟩:=ih (clS S c) (fun x hx=>h x (by simp[hx]))
   obtain⟨g1,g2,g3,g4⟩:=clS_le S c (h c (by simp))
   simp only[List.foldl_cons,List.length_cons]
   omega
 obtain⟨h1,h2,h3,h4⟩:=key (cls.take j) S00 (fun c hc=>hkk c (List.mem_of_mem_take hc))
 have:(cls.take j).length≤10000:=by rw[List.length_take];omega
 have z1:S00.l.length=0:=rfl
 have z2:S00.a.length=0:=rfl
 have z3:S00.e.length=0:=rfl
 have z4:S00.m.length=0:=rfl
 refine⟨?_,?_,?_,?_⟩ <;> omega
theorem rcl_specX (c:Fm) (hf:Fit c) (hk:c.kids.length≤1000000) (S:CL) (hS:S.low) (p0 p1 p2 p7:TV) :
  SCR Tryz.prog 80 996 (clO S p0 p1 p2 p7) [.ptr 1000 0,.t (.agg (cellsX c))] (clR p0 p1 p2 p7 (rclB c) (clS S c)):=by
 rw[←cellsX_eq];exact rcl_spec c hf hk S hS p0 p1 p2 p7
theorem rblock_specX (c:Fm) (hf:Fit c):PC Tryz.prog 81 [.agg (cellsX c)] (rblock c):=by
 rw[←cellsX_eq];exact rblock_spec c hf
theorem cells4 (c:Fm):∃ a b t d,cellsX c=[tI a,tI b,tS t,encs d]:=⟨_,_,_,_,rfl⟩
def stR (ks:List Fm) (p0 p1 p2:TV) (S:CL) (i:Nat):St :=
 ⟨[(8,vi i),(4,.t (encs ks)),(5,.ptr 5 0),(2,.ptr 2 0)],[(5,.var [.t p0,.t p1,.t p2,.sl 30,.sl 31,.sl 32,.sl 33,.t nilT]),(30,.row 188 10 S.l),(31,.row 24 4 S.a),(32,.row 24 4 S.e),(33,.row 9 1 S.m),(2,.var (zero8.map .t))]⟩
def stR2 (ks:List Fm) (p0 p1 p2:TV) (S:CL) (bs:List Fm) (i:Nat):St :=
 ⟨[(8,vi i),(4,.t (encs ks)),(5,.ptr 5 0),(2,.ptr 2 0)],[(5,.var [.t p0,.t p1,.t p2,.sl 30,.sl 31,.sl 32,.sl 33,.sl 34]),(30,.row 188 10 S.l),(31,.row 24 4 S.a),(32,.row 24 4 S.e),(33,.row 9 1 S.m),(34,.row 144 6 (bs.map rdT)),(2,.var (zero8.map .t))]⟩
theorem rread_go (f:Fm) (hf:Fit f) (h:rd0 f=true) (hv:rdV f=true) (hk:f.kids.length≤10000) (hkk:∀ c∈f.kids,c.kids.length≤1000000) (T:TV)
  (hT1:rd1 (f.kids.drop 4)=true→T=.tup [.agg (prR (rdC f) (rdBs f)),tB true]) (hT2:rd1 (f.kids.drop 4)=false→T=rbadT):PC Tryz.prog 44 [f.enc] T:=by
 have hhd:=rhead_spec f
 have hvd:=rvalid_spec f hf
 have hE:hEq f sProc=((headOf f).toList==sProc.toList):=rfl
 unfold rd0 at h
 rw[hE] at h
 generalize headOf f=hd at hhd h
 generalize validB f=V at hvd h
 have hcl0:f.kids.drop 4=f.kids.drop 4:=rfl
 unfold rdC rdBs at hT1
 cases hf with
 | @mk k n t ks hl hb ht hks =>
 have h:(!(((!V||!(hd.toList==sProc.toList))||decide (((rows ks).length:Int)<4))||!isNm (ks.getD 1 w0)))=true:=h
 have h0:(((!V||!(hd.toList==sProc.toList))||decide (((rows ks).length:Int)<4))||!isNm (ks.getD 1 w0))=false:=by simpa using h
 have h4:4≤ks.length:=by
  simp only[Bool.or_eq_false_iff] at h0
  have:=of_decide_eq_false h0.1.2
  rw[rows_len] at this;omega
 have hk:ks.length≤10000:=hk
 have hkk:∀ c∈ks,c.kids.length≤1000000:=hkk
 have hnm:=risName_specX (ks.getD 1 w0) (fit_getD hks 1)
 have hat:∀ n,n<ks.length→(0:Int)≤(n:Int)∧(rows ks)[((n:Nat):Int).toNat]?=some (cellsX (ks.getD n w0)):=fun n h=>rows_atX h
 have hmem:∀ n,n<ks.length→ks.getD n w0∈ks:=fun n hn=>by
  rw[List.getD_eq_getElem?_getD,List.getElem?_eq_getElem hn];exact List.getElem_mem hn
 have hkg:∀ n,n<ks.length→(ks.getD n w0).kids.length≤1000000:=fun n hn=>hkk _ (hmem n hn)
 have hv2:=rvars_specX (ks.getD 2 w0) (fit_getD hks 2) (hkg 2 (by omega))
 have hv3:=rvars_specX (ks.getD 3 w0) (fit_getD hks 3) (hkg 3 (by omega))
 have hv:(varsOK (ks.getD 2 w0)&&varsOK (ks.getD 3 w0))=true:=hv
 rw[Bool.and_eq_true] at hv
 unfold rvars at hv2 hv3
 rw[if_pos hv.1] at hv2
 rw[if_pos hv.2] at hv3
 have hT1:rd1 (ks.drop 4)=true→T=.tup [.agg (prR [tS (ks.getD 1 w0).text,.sl 10 ((ks.getD 2 w0).kids.map rvT),.sl 10 ((ks.getD 3 w0).kids.map rvT),.sl 10 (rdS (ks.drop 4)).l,.sl 4 (rdS (ks.drop 4)).a,.sl 4 (rdS (ks.drop 4)).e,.sl 1 (rdS (ks.drop 4)).m] ((ks.drop 4).dropWhile nb)),tB true]:=hT1
 have hT2:rd1 (ks.drop 4)=false→T=rbadT:=hT2
 have hcm:∀ c∈ks.drop 4,c∈ks:=fun c hc=>List.mem_of_mem_drop hc
 have hcl:(ks.drop 4).length≤10000:=by rw[List.length_drop];omega
 have hclk:(ks.drop 4).length+4=ks.length:=by rw[List.length_drop];omega
 have hga:∀ j,(ks.drop 4)[j]?=ks[4+j]?:=fun j=>by rw[List.getElem?_drop]
 generalize hcls:ks.drop 4=cls at hT1 hT2 hcm hcl hclk hga
 have hlow:=clF_low cls hcl (fun c hc=>hkk c (hcm c hc))
 have hgd:∀ j,j<cls.length→cls[j]?=some (ks.getD (4+j) w0):=fun j hj=>by
  rw[hga,List.getD_eq_getElem?_getD,List.getElem?_eq_getElem (by omega)];rfl
 generalize hw:(ks.getD 1 w0).text=W at hT1
 have hnx:∀ n,n=1→n<ks.length→(0:Int)≤(n:Int)∧(rows ks)[((n:Nat):Int).toNat]?=some [tI (ks.getD 1 w0).kind,tI (ks.getD 1 w0).num,tS W,encs (ks.getD 1 w0).kids]:=by
  rintro n rfl hn
  rw[←hw];exact hat 1 hn
 generalize (ks.getD 2 w0).kids.map rvT=X1 at hT1 hv2
 generalize (ks.getD 3 w0).kids.map rvT=X2 at hT1 hv3
 refine PC.of_ok tok Tryz.func44 rfl (Nat.le_of_ble_eq_true rfl) (ev_sound ctx (own:=[]) _ _ _ ?_)
 refine⟨rvalid_ent,.inl ⟨_,hvd,?_⟩⟩
 refine⟨rhead_ent,_,fun _=>hhd,?_⟩
 refine⟨cellsX (ks.getD 1 w0),fun _=>hat 1 (by omega),?_⟩
 refine⟨risName_ent,_,fun _=>hnm,?_⟩
 refine⟨fun h'=>Bool.noConfusion (h0.symm.trans h'),fun _=>?_⟩
 refine⟨_,hnx 1 rfl (by omega),?_⟩
 refine⟨_,hat 2 (by omega),?_⟩
 refine⟨rvars_ent,.inl ⟨_,hv2,?_⟩⟩
 refine⟨_,hat 3 (by omega),?_⟩
 refine⟨rvars_ent,.inl ⟨_,hv3,?_⟩⟩
 refine⟨fun h'=>absurd h' (by decide),fun _=>?_⟩
 refine Ok.loop (st:=fun j:Nat=>stR ks (tS W) (.sl 10 X1) (.sl 10 X2) ((cls.take j).foldl clS S00) (4+j)) (R:=fun j=>j≤cls.length∧(∀ c∈cls.take j,nb c=true)∧(cls.take j).all rclB=true) (μ:=fun j=>cls.length-j) 0
  ((Wk.nilCell 5 30 3 188 10 _ (by decide) (by decide) rfl rfl).trans ((Wk.nilCell 5 31 4 24 4 _ (by decide) (by decide) rfl rfl).trans ((Wk.nilCell 5 32 5 24 4 _ (by decide) (by decide) rfl rfl).trans ((Wk.nilCell 5 33 6 9 1 _ (by decide) (by decide) rfl rfl).trans (Wk.sub ⟨rfl,rfl,rfl,rfl,trivial⟩ ⟨rfl,rfl,rfl,rfl,rfl,rfl,trivial⟩))))) ⟨Nat.zero_le _,fun c hc=>by simp at hc,rfl⟩ ?_
 rintro j ⟨hj,hjn,hjc⟩
 have hj:j≤cls.length:=hj
 have hjn:∀ c∈cls.take j,nb c=true:=hjn
 have hjc:(cls.take j).all rclB=true:=hjc
 have hSl:=hlow j
 have hhc:=rhead_specX (ks.getD (4+j) w0)
 have hbk:=rblock_specX (ks.getD (4+j) w0) (fit_getD hks _)
 have hnbE:nb (ks.getD (4+j) w0)=!((headOf (ks.getD (4+j) w0)).toList==sBlock.toList):=rfl
 have hatj:=hat (4+j)
 have hgdj:=hgd j
 by_cases hex:j<cls.length∧nb (ks.getD (4+j) w0)=true
 ·obtain⟨hlt,hnb⟩:=hex
  have hatj:=hatj (by omega)
  have hgdj:=hgdj hlt
  have hfc:=rcl_specX (ks.getD (4+j) w0) (fit_getD hks _) (hkg _ (by omega)) _ hSl (tS W) (.sl 10 X1) (.sl 10 X2) nilT
  have htk:cls.take (j+1)=cls.take j++[ks.getD (4+j) w0]:=by rw[List.take_add_one,hgdj];rfl
  have hfold:(cls.take (j+1)).foldl clS S00=clS ((cls.take j).foldl clS S00) (ks.getD (4+j) w0):=by rw[htk,List.foldl_append];rfl
  have hnx:∀ c∈cls.take (j+1),nb c=true:=fun c hc=>by
   rw[htk,List.mem_append,List.mem_singleton] at hc
   rcases hc with hc | rfl
   ·exact hjn c hc
   ·exact hnb
  have hcx:rclB (ks.getD (4+j) w0)=true→(cls.take (j+1)).all rclB=true:=fun h=>by
   rw[htk,List.all_append,hjc]
   simp only[List.all_cons,List.all_nil,Bool.and_true,Bool.true_and]
   exact h
  have hbad:rclB (ks.getD (4+j) w0)=false→T=rbadT:=fun h=>hT2 (by
   unfold rd1
   have hin:=tw_mem hjn hgdj hnb
   have:(cls.takeWhile nb).all rclB=false:=by
    rw[List.all_eq_false]
    exact⟨_,hin,by rw[h];simp⟩
   rw[this,Bool.false_and])
  clear hbk hgdj htk
  rw[hnbE] at hnb
  generalize (cls.take j).foldl clS S00=S at hfc hfold ⊢
  generalize rclB (ks.getD (4+j) w0)=B at hfc hcx hbad
  generalize hS':clS S (ks.getD (4+j) w0)=S' at hfc hfold
  generalize headOf (ks.getD (4+j) w0)=hdc at hhc hnb
  obtain⟨ca,cb,c3,cd,hcc⟩:=cells4 (ks.getD (4+j) w0)
  rw[hcc] at hhc hfc hatj
  clear hcc
  have hB:(decide (((4+j:Nat):Int)<((rows ks).length:Int))&&!(hdc.toList==sBlock.toList))=true:=by
   rw[hnb,Bool.and_true,rows_len];exact decide_eq_true (by omega)
  have hq:some (stR ks (tS W) (.sl 10 X1) (.sl 10 X2) S' (4+(j+1)))=some (stR ks (tS W) (.sl 10 X1) (.sl 10 X2) ((cls.take (j+1)).foldl clS S00) (4+(j+1))):=by rw[hfold]
  have hwk:∀ (N:Nat) (s:St),Wk N s (stR ks (tS W) (.sl 10 X1) (.sl 10 X2) S' (4+(j+1)))→Wk N s (stR ks (tS W) (.sl 10 X1) (.sl 10 X2) ((cls.take (j+1)).foldl clS S00) (4+(j+1))):=fun N s h=>by rw[hfold];exact h
  clear hfold hq
  refine ev_sound ctx (own:=[]) _ _ _ ?_
  refine⟨_,fun _=>hatj,?_⟩
  refine⟨rhead_ent,_,fun _=>hhc,?_⟩
  refine⟨fun _=>?_,fun h'=>Bool.noConfusion (hB.symm.trans h')⟩
  refine⟨_,hatj,?_⟩
  refine⟨rcl_ent,.inr (.inr (.inr (.inr ⟨996,[30,31,32,33,5],clO S (tS W) (.sl 10 X1) (.sl 10 X2) nilT,[.ptr 1000 0,.t (.agg [tI ca,tI cb,tS c3,encs cd])],_,hfc,rfl,rfl,rfl,rfl,⟨rfl,rfl,rfl,rfl,rfl,trivial⟩,?_,fun r os' _ hR=>clR_pan hR⟩)))⟩
  refine ret_elim (fun r os' hR=>clR_ret hR) ?_
  refine⟨fun h'=>?_,fun h'=>?_⟩
  ·exact toEq (hbad (by have h':(!B)=true:=h';simpa using h')).symm
  ·have hBt:B=true:=by
    have h':(!B)=false:=h'
    simpa using h'
   have hlt4:4+j<ks.length:=by omega
   exact⟨trivial,j+1,hwk _ _ (Wk.sub ⟨slotI (wr1 hlt4 hl),rfl,rfl,rfl,trivial⟩ ⟨rfl,rfl,rfl,rfl,rfl,rfl,trivial⟩),⟨hlt,hnx,hcx hBt⟩,dec hlt⟩
 ·have hB:(decide (((4+j:Nat):Int)<((rows ks).length:Int))&&!((headOf (ks.getD (4+j) w0)).toList==sBlock.toList))=false:=by
   rw[rows_len]
   by_cases hlt:j<cls.length
   ·have:nb (ks.getD (4+j) w0)=false:=by
     cases hq:nb (ks.getD (4+j) w0) with
     | false=>rfl
     | true=>exact absurd ⟨hlt,hq⟩ hex
    rw[hnbE] at this
    rw[this,Bool.and_false]
   ·rw[decide_eq_false (by omega),Bool.false_and]
  have hsp:=tw_split (l:=cls) (j:=j) hjn (fun c hc=>by
   have hlt:j<cls.length:=(List.getElem?_eq_some_iff.1 hc).1
   rw[hgdj hlt] at hc
   injection hc with hc
   rw[←hc]
   cases hq:nb (ks.getD (4+j) w0) with
   | false=>rfl
   | true=>exact absurd ⟨hlt,hq⟩ hex)
  have hrd:rd1 cls=(cls.drop j).all rblkB:=by unfold rd1;rw[hsp.1,hsp.2,hjc,Bool.true_and]
  have hrs:rdS cls=(cls.take j).foldl clS S00:=by unfold rdS;rw[hsp.1]
  rw[hrd,hrs,hsp.2] at hT1
  rw[hrd] at hT2
  clear hrd hrs hsp hbk hgdj hhc hnbE hatj hSl
  have hgb:∀ q,q<(cls.drop j).length→(cls.drop j)[q]?=some (ks.getD (4+j+q) w0):=fun q hq=>by
   rw[List.length_drop] at hq
   rw[List.getElem?_drop,hgd _ (by omega),Nat.add_assoc]
  have hbl:(cls.drop j).length+(4+j)=ks.length:=by rw[List.length_drop];omega
  have hhc:=rhead_specX (ks.getD (4+j) w0)
  have hatj:=hat (4+j)
  generalize cls.drop j=bs at hT1 hT2 hgb hbl
  generalize (cls.take j).foldl clS S00=S at hT1 ⊢
  generalize headOf (ks.getD (4+j) w0)=hdc at hhc hB
  obtain⟨ca,cb,c3,cd,hcc⟩:=cells4 (ks.getD (4+j) w0)
  rw[hcc] at hhc hatj
  clear hcc
  have hG:∀ {x:Bool},(decide (((4+j:Nat):Int)<((rows ks).length:Int)))=true→4+j<ks.length:=fun h=>by
   have:=of_decide_eq_true h
   rw[rows_len] at this;omega
  refine ev_sound ctx (own:=[]) _ _ _ ?_
  refine⟨_,fun hx=>hatj (hG (x:=true) hx),?_⟩
  refine⟨rhead_ent,_,fun _=>hhc,?_⟩
  refine⟨fun h'=>Bool.noConfusion (hB.symm.trans h'),fun _=>?_⟩
  refine Ok.loop (st:=fun q:Nat=>stR2 ks (tS W) (.sl 10 X1) (.sl 10 X2) S (bs.take q) (4+j+q)) (R:=fun q=>q≤bs.length∧(bs.take q).all rblkB=true) (μ:=fun q=>bs.length-q) 0
   ((Wk.nilCell 5 34 7 144 6 _ (by decide) (by decide) rfl rfl).trans (Wk.sub ⟨rfl,rfl,rfl,rfl,trivial⟩ ⟨rfl,rfl,rfl,rfl,rfl,rfl,rfl,trivial⟩)) ⟨Nat.zero_le _,rfl⟩ ?_
  rintro q ⟨hq,hqa⟩
  have hq:q≤bs.length:=hq
  have hqa:(bs.take q).all rblkB=true:=hqa
  clear hhc hatj hG hB hex
  by_cases hlt:q<bs.length
  ·have hget:=hat (4+j+q) (by omega)
   have hgq:=hgb q hlt
   have hbk:=rblock_specX (ks.getD (4+j+q) w0) (fit_getD hks _)
   have hD:decide (((4+j+q:Nat):Int)<((rows ks).length:Int))=true:=by rw[rows_len];exact decide_eq_true (by omega)
   have htk:bs.take (q+1)=bs.take q++[ks.getD (4+j+q) w0]:=by rw[List.take_add_one,hgq];rfl
   have hlt4:4+j+q<ks.length:=by omega
   cases hR:rblkB (ks.getD (4+j+q) w0) with
   | false =>
    have hbad:T=rbadT:=hT2 (by
     rw[List.all_eq_false]
     exact⟨_,List.mem_of_getElem? hgq,by rw[hR];simp⟩)
    obtain⟨y1,y2,y3,y4,y5,y6,hy⟩:=rblock_bad hR
    rw[hy] at hbk
    obtain⟨ca,cb,c3,cd,hcc⟩:=cells4 (ks.getD (4+j+q) w0)
    rw[hcc] at hbk hget
    clear hcc
    generalize bs.take q=bq
    refine ev_sound ctx (own:=[]) _ _ _ ?_
    refine⟨fun _=>?_,fun h'=>Bool.noConfusion (hD.symm.trans h')⟩
    refine⟨_,hget,?_⟩
    refine⟨rblock_ent,.inl ⟨_,hbk,?_⟩⟩
    refine⟨fun _=>?_,fun h'=>absurd h' (by decide)⟩
    exact toEq hbad.symm
   | true =>
    rw[rblock_good hR] at hbk
    have hrd:rdT (ks.getD (4+j+q) w0)=[tS ((ks.getD (4+j+q) w0).kids.getD 1 w0).text,encs (rcm (ks.getD (4+j+q) w0)),tI (rfin (ks.getD (4+j+q) w0)).kind,tI (rfin (ks.getD (4+j+q) w0)).num,tS (rfin (ks.getD (4+j+q) w0)).text,encs (rfin (ks.getD (4+j+q) w0)).kids]:=rfl
    have hqx:(bs.take (q+1)).all rblkB=true:=by
     rw[htk,List.all_append,hqa]
     simp only[List.all_cons,List.all_nil,Bool.and_true,Bool.true_and]
     exact hR
    have hrow:(bs.take q).map rdT++[rdT (ks.getD (4+j+q) w0)]=(bs.take (q+1)).map rdT:=by rw[htk,List.map_append];rfl
    have hrl:((bs.take q).map rdT).length≤10000:=by rw[List.length_map,List.length_take];omega
    have hrow2:∀ x,x=rdT (ks.getD (4+j+q) w0)→some (AO.row 144 6 ((bs.take q).map rdT++[x]))=some (AO.row 144 6 ((bs.take (q+1)).map rdT)):=fun x h=>by rw[h,hrow]
    rw[hrd] at hbk hrow2
    clear hrow hrd htk hgq
    obtain⟨ca,cb,c3,cd,hcc⟩:=cells4 (ks.getD (4+j+q) w0)
    rw[hcc] at hbk hget
    clear hcc
    generalize ((ks.getD (4+j+q) w0).kids.getD 1 w0).text=z1 at hbk hrow2
    generalize rcm (ks.getD (4+j+q) w0)=z2 at hbk hrow2
    generalize rfin (ks.getD (4+j+q) w0)=z3 at hbk hrow2
    have hB1:(((bs.take q).map rdT).length+1)*96≤140737488355328:=by omega
    have hB2:((bs.take q).map rdT).length+1≤maxLen:=by simp only[maxLen];omega
    unfold stR2
    generalize (bs.take q).map rdT=bq at hrow2 hB1 hB2 ⊢
    refine ev_sound ctx (own:=[]) _ _ _ ?_
    refine⟨fun _=>?_,fun h'=>Bool.noConfusion (hD.symm.trans h')⟩
    refine⟨_,hget,?_⟩
    refine⟨rblock_ent,.inl ⟨_,hbk,?_⟩⟩
    refine⟨fun h'=>absurd h' (by decide),fun _=>?_⟩
    refine⟨hB1,hB2,?_⟩
    exact⟨trivial,q+1,Wk.sub ⟨slotI (wr1 hlt4 hl),rfl,rfl,rfl,trivial⟩ ⟨rfl,rfl,rfl,rfl,rfl,hrow2 _ rfl,rfl,trivial⟩,⟨hlt,hqx⟩,dec hlt⟩
  ·have hD:decide (((4+j+q:Nat):Int)<((rows ks).length:Int))=false:=by rw[rows_len];exact decide_eq_false (by omega)
   have hfin:bs.take q=bs:=List.take_of_length_le (by omega)
   rw[hfin] at hqa ⊢
   have hgood:=hT1 hqa
   unfold prR at hgood
   refine ev_sound ctx (own:=[]) _ _ _ ?_
   refine⟨fun h'=>Bool.noConfusion (hD.symm.trans h'),fun _=>?_⟩
   exact toEq hgood.symm
end
end Go.Proofs.YtihbimigddlbaaaGreatDoor.L
end
