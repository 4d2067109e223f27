/- A part of the proof: PmV1 PmV2 PmV3 PmV4 PmV5 PmV6 PmV7. -/
import Derived.Test.YtihbimigddlbaaaGreatDoorUnA
noncomputable section
set_option linter.all false
namespace Go.Proofs.YtihbimigddlbaaaGreatDoor.L
open Go Go.RowKit Go.Proofs.YtihbimigddlbaaaGreatDoor.Pl
variable [Gm]
set_option maxRecDepth 10000
section
inductive Fm where
 | mk (k n:Int) (t:ByteArray) (ks:List Fm)
def Fm.kind:Fm→Int | .mk k _ _ _=>k
def Fm.num:Fm→Int | .mk _ n _ _=>n
def Fm.text:Fm→ByteArray | .mk _ _ t _=>t
def Fm.kids:Fm→List Fm | .mk _ _ _ ks=>ks
mutual
def Fm.cells:Fm→List TV
 | .mk k n t ks=>[.v (.int .i64 k),.v (.int .i64 n),.v (.string t),.sl 4 (rows ks)]
def rows:List Fm→List (List TV)
 | []=>[]
 | f::r=>f.cells::rows r
end
def Fm.enc (f:Fm):TV:=.agg f.cells
def encs (l:List Fm):TV:=.sl 4 (rows l)
omit [Gm] in
theorem rows_map:∀ l,rows l=l.map Fm.cells
 | []=>rfl
 | f::r=>by simp[rows,rows_map r]
theorem nil_encs:TV.le (.v (.slice none 0 0)) (encs []):=TV.nil_le 4 (by decide)
inductive Fit:Fm→Prop where
 | mk {k n:Int} {t:ByteArray} {ks:List Fm} (hl:ks.length≤maxLen) (hb:ks.length*56≤140737488355328) (ht:t.size≤140737488355328) (h:∀ g∈ks,Fit g):Fit (.mk k n t ks)
omit [Gm] in
theorem rows_len (l:List Fm):(rows l).length=l.length:=by rw[rows_map,List.length_map]
omit [Gm] in
theorem rows_get {l:List Fm} {i:Nat} (h:i<l.length):(0:Int)≤(i:Int)∧(rows l)[((i:Int)).toNat]?=some (l[i]).cells:=by
 rw[rows_map];exact getM h
omit [Gm] in
theorem Fm.cells_eq (f:Fm):f.cells=[.v (.int .i64 f.kind),.v (.int .i64 f.num),.v (.string f.text),encs f.kids]:=by cases f;rfl
def wd (s:ByteArray):Fm:=.mk 1 0 s []
theorem list_ent:Ent Tryz.prog 14:=fun a w=>Tryz.call14 a w
theorem list_spec (l:List Fm):PC Tryz.prog 14 [encs l] (Fm.mk 3 0 ⟨#[]⟩ l).enc:=by
 refine PC.of_ok tok Tryz.func14 rfl (Nat.le_of_ble_eq_true rfl) (ev_sound ctx (own:=[]) _ _ _ ?_)
 exact rfl
def kidsOf (f:Fm):List Fm:=if f.kind=3 then f.kids else []
theorem kids_ent:Ent Tryz.prog 69:=fun a w=>Tryz.call69 a w
theorem kids_spec (f:Fm):PC Tryz.prog 69 [f.enc] (encs (kidsOf f)):=by
 obtain⟨k,n,t,ks⟩:=f
 refine PC.of_okL tok Tryz.func69 rfl (Nat.le_of_ble_eq_true rfl) (ev_sound ctx (own:=[]) _ _ _ ?_)
 refine⟨fun h=>?_,fun h=>?_⟩
 ·have h:k=3:=by simpa using h
  simp only[kidsOf,Fm.kind,h,if_true]
  exact TV.le_refl _
 ·have h:¬ k=3:=by simpa using h
  simp only[kidsOf,Fm.kind,h,if_false]
  exact nil_encs
def headOf (f:Fm):ByteArray:=match kidsOf f with
 | g::_=>if g.kind=1 then g.text else ⟨#[]⟩
 | []=>⟨#[]⟩
theorem rhead_ent:Ent Tryz.prog 77:=fun a w=>Tryz.call77 a w
theorem rhead_spec (f:Fm):PC Tryz.prog 77 [f.enc] (tS (headOf f)):=by
 obtain⟨k,n,t,ks⟩:=f
 refine PC.of_ok tok Tryz.func77 rfl (Nat.le_of_ble_eq_true rfl) (ev_sound ctx (own:=[]) _ _ _ ?_)
 cases ks with
 | nil =>
  refine⟨(wd ⟨#[]⟩).cells,fun h=>absurd h (by simp[rows]),fun h=>?_,fun h=>absurd h (by simp[rows])⟩
  refine toEq ?_
  simp[headOf,kidsOf,Fm.kids,tS]
 | cons g r =>
  obtain⟨k',n',t',ks'⟩:=g
  refine⟨(Fm.mk k' n' t' ks').cells,fun _=>⟨Int.le_refl _,rfl⟩,fun h=>?_,fun h=>?_⟩
  ·refine toEq ?_
   simp only[headOf,kidsOf,Fm.kind,Fm.kids,Fm.text,tS]
   by_cases h3:k=3
   ·by_cases h1:k'=1
    ·simp[h3,h1,rows] at h;omega
    ·simp[h3,h1]
   ·simp[h3]
  ·refine⟨(Fm.mk k' n' t' ks').cells,⟨Int.le_refl _,rfl⟩,?_⟩
   refine toEq ?_
   simp only[headOf,kidsOf,Fm.kind,Fm.kids,Fm.text,tS]
   by_cases h3:k=3
   ·by_cases h1:k'=1
    ·simp[h3,h1]
    ·simp[h3,h1,rows] at h
   ·simp[h3] at h
theorem head_ent:Ent Tryz.prog 40:=fun a w=>Tryz.call40 a w
theorem head_spec (f:Fm):PC Tryz.prog 40 [f.enc] (tS (headOf f)):=by
 have hk:=kids_spec f
 have hh:headOf f=(match kidsOf f with
  | g::_=>if g.kind=1 then g.text else ⟨#[]⟩
  | []=>⟨#[]⟩):=rfl
 generalize kidsOf f=l at hk hh
 rw[hh]
 obtain⟨k,n,t,ks⟩:=f
 refine PC.of_ok tok Tryz.func40 rfl (Nat.le_of_ble_eq_true rfl) (ev_sound ctx (own:=[]) _ _ _ ?_)
 refine⟨kids_ent,.inl ⟨_,hk,?_⟩⟩
 cases l with
 | nil=>exact⟨(wd ⟨#[]⟩).cells,fun h=>absurd h (by simp[rows]),fun h=>absurd h (by simp[rows]),fun _=>rfl⟩
 | cons g r =>
  obtain⟨k',n',t',ks'⟩:=g
  refine⟨(Fm.mk k' n' t' ks').cells,fun _=>⟨Int.le_refl _,rfl⟩,fun h=>?_,fun h=>?_⟩
  ·refine⟨(Fm.mk k' n' t' ks').cells,⟨Int.le_refl _,rfl⟩,?_⟩
   refine toEq ?_
   have:k'=1:=by simpa [rows] using h
   simp[this,Fm.kind,Fm.text,tS]
  ·refine toEq ?_
   have:¬ k'=1:=by simpa [rows] using h
   simp[this,Fm.kind,tS]
mutual
def Fm.zs:Fm→Int
 | .mk k _ _ ks=>if k=3 then zsl 1 ks else 1
def zsl:Int→List Fm→Int
 | a,[]=>a
 | a,f::r=>zsl (IntKind.i64.wrap (a+f.zs)) r
end
omit [Gm] in
theorem zsl_snoc (f:Fm):∀ (l:List Fm) (a:Int),zsl a (l++[f])=IntKind.i64.wrap (zsl a l+f.zs)
 | [],a=>by simp[zsl]
 | g::l,a=>by simp only[List.cons_append,zsl];exact zsl_snoc f l _
theorem size_ent:Ent Tryz.prog 13:=fun a w=>Tryz.call13 a w
theorem size_spec (f:Fm) (hf:Fit f):PC Tryz.prog 13 [f.enc] (tI f.zs):=by
 induction hf with
 | @mk k n t ks hl hb ht _ ih =>
 refine PC.of_ok tok Tryz.func13 rfl (Nat.le_of_ble_eq_true rfl) (ev_sound ctx (own:=[]) _ _ _ ?_)
 refine Ok.loop (st:=fun i:Nat=>⟨[(4,vi i),(3,vi (zsl 1 (ks.take i))),(1,.ptr 1 0)],[(1,.var [.t (tI k),.t (tI n),.t (tS t),.t (encs ks)])]⟩)
  (R:=fun i=>i≤ks.length∧(k≠3→i=0)) (μ:=fun i=>ks.length-i) 0 (Wk.sub ⟨rfl,slotI (by simp[zsl]),rfl,trivial⟩ ⟨rfl,trivial⟩) ⟨Nat.zero_le _,fun _=>rfl⟩ ?_
 rintro i ⟨hi,h3⟩
 refine ev_sound ctx (own:=[]) _ _ _ ?_
 refine⟨fun h=>?_,fun h=>?_⟩
 ·have h:((k==3)&&decide ((i:Int)<((rows ks).length:Int)))=true:=h
  rw[rows_len,Bool.and_eq_true] at h
  have hk:k=3:=by simpa using h.1
  have hlt:=ltOf h.2
  have hget:=rows_get hlt
  have hih:=ih _ (List.getElem_mem hlt)
  have hacc:zsl 1 (ks.take (i+1))=IntKind.i64.wrap (zsl 1 (ks.take i)+ks[i].zs):=by
   rw[List.take_add_one,List.getElem?_eq_getElem hlt];exact zsl_snoc _ _ _
  generalize hg:ks[i]=g at hget hih hacc
  obtain⟨k',n',t',ks'⟩:=g
  refine⟨_,hget,?_⟩
  refine⟨size_ent,.inl ⟨_,hih,?_⟩⟩
  exact⟨trivial,trivial,i+1,Wk.sub ⟨slotI (wr1 hlt hl),slotI hacc.symm,rfl,trivial⟩ ⟨rfl,trivial⟩,⟨hlt,fun h=>absurd hk h⟩,dec hlt⟩
 ·have h:((k==3)&&decide ((i:Int)<((rows ks).length:Int)))=false:=h
  rw[rows_len] at h
  refine toEq ?_
  by_cases hk:k=3
  ·have hge:ks.length≤i:=geOf (by simpa [hk] using h)
   have:i=ks.length:=Nat.le_antisymm hi hge
   rw[this,List.take_length]
   simp only[Fm.zs,hk,if_true];rfl
  ·rw[h3 hk]
   simp only[Fm.zs,hk,if_false];rfl
mutual
def Fm.zd:Fm→Int
 | .mk k _ _ ks=>if k=3 then IntKind.i64.wrap (zdl 0 ks+1) else IntKind.i64.wrap (0+1)
def zdl:Int→List Fm→Int
 | a,[]=>a
 | a,f::r=>zdl (if f.zd>a then f.zd else a) r
end
omit [Gm] in
theorem zdl_snoc (f:Fm):∀ (l:List Fm) (a:Int),zdl a (l++[f])=if f.zd>zdl a l then f.zd else zdl a l
 | [],a=>by simp[zdl]
 | g::l,a=>by simp only[List.cons_append,zdl];exact zdl_snoc f l _
theorem depth_ent:Ent Tryz.prog 55:=fun a w=>Tryz.call55 a w
theorem depth_spec (f:Fm) (hf:Fit f):PC Tryz.prog 55 [f.enc] (tI f.zd):=by
 induction hf with
 | @mk k n t ks hl hb ht _ ih =>
 refine PC.of_ok tok Tryz.func55 rfl (Nat.le_of_ble_eq_true rfl) (ev_sound ctx (own:=[]) _ _ _ ?_)
 refine Ok.loop (st:=fun i:Nat=>⟨[(4,vi i),(3,vi (zdl 0 (ks.take i))),(1,.ptr 1 0)],[(1,.var [.t (tI k),.t (tI n),.t (tS t),.t (encs ks)])]⟩)
  (R:=fun i=>i≤ks.length∧(k≠3→i=0)) (μ:=fun i=>ks.length-i) 0 (Wk.sub ⟨rfl,slotI (by simp[zdl]),rfl,trivial⟩ ⟨rfl,trivial⟩) ⟨Nat.zero_le _,fun _=>rfl⟩ ?_
 rintro i ⟨hi,h3⟩
 refine ev_sound ctx (own:=[]) _ _ _ ?_
 refine⟨fun h=>?_,fun h=>?_⟩
 ·have h:((k==3)&&decide ((i:Int)<((rows ks).length:Int)))=true:=h
  rw[rows_len,Bool.and_eq_true] at h
  have hk:k=3:=by simpa using h.1
  have hlt:=ltOf h.2
  have hget:=rows_get hlt
  have hih:=ih _ (List.getElem_mem hlt)
  have hacc:zdl 0 (ks.take (i+1))=if ks[i].zd>zdl 0 (ks.take i) then ks[i].zd else zdl 0 (ks.take i):=by
   rw[List.take_add_one,List.getElem?_eq_getElem hlt];exact zdl_snoc _ _ _
  generalize hg:ks[i]=g at hget hih hacc
  obtain⟨k',n',t',ks'⟩:=g
  refine⟨_,hget,?_⟩
  refine⟨depth_ent,.inl ⟨_,hih,?_⟩⟩
  exact⟨trivial,i+1,Wk.sub ⟨slotI (wr1 hlt hl),slotI hacc.symm,rfl,trivial⟩ ⟨rfl,trivial⟩,⟨hlt,fun h=>absurd hk h⟩,dec hlt⟩
 ·have h:((k==3)&&decide ((i:Int)<((rows ks).length:Int)))=false:=h
  rw[rows_len] at h
  refine⟨trivial,toEq ?_⟩
  by_cases hk:k=3
  ·have hge:ks.length≤i:=geOf (by simpa [hk] using h)
   have:i=ks.length:=Nat.le_antisymm hi hge
   rw[this,List.take_length]
   simp only[Fm.zd,hk,if_true];rfl
  ·rw[h3 hk]
   simp only[Fm.zd,hk,if_false];rfl
theorem small_ent:Ent Tryz.prog 30:=fun a w=>Tryz.call30 a w
theorem small_spec (f:Fm) (hf:Fit f):PC Tryz.prog 30 [f.enc] (tB (decide (f.zs≤20000)&&decide (f.zd≤100))):=by
 have hs:=size_spec f hf
 have hd:=depth_spec f hf
 generalize f.zs=a at hs ⊢
 generalize f.zd=b at hd ⊢
 obtain⟨k,n,t,ks⟩:=f
 refine PC.of_ok tok Tryz.func30 rfl (Nat.le_of_ble_eq_true rfl) (ev_sound ctx (own:=[]) _ _ _ ?_)
 refine⟨size_ent,.inl ⟨_,hs,?_⟩⟩
 refine⟨depth_ent,_,fun _=>hd,?_⟩
 exact rfl
end
section
def tY (n:Int):TV:=.v (.int .u8 n)
def allB (p:Int→Bool) (s:ByteArray):Bool:=(List.range s.size).all fun i=>p (byteAt s i)
omit [Gm] in
theorem allRange (p:Nat→Bool) (i:Nat):(List.range (i+1)).all p=((List.range i).all p&&p i):=by
 rw[List.range_succ,List.all_append];simp
omit [Gm] in
theorem allB_false {p:Int→Bool} {s:ByteArray} {i:Nat} (hi:i<s.size) (h:p (byteAt s i)=false):allB p s=false:=by
 unfold allB
 rw[List.all_eq_false]
 exact⟨i,by simpa using hi,by simp[h]⟩
omit [Gm] in
theorem noneEmpty (s:ByteArray):(!(s.toList==(⟨#[]⟩:ByteArray).toList))=decide (0<s.size):=by
 rw[ByteArray.toList_eq,ByteArray.toList_eq]
 cases h:s.data.toList with
 | nil =>
  have:s.size=0:=by show s.data.size=0;rw[←Array.length_toList,h];rfl
  simp[this]
 | cons a l =>
  have:s.size=l.length+1:=by show s.data.size=_;rw[←Array.length_toList,h];rfl
  simp[this]
def visB (c:Int):Bool:=((((decide (c≥33)&&decide (c≤126))&&(c != 40))&&(c != 41))&&(c != 34))&&(c != 59)
theorem visible_ent:Ent Tryz.prog 53:=fun a w=>Tryz.call53 a w
theorem visible_spec (c:Int):PC Tryz.prog 53 [tY c] (tB (visB c)):=by
 refine PC.of_ok tok Tryz.func53 rfl (Nat.le_of_ble_eq_true rfl) (ev_sound ctx (own:=[]) _ _ _ ?_)
 exact rfl
def letB (c:Int):Bool:=(decide (c≥97)&&decide (c≤122))||(decide (c≥65)&&decide (c≤90))
theorem letter_ent:Ent Tryz.prog 173:=fun a w=>Tryz.call173 a w
theorem letter_spec (c:Int):PC Tryz.prog 173 [tY c] (tB (letB c)):=by
 refine PC.of_ok tok Tryz.func173 rfl (Nat.le_of_ble_eq_true rfl) (ev_sound ctx (own:=[]) _ _ _ ?_)
 exact rfl
theorem pletter_ent:Ent Tryz.prog 168:=fun a w=>Tryz.call168 a w
theorem pletter_spec (c:Int):PC Tryz.prog 168 [tY c] (tB (letB c)):=by
 refine PC.of_ok tok Tryz.func168 rfl (Nat.le_of_ble_eq_true rfl) (ev_sound ctx (own:=[]) _ _ _ ?_)
 exact rfl
def unsign (s:ByteArray):ByteArray:=if (decide ((s.size:Int)>1)&&(byteAt s 0==45))=true then s.extract (Int.toNat 1) ((s.size:Int).toNat) else s
def digB (c:Int):Bool:=!(decide (c<48)||decide (c>57))
def digits (s:ByteArray):Bool:=allB digB (unsign s)&&decide (0<(unsign s).size)
theorem digits_ent:Ent Tryz.prog 85:=fun a w=>Tryz.call85 a w
omit [Gm] in
theorem unsign_size (s:ByteArray):(unsign s).size≤s.size:=by
 unfold unsign
 split
 ·rw[ByteArray.size_extract];omega
 ·exact Nat.le_refl _
theorem digits_spec (s:ByteArray) (hs:s.size≤140737488355328):PC Tryz.prog 85 [tS s] (tB (digits s)):=by
 refine PC.of_ok tok Tryz.func85 rfl (Nat.le_of_ble_eq_true rfl) (ev_sound ctx (own:=[]) _ _ _ ?_)
 have hu:=unsign_size s
 refine⟨fun h=>?_,?_⟩
 ·have h:=of_decide_eq_true h
  exact⟨Int.le_refl _,by omega⟩
 refine⟨fun h=>⟨⟨by decide,?_,Int.le_refl _⟩,?_⟩,fun h=>?_⟩
 ·have h:(decide ((s.size:Int)>1)&&(byteAt s 0==45))=true:=h
  rw[Bool.and_eq_true] at h
  have h:=of_decide_eq_true h.1
  omega
 ·have hun:s.extract (Int.toNat 1) ((s.size:Int).toNat)=unsign s:=by unfold unsign;rw[if_pos h]
  have hdg:digits s=(allB digB (unsign s)&&decide (0<(unsign s).size)):=rfl
  rw[hdg]
  generalize unsign s=u at hun hu
  refine Ok.loop (st:=fun i:Nat=>⟨[(3,vi i),(0,.t (tS u))],[]⟩) (R:=fun i=>i≤u.size∧(List.range i).all (fun j=>digB (byteAt u j))=true) (μ:=fun i=>u.size-i) 0
   (Wk.sub ⟨rfl,congrArg (fun x=>some (AV.t (tS x))) hun,trivial⟩ trivial) ⟨Nat.zero_le _,rfl⟩ ?_
  rintro i ⟨hi,hall⟩
  have hi:i≤u.size:=hi
  refine ev_sound ctx (own:=[]) _ _ _ ?_
  refine⟨fun h=>?_,fun h=>?_⟩
  ·have hlt:i<u.size:=ltOf h
   have hbd:(0:Int)≤(i:Int)∧(i:Int)<(u.size:Int):=⟨by omega,by omega⟩
   refine⟨hbd,fun _=>hbd,?_⟩
   refine⟨fun h2=>?_,fun h2=>?_⟩
   ·have h2:(decide (byteAt u i<48)||decide (byteAt u i>57))=true:=h2
    refine toEq ?_
    rw[allB_false hlt (by unfold digB;rw[h2];rfl)];rfl
   ·have h2:(decide (byteAt u i<48)||decide (byteAt u i>57))=false:=h2
    have hd:digB (byteAt u i)=true:=by unfold digB;rw[h2];rfl
    exact⟨trivial,i+1,Wk.sub ⟨slotI (wr1 hlt (by simp only[maxLen];omega)),rfl,trivial⟩ trivial,⟨hlt,by rw[allRange,hall,hd];rfl⟩,dec hlt⟩
  ·have hge:u.size≤i:=geOf h
   have:i=u.size:=Nat.le_antisymm hi hge
   subst this
   refine toEq ?_
   have:allB digB u=true:=hall
   rw[this,Bool.true_and,←noneEmpty];rfl
 ·have hun:s=unsign s:=by unfold unsign;rw[if_neg (by rw[show (decide ((s.size:Int)>1)&&(byteAt s 0==45))=false from h];simp)]
  have hdg:digits s=(allB digB (unsign s)&&decide (0<(unsign s).size)):=rfl
  rw[hdg]
  generalize unsign s=u at hun hu
  refine Ok.loop (st:=fun i:Nat=>⟨[(3,vi i),(0,.t (tS u))],[]⟩) (R:=fun i=>i≤u.size∧(List.range i).all (fun j=>digB (byteAt u j))=true) (μ:=fun i=>u.size-i) 0
   (Wk.sub ⟨rfl,congrArg (fun x=>some (AV.t (tS x))) hun,trivial⟩ trivial) ⟨Nat.zero_le _,rfl⟩ ?_
  rintro i ⟨hi,hall⟩
  have hi:i≤u.size:=hi
  refine ev_sound ctx (own:=[]) _ _ _ ?_
  refine⟨fun h=>?_,fun h=>?_⟩
  ·have hlt:i<u.size:=ltOf h
   have hbd:(0:Int)≤(i:Int)∧(i:Int)<(u.size:Int):=⟨by omega,by omega⟩
   refine⟨hbd,fun _=>hbd,?_⟩
   refine⟨fun h2=>?_,fun h2=>?_⟩
   ·have h2:(decide (byteAt u i<48)||decide (byteAt u i>57))=true:=h2
    refine toEq ?_
    rw[allB_false hlt (by unfold digB;rw[h2];rfl)];rfl
   ·have h2:(decide (byteAt u i<48)||decide (byteAt u i>57))=false:=h2
    have hd:digB (byteAt u i)=true:=by unfold digB;rw[h2];rfl
    exact⟨trivial,i+1,Wk.sub ⟨slotI (wr1 hlt (by simp only[maxLen];omega)),rfl,trivial⟩ trivial,⟨hlt,by rw[allRange,hall,hd];rfl⟩,dec hlt⟩
  ·have hge:u.size≤i:=geOf h
   have:i=u.size:=Nat.le_antisymm hi hge
   subst this
   refine toEq ?_
   have:allB digB u=true:=hall
   rw[this,Bool.true_and,←noneEmpty];rfl
def wordB (s:ByteArray):Bool:=allB visB s&&(((decide ((s.size:Int)≥1))&&(decide ((s.size:Int)≤30)))&&!digits s)
theorem isWord_ent:Ent Tryz.prog 171:=fun a w=>Tryz.call171 a w
theorem isWord_spec (s:ByteArray) (hs:s.size≤140737488355328):PC Tryz.prog 171 [tS s] (tB (wordB s)):=by
 refine PC.of_ok tok Tryz.func171 rfl (Nat.le_of_ble_eq_true rfl) (ev_sound ctx (own:=[]) _ _ _ ?_)
 refine Ok.loop (st:=fun i:Nat=>⟨[(3,vi i),(0,.t (tS s))],[]⟩) (R:=fun i=>i≤s.size∧(List.range i).all (fun j=>visB (byteAt s j))=true) (μ:=fun i=>s.size-i) 0
  (Wk.sub ⟨rfl,rfl,trivial⟩ trivial) ⟨Nat.zero_le _,rfl⟩ ?_
 rintro i ⟨hi,hall⟩
 have hi:i≤s.size:=hi
 refine ev_sound ctx (own:=[]) _ _ _ ?_
 refine⟨fun h=>?_,fun h=>?_⟩
 ·have hlt:i<s.size:=ltOf h
  have hbd:(0:Int)≤(i:Int)∧(i:Int)<(s.size:Int):=⟨by omega,by omega⟩
  refine⟨hbd,?_⟩
  refine⟨visible_ent,.inl ⟨_,visible_spec _,?_⟩⟩
  refine⟨fun h2=>?_,fun h2=>?_⟩
  ·have h2:(!visB (byteAt s i))=true:=h2
   refine toEq ?_
   unfold wordB
   rw[allB_false hlt (by simpa using h2)];rfl
  ·have h2:(!visB (byteAt s i))=false:=h2
   have hd:visB (byteAt s i)=true:=by simpa using h2
   exact⟨trivial,i+1,Wk.sub ⟨slotI (wr1 hlt (by simp only[maxLen];omega)),rfl,trivial⟩ trivial,⟨hlt,by rw[allRange,hall,hd];rfl⟩,dec hlt⟩
 ·have hge:s.size≤i:=geOf h
  have:i=s.size:=Nat.le_antisymm hi hge
  subst this
  refine⟨digits_ent,_,fun _=>digits_spec s hs,?_⟩
  refine toEq ?_
  unfold wordB
  have:allB visB s=true:=hall
  rw[this,Bool.true_and];rfl
def badT (c:Int):Bool:=(c != 10)&&(decide (c<32)||decide (c>126))
def textB (s:ByteArray):Bool:=allB (fun c=>!badT c) s&&decide ((s.size:Int)≤2000)
theorem isText_ent:Ent Tryz.prog 172:=fun a w=>Tryz.call172 a w
theorem isText_spec (s:ByteArray) (hs:s.size≤140737488355328):PC Tryz.prog 172 [tS s] (tB (textB s)):=by
 refine PC.of_ok tok Tryz.func172 rfl (Nat.le_of_ble_eq_true rfl) (ev_sound ctx (own:=[]) _ _ _ ?_)
 refine Ok.loop (st:=fun i:Nat=>⟨[(3,vi i),(0,.t (tS s))],[]⟩) (R:=fun i=>i≤s.size∧(List.range i).all (fun j=>!badT (byteAt s j))=true) (μ:=fun i=>s.size-i) 0
  (Wk.sub ⟨rfl,rfl,trivial⟩ trivial) ⟨Nat.zero_le _,rfl⟩ ?_
 rintro i ⟨hi,hall⟩
 have hi:i≤s.size:=hi
 refine ev_sound ctx (own:=[]) _ _ _ ?_
 refine⟨fun h=>?_,fun h=>?_⟩
 ·have hlt:i<s.size:=ltOf h
  have hbd:(0:Int)≤(i:Int)∧(i:Int)<(s.size:Int):=⟨by omega,by omega⟩
  refine⟨hbd,fun _=>hbd,fun _=>hbd,?_⟩
  refine⟨fun h2=>?_,fun h2=>?_⟩
  ·have h2:badT (byteAt s i)=true:=h2
   refine toEq ?_
   unfold textB
   rw[allB_false hlt (by rw[h2];rfl)];rfl
  ·have h2:badT (byteAt s i)=false:=h2
   exact⟨trivial,i+1,Wk.sub ⟨slotI (wr1 hlt (by simp only[maxLen];omega)),rfl,trivial⟩ trivial,⟨hlt,by rw[allRange,hall,h2];rfl⟩,dec hlt⟩
 ·have hge:s.size≤i:=geOf h
  have:i=s.size:=Nat.le_antisymm hi hge
  subst this
  refine toEq ?_
  unfold textB
  have:allB (fun c=>!badT c) s=true:=hall
  rw[this,Bool.true_and];rfl
end
section
def inGo (s row:ByteArray):Nat→Nat→Nat→Bool
 | 0,_,_=>false
 | f+1,i,fr=>if (((i:Int)==(row.size:Int))||(byteAt row i==32))=true then (if ((row.extract fr i).toList==s.toList)=true then true else inGo s row f (i+1) (i+1)) else inGo s row f (i+1) fr
theorem in_ent:Ent Tryz.prog 174:=fun a w=>Tryz.call174 a w
theorem in_spec (s row:ByteArray) (hr:row.size≤1000000):PC Tryz.prog 174 [tS s,tS row] (tB (inGo s row (row.size+1) 0 0)):=by
 refine PC.of_ok tok Tryz.func174 rfl (Nat.le_of_ble_eq_true rfl) (ev_sound ctx (own:=[]) _ _ _ ?_)
 refine Ok.loop (st:=fun x:Nat×Nat=>⟨[(6,vi x.1),(5,vi x.2),(1,.t (tS row)),(0,.t (tS s))],[]⟩) (R:=fun x=>x.1≤row.size+1∧x.2≤x.1∧inGo s row (row.size+1) 0 0=inGo s row (row.size+1-x.1) x.1 x.2) (μ:=fun x=>row.size+1-x.1) (0,0)
  (Wk.sub ⟨rfl,rfl,rfl,rfl,trivial⟩ trivial) ⟨Nat.zero_le _,Nat.le_refl _,rfl⟩ ?_
 rintro⟨i,fr⟩ ⟨hi,hfr,hin⟩
 have hi:i≤row.size+1:=hi
 have hfr:fr≤i:=hfr
 have hin:inGo s row (row.size+1) 0 0=inGo s row (row.size+1-i) i fr:=hin
 generalize inGo s row (row.size+1) 0 0=R at hin ⊢
 refine ev_sound ctx (own:=[]) _ _ _ ?_
 refine⟨fun h=>?_,fun h=>?_⟩
 ·have hle:i≤row.size:=by have:=of_decide_eq_true h;omega
  obtain⟨f,hf⟩:∃ f,row.size+1-i=f+1:=⟨row.size-i,by omega⟩
  have hf':row.size+1-(i+1)=f:=by omega
  rw[hf] at hin
  unfold inGo at hin
  have hstep:IntKind.i64.wrap ((i:Int)+1)=((i+1:Nat):Int):=wr1 (n:=row.size+1) (by omega) (by simp only[maxLen];omega)
  refine⟨fun hG=>⟨by omega,?_⟩,?_⟩
  ·have hG:((i:Int)==(row.size:Int))=false:=hG
   have:¬ (i:Int)=(row.size:Int):=by intro e;rw[e] at hG;simp at hG
   omega
  refine⟨fun h2=>?_,fun h2=>?_⟩
  ·have h2:(((i:Int)==(row.size:Int))||(byteAt row i==32))=true:=h2
   rw[if_pos h2] at hin
   refine⟨⟨by omega,by omega,by omega⟩,?_⟩
   refine⟨fun h3=>?_,fun h3=>?_⟩
   ·have h3:((row.extract fr i).toList==s.toList)=true:=h3
    rw[if_pos h3] at hin
    refine toEq ?_
    rw[hin];rfl
   ·have h3:((row.extract fr i).toList==s.toList)=false:=h3
    rw[if_neg (by rw[h3];simp)] at hin
    exact⟨trivial,trivial,(i+1,i+1),Wk.sub ⟨slotI hstep,slotI hstep,rfl,rfl,trivial⟩ trivial,⟨by show i+1≤_;omega,Nat.le_refl _,by show R=inGo s row (row.size+1-(i+1)) (i+1) (i+1);rw[hf'];exact hin⟩,by show row.size+1-(i+1)<row.size+1-i;omega⟩
  ·have h2:(((i:Int)==(row.size:Int))||(byteAt row i==32))=false:=h2
   rw[if_neg (by rw[h2];simp)] at hin
   exact⟨trivial,(i+1,fr),Wk.sub ⟨slotI hstep,rfl,rfl,rfl,trivial⟩ trivial,⟨by show i+1≤_;omega,by show fr≤i+1;omega,by show R=inGo s row (row.size+1-(i+1)) (i+1) fr;rw[hf'];exact hin⟩,by show row.size+1-(i+1)<row.size+1-i;omega⟩
 ·have hgt:¬ i≤row.size:=by have:=of_decide_eq_false h;omega
  have:i=row.size+1:=by omega
  subst this
  refine toEq ?_
  rw[hin,Nat.sub_self];rfl
def rowN:ByteArray :=
 { data:=(((([43,32,45,32,42,32,100,105,118,32,109,111,100,32,110,101,103,32,60,32,60,61,32,61,32,110,111,116,32,97,110,100,32,111,114,32,61,62].append [32,105,102,102,32,105,102,32,108,101,116,32,112,105,99,107,32,109,97,116,99,104,32,102,110,32,97,112,112,32,111,102,32,99,97,108,108,32]).append ([109,97,107,101,32,105,115,32,103,101,116,32,98,105,116,115,32,98,97,110,100,32,98,111,114,32,98,120,111,114,32,98,97,100,100,32,98,110].append [117,109,32,115,101,113,32,115,101,116,32,98,97,103,32,109,97,112,32,101,109,112,116,121,32,105,109,97,112,32,108,101,110,32,97,116,32,99])).append (([97,116,32,99,117,116,32,112,117,116,32,105,110,32,106,111,105,110,32,109,101,101,116,32,108,101,115,115,32,99,97,114,100,32,99,111,117,110].append [116,32,108,111,111,107,32,107,101,121,115,32,97,108,108,32,115,111,109,101,32,101,118,101,114,121,32,97,110,121,32,102,111,114,97,108,108,32]).append ([101,120,105,115,116,115,32,116,114,105,103,103,101,114,32,111,108,100,32,102,114,101,115,104,32,102,117,101,108,32,112,114,101,102,105,120,32,118].append [97,114,32,115,116,111,114,101,32,110,101,119,32,115,101,110,100,32,99,104,111,111,115,101,32,119,104,105,108,101,32,105,110,118,97,114,105,97]))).append ((([110,116,32,100,101,99,114,101,97,115,101,115,32,109,111,100,105,102,105,101,115,32,99,97,115,101,32,97,115,115,101,114,116,32,98,121,32,97].append [115,115,117,109,101,32,101,120,112,101,99,116,32,108,101,97,118,101,32,108,97,98,101,108,32,101,97,99,104,32,108,101,109,109,97,32,114,101]).append ([113,117,105,114,101,115,32,99,97,108,99,32,114,101,118,101,97,108,32,103,104,111,115,116,32,98,108,111,99,107,32,100,97,116,97,32,99,111].append [100,97,116,97,32,101,113,32,115,117,98,32,116,114,97,105,116,32,99,108,97,115,115,32,102,105,101,108,100,32,102,117,110,99,116,105,111,110])).append (([32,112,114,101,100,105,99,97,116,101,32,116,119,111,115,116,97,116,101,32,108,101,97,115,116,32,103,114,101,97,116,101,115,116,32,116,112,32].append [114,101,97,100,115,32,111,112,97,113,117,101,32,109,101,116,104,111,100,32,101,120,116,101,114,110,32,98,111,100,121,32,101,110,115,117,114,101]).append ([115,32,116,114,117,101,32,102,97,108,115,101,32,110,117,108,108,32,116,104,105,115,32,105,110,116,32,98,111,111,108,32,114,101,115,117,108,116].append [32,102,117,110,32,109,97,121,98,101,32,109,111,100,117,108,101,32,111,112,101,110,32,114,101,102,105,110,101,115,32,97,98,115,116,114,97,99,116])))).toArray }
def reservedB (s:ByteArray):Bool:=inGo s rowN (rowN.size+1) 0 0
def badN (c:Int):Bool:=(!letB c&&(decide (c<48)||decide (c>57)))&&(c != 95)
def nameB (s:ByteArray):Bool:=(!((((s.toList==(⟨#[]⟩:ByteArray).toList)||decide ((s.size:Int)>20))||!letB (byteAt s 0))||reservedB s))&&allB (fun c=>!badN c) s
theorem rIsName_ent:Ent Tryz.prog 117:=fun a w=>Tryz.call117 a w
omit [Gm] in
theorem pos_of_ne {s:ByteArray} (h:(s.toList==(⟨#[]⟩:ByteArray).toList)=false):0<s.size:=by
 have:=noneEmpty s
 rw[h] at this
 exact of_decide_eq_true this.symm
theorem rIsName_spec (s:ByteArray) (hs:s.size≤140737488355328):PC Tryz.prog 117 [tS s] (tB (nameB s)):=by
 refine PC.of_ok tok Tryz.func117 rfl (Nat.le_of_ble_eq_true rfl) (ev_sound ctx (own:=[]) _ _ _ ?_)
 have hin:PC Tryz.prog 174 [tS s,tS rowN] (tB (reservedB s)):=in_spec s rowN (by decide +kernel)
 refine⟨fun hG=>⟨Int.le_refl _,?_⟩,?_⟩
 ·have hG:((s.toList==(⟨#[]⟩:ByteArray).toList)||decide ((s.size:Int)>20))=false:=hG
  rw[Bool.or_eq_false_iff] at hG
  have:=pos_of_ne hG.1
  omega
 refine⟨letter_ent,_,fun _=>letter_spec _,?_⟩
 refine⟨in_ent,tB (reservedB s),fun _=>hin,?_⟩
 refine⟨fun h=>?_,fun h=>?_⟩
 ·have h:((((s.toList==(⟨#[]⟩:ByteArray).toList)||decide ((s.size:Int)>20))||!letB (byteAt s 0))||reservedB s)=true:=h
  refine toEq ?_
  unfold nameB;rw[h];rfl
 ·have h:((((s.toList==(⟨#[]⟩:ByteArray).toList)||decide ((s.size:Int)>20))||!letB (byteAt s 0))||reservedB s)=false:=h
  have hnm:nameB s=allB (fun c=>!badN c) s:=by unfold nameB;rw[h];rfl
  rw[hnm]
  refine Ok.loop (st:=fun i:Nat=>⟨[(3,vi i),(0,.t (tS s))],[]⟩) (R:=fun i=>i≤s.size∧(List.range i).all (fun j=>!badN (byteAt s j))=true) (μ:=fun i=>s.size-i) 0
   (Wk.sub ⟨rfl,rfl,trivial⟩ trivial) ⟨Nat.zero_le _,rfl⟩ ?_
  rintro i ⟨hi,hall⟩
  have hi:i≤s.size:=hi
  refine ev_sound ctx (own:=[]) _ _ _ ?_
  refine⟨fun h=>?_,fun h=>?_⟩
  ·have hlt:i<s.size:=ltOf h
   have hbd:(0:Int)≤(i:Int)∧(i:Int)<(s.size:Int):=⟨by omega,by omega⟩
   refine⟨hbd,?_⟩
   refine⟨letter_ent,.inl ⟨_,letter_spec _,?_⟩⟩
   refine⟨fun _=>hbd,fun _=>hbd,fun _=>hbd,?_⟩
   refine⟨fun h2=>?_,fun h2=>?_⟩
   ·have h2:badN (byteAt s i)=true:=h2
    refine toEq ?_
    rw[allB_false hlt (by rw[h2];rfl)];rfl
   ·have h2:badN (byteAt s i)=false:=h2
    exact⟨trivial,i+1,Wk.sub ⟨slotI (wr1 hlt (by simp only[maxLen];omega)),rfl,trivial⟩ trivial,⟨hlt,by rw[allRange,hall,h2];rfl⟩,dec hlt⟩
  ·have hge:s.size≤i:=geOf h
   have:i=s.size:=Nat.le_antisymm hi hge
   subst this
   refine toEq ?_
   have:allB (fun c=>!badN c) s=true:=hall
   rw[this];rfl
def isNm (f:Fm):Bool:=(f.kind==1)&&nameB f.text
theorem risName_ent:Ent Tryz.prog 78:=fun a w=>Tryz.call78 a w
theorem risName_spec (f:Fm) (hf:Fit f):PC Tryz.prog 78 [f.enc] (tB (isNm f)):=by
 cases hf with
 | @mk k n t ks hl hb ht _ =>
 refine PC.of_ok tok Tryz.func78 rfl (Nat.le_of_ble_eq_true rfl) (ev_sound ctx (own:=[]) _ _ _ ?_)
 refine⟨rIsName_ent,_,fun _=>rIsName_spec t ht,?_⟩
 exact rfl
theorem rnames_ent:Ent Tryz.prog 118:=fun a w=>Tryz.call118 a w
theorem rnames_spec (ks:List Fm) (hl:ks.length≤maxLen) (hf:∀ g∈ks,Fit g):PC Tryz.prog 118 [encs ks] (tB (ks.all isNm)):=by
 refine PC.of_ok tok Tryz.func118 rfl (Nat.le_of_ble_eq_true rfl) (ev_sound ctx (own:=[]) _ _ _ ?_)
 refine Ok.loop (st:=fun i:Nat=>⟨[(3,vi i),(0,.t (encs ks))],[]⟩) (R:=fun i=>i≤ks.length∧(ks.take i).all isNm=true) (μ:=fun i=>ks.length-i) 0
  (Wk.sub ⟨rfl,rfl,trivial⟩ trivial) ⟨Nat.zero_le _,rfl⟩ ?_
 rintro i ⟨hi,hall⟩
 have hi:i≤ks.length:=hi
 refine ev_sound ctx (own:=[]) _ _ _ ?_
 refine⟨fun h=>?_,fun h=>?_⟩
 ·have h:decide ((i:Int)<((rows ks).length:Int))=true:=h
  rw[rows_len] at h
  have hlt:=ltOf h
  have hsp:=risName_spec _ (hf _ (List.getElem_mem hlt))
  have hget:=rows_get hlt
  have hall2:(ks.take (i+1)).all isNm=((ks.take i).all isNm&&isNm ks[i]):=by
   rw[List.take_add_one,List.getElem?_eq_getElem hlt,List.all_append];simp
  have hmem:ks[i]∈ks:=List.getElem_mem hlt
  generalize ks[i]=g at hsp hget hall2 hmem
  have hce:=g.cells_eq
  refine⟨g.cells,hget,?_⟩
  obtain⟨k',n',t',ks'⟩:=g
  refine⟨risName_ent,.inl ⟨_,hsp,?_⟩⟩
  refine⟨fun h2=>?_,fun h2=>?_⟩
  ·have h2:(!isNm (.mk k' n' t' ks'))=true:=h2
   refine toEq ?_
   have:ks.all isNm=false:=List.all_eq_false.2 ⟨_,hmem,by simpa using h2⟩
   rw[this];rfl
  ·have h2:(!isNm (.mk k' n' t' ks'))=false:=h2
   have h2:isNm (.mk k' n' t' ks')=true:=by simpa using h2
   exact⟨trivial,i+1,Wk.sub ⟨slotI (wr1 hlt hl),rfl,trivial⟩ trivial,⟨hlt,by rw[hall2,hall,h2];rfl⟩,dec hlt⟩
 ·have h:decide ((i:Int)<((rows ks).length:Int))=false:=h
  rw[rows_len] at h
  have hge:=geOf h
  have:i=ks.length:=Nat.le_antisymm hi hge
  subst this
  rw[List.take_length] at hall
  refine toEq ?_
  rw[hall];rfl
def notE (t:ByteArray):Bool:=!(t.toList==(⟨#[]⟩:ByteArray).toList)
mutual
def Fm.fl:Fm→Bool
 | .mk k n t ks=>if ((((k != 0)&&(n != 0))||((k != 3)&&decide (((rows ks).length:Int)>0)))||(((k != 1)&&(k != 2))&&notE t))=true then false
  else if (k==0)=true then (decide (n≥-1152921504606846976)&&decide (n≤1152921504606846976))
  else if (k==1)=true then wordB t
  else if (k==2)=true then textB t
  else if (k==3)=true then fls ks else false
def fls:List Fm→Bool
 | []=>true
 | f::r=>f.fl&&fls r
end
omit [Gm] in
theorem fls_all:∀ l:List Fm,fls l=l.all Fm.fl
 | []=>rfl
 | f::r=>by simp[fls,fls_all r]
theorem fields_ent:Ent Tryz.prog 116:=fun a w=>Tryz.call116 a w
theorem fields_spec (f:Fm) (hf:Fit f):PC Tryz.prog 116 [f.enc] (tB f.fl):=by
 induction hf with
 | @mk k n t ks hl hb ht _ ih =>
 have e1:((((k != 0)&&(n != 0))||((k != 3)&&decide (((rows ks).length:Int)>0)))||(((k != 1)&&(k != 2))&&notE t))=true→(Fm.mk k n t ks).fl=false:=fun h=>by unfold Fm.fl;rw[if_pos h]
 have e2:((((k != 0)&&(n != 0))||((k != 3)&&decide (((rows ks).length:Int)>0)))||(((k != 1)&&(k != 2))&&notE t))=false→(Fm.mk k n t ks).fl=(if (k==0)=true then (decide (n≥-1152921504606846976)&&decide (n≤1152921504606846976))
  else if (k==1)=true then wordB t else if (k==2)=true then textB t else if (k==3)=true then ks.all Fm.fl else false):=fun h=>by
  conv=>lhs;unfold Fm.fl
  rw[if_neg (by rw[h];simp),fls_all]
 generalize hR:(Fm.mk k n t ks).fl=R at e1 e2
 refine PC.of_ok tok Tryz.func116 rfl (Nat.le_of_ble_eq_true rfl) (ev_sound ctx (own:=[]) _ _ _ ?_)
 refine⟨fun h=>toEq ?_,fun h=>?_⟩
 ·rw[e1 h];rfl
 have e2:=e2 h
 refine⟨fun h0=>toEq ?_,fun h0=>?_⟩
 ·rw[e2,if_pos h0];rfl
 have f0:¬ (k==0)=true:=by rw[show (k==0)=false from h0];simp
 refine⟨fun h1=>?_,fun h1=>?_⟩
 ·refine⟨isWord_ent,.inl ⟨_,isWord_spec t ht,toEq ?_⟩⟩
  rw[e2,if_neg f0,if_pos h1]
 have f1:¬ (k==1)=true:=by rw[show (k==1)=false from h1];simp
 refine⟨fun h2=>?_,fun h2=>?_⟩
 ·refine⟨isText_ent,.inl ⟨_,isText_spec t ht,toEq ?_⟩⟩
  rw[e2,if_neg f0,if_neg f1,if_pos h2]
 have f2:¬ (k==2)=true:=by rw[show (k==2)=false from h2];simp
 refine⟨fun h3=>?_,fun h3=>toEq ?_⟩
 rotate_left
 ·rw[e2,if_neg f0,if_neg f1,if_neg f2,if_neg (by rw[show (k==3)=false from h3];simp)];rfl
 have e3:R=ks.all Fm.fl:=by rw[e2,if_neg f0,if_neg f1,if_neg f2,if_pos h3]
 clear e1 e2
 refine Ok.loop (st:=fun i:Nat=>⟨[(3,vi i),(1,.ptr 1 0)],[(1,.var [.t (tI k),.t (tI n),.t (tS t),.t (encs ks)])]⟩) (R:=fun i=>i≤ks.length∧(ks.take i).all Fm.fl=true) (μ:=fun i=>ks.length-i) 0
  (Wk.sub ⟨rfl,rfl,trivial⟩ ⟨rfl,trivial⟩) ⟨Nat.zero_le _,rfl⟩ ?_
 rintro i ⟨hi,hall⟩
 have hi:i≤ks.length:=hi
 refine ev_sound ctx (own:=[]) _ _ _ ?_
 refine⟨fun h=>?_,fun h=>?_⟩
 ·have h:decide ((i:Int)<((rows ks).length:Int))=true:=h
  rw[rows_len] at h
  have hlt:=ltOf h
  have hmem:ks[i]∈ks:=List.getElem_mem hlt
  have hsp:=ih _ hmem
  have hget:=rows_get hlt
  have hall2:(ks.take (i+1)).all Fm.fl=((ks.take i).all Fm.fl&&ks[i].fl):=by
   rw[List.take_add_one,List.getElem?_eq_getElem hlt,List.all_append];simp
  generalize ks[i]=g at hsp hget hall2 hmem
  refine⟨g.cells,hget,?_⟩
  obtain⟨k',n',t',ks'⟩:=g
  refine⟨fields_ent,.inl ⟨_,hsp,?_⟩⟩
  refine⟨fun h2=>toEq ?_,fun h2=>?_⟩
  ·have h2:(!(Fm.mk k' n' t' ks').fl)=true:=h2
   have:ks.all Fm.fl=false:=List.all_eq_false.2 ⟨_,hmem,by simpa using h2⟩
   rw[e3,this];rfl
  ·have h2:(!(Fm.mk k' n' t' ks').fl)=false:=h2
   have h2:(Fm.mk k' n' t' ks').fl=true:=by simpa using h2
   exact⟨trivial,i+1,Wk.sub ⟨slotI (wr1 hlt hl),rfl,trivial⟩ ⟨rfl,trivial⟩,⟨hlt,by rw[hall2,hall,h2];rfl⟩,dec hlt⟩
 ·have h:decide ((i:Int)<((rows ks).length:Int))=false:=h
  rw[rows_len] at h
  have hge:=geOf h
  have:i=ks.length:=Nat.le_antisymm hi hge
  subst this
  rw[List.take_length] at hall
  refine toEq ?_
  rw[e3,hall];rfl
def validB (f:Fm):Bool:=f.fl&&(decide (f.zs≤20000)&&decide (f.zd≤100))
theorem rvalid_ent:Ent Tryz.prog 76:=fun a w=>Tryz.call76 a w
theorem rvalid_spec (f:Fm) (hf:Fit f):PC Tryz.prog 76 [f.enc] (tB (validB f)):=by
 have h1:=fields_spec f hf
 have h2:=small_spec f hf
 unfold validB
 generalize f.fl=a at h1 ⊢
 generalize (decide (f.zs≤20000)&&decide (f.zd≤100))=b at h2 ⊢
 obtain⟨k,n,t,ks⟩:=f
 refine PC.of_ok tok Tryz.func76 rfl (Nat.le_of_ble_eq_true rfl) (ev_sound ctx (own:=[]) _ _ _ ?_)
 refine⟨fields_ent,.inl ⟨_,h1,?_⟩⟩
 refine⟨small_ent,_,fun _=>h2,?_⟩
 exact rfl
end
section
def tR (n:Int):TV:=.v (.int .i32 n)
omit [Gm] in
theorem get_byteAt (s:ByteArray) (i:Nat) (hi:i<s.size):((s.get! i).toNat:Int)=byteAt s i:=by
 unfold byteAt
 rw[Int.toNat_natCast]
 have h':i<s.data.size:=hi
 have h2:s.data.toList.getD i 0=s.data[i]:=by
  simp only[List.getD_eq_getElem?_getD,Array.getElem?_toList,Array.getElem?_eq_getElem h',Option.getD_some]
 rw[h2]
 have h3:s.get! i=s.data[i]:=by
  show s.data[i]! = _
  rw[getElem!_pos s.data i h']
 rw[h3]
omit [Gm] in
theorem decode_low (s:ByteArray) (i:Nat) (hi:i<s.size) (h:byteAt s i≤126):Utf8.decode s i=((byteAt s i).toNat,1):=by
 rw[←get_byteAt s i hi] at h ⊢
 unfold Utf8.decode
 simp only[Nat.add_zero]
 rw[if_pos (by omega)]
 simp
omit [Gm] in
theorem decode_high (s:ByteArray) (i:Nat) (hi:i<s.size) (h:126<byteAt s i):126<(Utf8.decode s i).1:=by
 rw[←get_byteAt s i hi] at h
 unfold Utf8.decode
 simp only[Nat.add_zero]
 split
 ·show 126<(s.get! i).toNat;omega
 ·have hre:Utf8.runeError=65533:=rfl
  (repeat' split) <;> simp only[hre] <;> first
   | omega
   | (rename_i hh;simp only[Bool.and_eq_true,decide_eq_true_eq] at hh;omega)
def idxR (p:Int→Bool) (s:ByteArray):Int:=idxI (fun i:Nat=>p (byteAt s i)) (List.range s.size)
omit [Gm] in
theorem idxR_geq (p:Int→Bool) (s:ByteArray):decide (idxR p s≥0)=!allB (fun c=>!p c) s:=by
 unfold idxR allB
 rw[idxI_geq,List.all_eq_not_any_not]
 simp
theorem indexFn_ent:Ent Tryz.prog 254:=fun a w=>Tryz.call254 a w
theorem indexFn_spec (s:ByteArray) (g:FuncId) (p:Int→Bool) (hg:Ent Tryz.prog g) (hp:∀ c,PC Tryz.prog g [tR c] (tB (p c))) (hh:∀ c,126<c→p c=true) :
  PC Tryz.prog 254 [tS s,.fn g [],tB true] (tI (idxR p s)):=by
 refine PC.of_ok tok Tryz.func254 rfl (Nat.le_of_ble_eq_true rfl) (ev_sound ctx (own:=[]) _ _ _ ?_)
 refine Ok.loop (st:=fun i:Nat=>⟨[(10,.ptr 10 0),(2,.t (tB true)),(1,.t (.fn g []))],[(10,.mo (.sit s i))]⟩) (R:=fun i=>i≤s.size∧∀ j,j<i→p (byteAt s j)=false) (μ:=fun i=>s.size-i) 0
  (Wk.sub ⟨rfl,rfl,rfl,trivial⟩ ⟨rfl,trivial⟩) ⟨Nat.zero_le _,fun j h=>absurd h (Nat.not_lt_zero j)⟩ ?_
 rintro i ⟨hi,hno⟩
 have hi:i≤s.size:=hi
 have hlen:(List.range s.size).length=s.size:=List.length_range
 refine ev_sound ctx (own:=[]) _ _ _ ?_
 refine⟨fun hlt=>⟨fun _=>?_,(fun h=>nomatch h)⟩,fun hge=>⟨(fun h=>nomatch h),fun _=>?_⟩⟩
 ·have hlt:i<s.size:=hlt
  refine⟨hg,.inl ⟨_,hp _,?_⟩⟩
  refine⟨fun h2=>toEq ?_,fun h2=>?_⟩
  ·have h2:(p ((Utf8.decode s i).1:Int)==true)=true:=h2
   have h2:p ((Utf8.decode s i).1:Int)=true:=by simpa using h2
   have hb:p (byteAt s i)=true:=by
    by_cases h:byteAt s i≤126
    ·rw[decode_low s i hlt h] at h2
     have h0:0≤byteAt s i:=by unfold byteAt;omega
     have:((byteAt s i).toNat:Int)=byteAt s i:=by omega
     simp only[this] at h2
     exact h2
    ·exact hh _ (by omega)
   have:idxR p s=i:=by
    unfold idxR
    refine idxI_some (by omega) (by simpa using hb) fun j hj hji=>?_
    simpa using hno j hji
   rw[this];rfl
  ·have h2:(p ((Utf8.decode s i).1:Int)==true)=false:=h2
   have h2:p ((Utf8.decode s i).1:Int)=false:=by simpa using h2
   have hle:byteAt s i≤126:=by
    by_cases h:byteAt s i≤126
    ·exact h
    ·have:=decode_high s i hlt (by omega)
     rw[hh _ (by omega)] at h2;cases h2
   have hd:=decode_low s i hlt hle
   have hb:p (byteAt s i)=false:=by
    rw[hd] at h2
    have h0:0≤byteAt s i:=by unfold byteAt;omega
    have:((byteAt s i).toNat:Int)=byteAt s i:=by omega
    simp only[this] at h2
    exact h2
   refine⟨i+1,Wk.sub ⟨rfl,rfl,rfl,trivial⟩ ⟨congrArg (fun x=>some (AO.mo (.sit s x))) (by rw[hd]),trivial⟩,⟨hlt,fun j hj=>?_⟩,dec hlt⟩
   by_cases e:j=i
   ·subst e;exact hb
   ·exact hno j (by omega)
 ·have hge:¬ i<s.size:=hge
  refine toEq ?_
  have:idxR p s=-1:=by
   unfold idxR
   refine idxI_none fun j hj=>?_
   simpa using hno j (by omega)
  rw[this];rfl
theorem indexFunS_ent:Ent Tryz.prog 221:=fun a w=>Tryz.call221 a w
theorem hasFunS_ent:Ent Tryz.prog 167:=fun a w=>Tryz.call167 a w
theorem hasFunS_spec (s:ByteArray) (g:FuncId) (p:Int→Bool) (hg:Ent Tryz.prog g) (hp:∀ c,PC Tryz.prog g [tR c] (tB (p c))) (hh:∀ c,126<c→p c=true) :
  PC Tryz.prog 167 [tS s,.fn g []] (tB (!allB (fun c=>!p c) s)):=by
 have h1:PC Tryz.prog 221 [tS s,.fn g []] (tI (idxR p s)):=by
  refine PC.of_ok tok Tryz.func221 rfl (Nat.le_of_ble_eq_true rfl) (ev_sound ctx (own:=[]) _ _ _ ?_)
  exact⟨indexFn_ent,.inl ⟨_,indexFn_spec s g p hg hp hh,rfl⟩⟩
 refine PC.of_ok tok Tryz.func167 rfl (Nat.le_of_ble_eq_true rfl) (ev_sound ctx (own:=[]) _ _ _ ?_)
 refine⟨indexFunS_ent,.inl ⟨_,h1,toEq ?_⟩⟩
 rw[←idxR_geq];rfl
structure LF:Prop where
 num:∀ s:ByteArray,s.size≤140737488355328→PC Tryz.prog 164 [tS s] (tB (digits s))
 res:∀ s:ByteArray,PC Tryz.prog 169 [tS s] (tB (reservedB s))
 out:∀ c:Int,0≤c→c<256→PC Tryz.prog 165 [tY c] (tB (!visB c))
theorem numeric_ent:Ent Tryz.prog 164:=fun a w=>Tryz.call164 a w
theorem reserved_ent:Ent Tryz.prog 169:=fun a w=>Tryz.call169 a w
theorem outside_ent:Ent Tryz.prog 165:=fun a w=>Tryz.call165 a w
omit [Gm] in
theorem byte_bound (s:ByteArray) (i:Int):0≤byteAt s i∧byteAt s i<256:=by
 unfold byteAt
 have:=(s.data.toList.getD i.toNat 0).toNat_lt
 omega
theorem nameFn_ent:Ent Tryz.prog 170:=fun a w=>Tryz.call170 a w
def badNR (c:Int):Bool:=decide (c>126)||((!letB (IntKind.u8.wrap c)&&(decide (c<48)||decide (c>57)))&&(c != 95))
theorem nameFn_spec (c:Int):PC Tryz.prog 170 [tR c] (tB (badNR c)):=by
 refine PC.of_ok tok Tryz.func170 rfl (Nat.le_of_ble_eq_true rfl) (ev_sound ctx (own:=[]) _ _ _ ?_)
 refine⟨pletter_ent,_,fun _=>pletter_spec _,?_⟩
 exact rfl
omit [Gm] in
theorem badNR_eq {c:Int} (h0:0≤c) (h1:c<256):badNR c=badN c:=by
 unfold badNR badN
 have hw:IntKind.u8.wrap c=c:=by
  unfold IntKind.wrap
  simp[IntKind.bits,IntKind.signed]
  omega
 rw[hw]
 by_cases h:c>126
 ·have hl:letB c=false:=by
   unfold letB
   have a1:decide (c≤122)=false:=by simp;omega
   have a2:decide (c≤90)=false:=by simp;omega
   rw[a1,a2];simp
  have a3:decide (c>57)=true:=by simp;omega
  have a4:(c != 95)=true:=by
   have:¬ c=95:=by omega
   simpa using this
  rw[hl,a3,a4];simp
 ·have:decide (c>126)=false:=by simpa using h
  rw[this,Bool.false_or]
theorem pIsName_ent:Ent Tryz.prog 115:=fun a w=>Tryz.call115 a w
theorem pIsName_spec (L:LF) (s:ByteArray):PC Tryz.prog 115 [tS s] (tB (nameB s)):=by
 have hfn:=hasFunS_spec s 170 badNR nameFn_ent nameFn_spec (fun c hc=>by unfold badNR;rw[show decide (c>126)=true by simpa using hc];rfl)
 have hall:allB (fun c=>!badNR c) s=allB (fun c=>!badN c) s:=by
  unfold allB
  congr 1
  funext i
  have:=byte_bound s i
  simp only[badNR_eq this.1 this.2]
 rw[hall] at hfn
 have e1:((((s.toList==(⟨#[]⟩:ByteArray).toList)||decide ((s.size:Int)>20))||!letB (byteAt s 0))||reservedB s)=true→nameB s=false:=fun h=>by unfold nameB;rw[h];rfl
 have e2:((((s.toList==(⟨#[]⟩:ByteArray).toList)||decide ((s.size:Int)>20))||!letB (byteAt s 0))||reservedB s)=false→nameB s=allB (fun c=>!badN c) s:=fun h=>by unfold nameB;rw[h];rfl
 generalize nameB s=R at e1 e2
 refine PC.of_ok tok Tryz.func115 rfl (Nat.le_of_ble_eq_true rfl) (ev_sound ctx (own:=[]) _ _ _ ?_)
 refine⟨fun hG=>⟨Int.le_refl _,?_⟩,?_⟩
 ·have hG:((s.toList==(⟨#[]⟩:ByteArray).toList)||decide ((s.size:Int)>20))=false:=hG
  rw[Bool.or_eq_false_iff] at hG
  have:=pos_of_ne hG.1
  omega
 refine⟨pletter_ent,_,fun _=>pletter_spec _,?_⟩
 refine⟨reserved_ent,_,fun _=>L.res s,?_⟩
 refine⟨fun h=>toEq ?_,fun h=>?_⟩
 ·rw[e1 h];rfl
 ·refine⟨hasFunS_ent,.inl ⟨_,hfn,toEq ?_⟩⟩
  rw[e2 h];simp;rfl
theorem badT_ent:Ent Tryz.prog 166:=fun a w=>Tryz.call166 a w
theorem badT_spec (c:Int):PC Tryz.prog 166 [tR c] (tB (badT c)):=by
 refine PC.of_ok tok Tryz.func166 rfl (Nat.le_of_ble_eq_true rfl) (ev_sound ctx (own:=[]) _ _ _ ?_)
 exact rfl
def emp (t:ByteArray):Bool:=t.toList==(⟨#[]⟩:ByteArray).toList
def nokids (ks:List Fm):Bool:=((rows ks).length:Int)==0
def wini (t:ByteArray):Bool:=(notE t&&decide ((t.size:Int)≤30))&&!digits t
def leafB (k n:Int) (t:ByteArray) (ks:List Fm):Bool :=
 if (k==0)=true then (((emp t&&nokids ks)&&decide (n≥-1152921504606846976))&&decide (n≤1152921504606846976))
 else if (k==1)=true then (((wini t&&allB visB t)&&(n==0))&&nokids ks)
 else if (k==2)=true then (((decide ((t.size:Int)≤2000)&&!!allB (fun c=>!badT c) t)&&(n==0))&&nokids ks)
 else if (k==3)=true then (emp t&&(n==0)) else false
theorem leaf_ent:Ent Tryz.prog 114:=fun a w=>Tryz.call114 a w
theorem leaf_spec (L:LF) (k n:Int) (t:ByteArray) (ks:List Fm) (ht:t.size≤140737488355328):PC Tryz.prog 114 [(Fm.mk k n t ks).enc] (tB (leafB k n t ks)):=by
 have hfn:=hasFunS_spec t 166 badT badT_ent badT_spec (fun c hc=>by
  unfold badT
  have a1:decide (c>126)=true:=by simpa using hc
  have a2:(c != 10)=true:=by
   have:¬ c=10:=by omega
   simpa using this
  rw[a1,a2];simp)
 have e:leafB k n t ks=leafB k n t ks:=rfl
 conv at e=>rhs;unfold leafB
 generalize leafB k n t ks=R at e
 refine PC.of_ok tok Tryz.func114 rfl (Nat.le_of_ble_eq_true rfl) (ev_sound ctx (own:=[]) _ _ _ ?_)
 refine⟨fun h0=>toEq ?_,fun h0=>?_⟩
 ·rw[e,if_pos h0];rfl
 have f0:¬ (k==0)=true:=by rw[show (k==0)=false from h0];simp
 refine⟨fun h1=>?_,fun h1=>?_⟩
 ·rw[if_neg f0,if_pos h1] at e
  refine⟨numeric_ent,_,fun _=>L.num t ht,?_⟩
  refine Ok.loop (st:=fun x:Nat×Bool=>⟨[(4,vi x.1),(3,vb x.2),(1,.ptr 1 0)],[(1,.var [.t (tI k),.t (tI n),.t (tS t),.t (encs ks)])]⟩)
   (R:=fun x=>x.1≤t.size∧x.2=(wini t&&(List.range x.1).all (fun j=>visB (byteAt t j)))) (μ:=fun x=>t.size-x.1) (0,wini t)
   (Wk.sub ⟨rfl,rfl,rfl,trivial⟩ ⟨rfl,trivial⟩) ⟨Nat.zero_le _,by simp⟩ ?_
  rintro⟨i,b⟩ ⟨hi,hb⟩
  have hi:i≤t.size:=hi
  have hb:b=(wini t&&(List.range i).all (fun j=>visB (byteAt t j))):=hb
  refine ev_sound ctx (own:=[]) _ _ _ ?_
  refine⟨fun h=>?_,fun h=>toEq ?_⟩
  ·have h:(decide ((i:Int)<(t.size:Int))&&b)=true:=h
   rw[Bool.and_eq_true] at h
   have hlt:=ltOf h.1
   have hbd:(0:Int)≤(i:Int)∧(i:Int)<(t.size:Int):=⟨by omega,by omega⟩
   have hby:=byte_bound t i
   refine⟨hbd,?_⟩
   refine⟨outside_ent,.inl ⟨_,L.out _ hby.1 hby.2,?_⟩⟩
   refine⟨trivial,(i+1,!!visB (byteAt t i)),Wk.sub ⟨slotI (wr1 hlt (by simp only[maxLen];omega)),rfl,rfl,trivial⟩ ⟨rfl,trivial⟩,⟨hlt,?_⟩,dec hlt⟩
   have h2:=h.2
   rw[h2,eq_comm,Bool.and_eq_true] at hb
   show (!!visB (byteAt t i))=(wini t&&(List.range (i+1)).all _)
   rw[allRange,hb.1,hb.2];simp
  ·have h:(decide ((i:Int)<(t.size:Int))&&b)=false:=h
   have hbb:b=(wini t&&allB visB t):=by
    rw[Bool.and_eq_false_iff] at h
    rcases h with h | h
    ·have hge:t.size≤i:=geOf h
     have:i=t.size:=Nat.le_antisymm hi hge
     rw[hb,this];rfl
    ·rw[h] at hb ⊢
     cases hw:wini t with
     | false=>rfl
     | true =>
      rw[hw,Bool.true_and] at hb
      rw[Bool.true_and,eq_comm]
      unfold allB
      rw[eq_comm,List.all_eq_false] at hb
      obtain⟨j,hj,hj2⟩:=hb
      rw[List.all_eq_false]
      exact⟨j,by simp at hj ⊢;omega,hj2⟩
   rw[e,←hbb];rfl
 have f1:¬ (k==1)=true:=by rw[show (k==1)=false from h1];simp
 refine⟨fun h2=>?_,fun h2=>?_⟩
 ·rw[if_neg f0,if_neg f1,if_pos h2] at e
  refine⟨hasFunS_ent,_,fun _=>hfn,toEq ?_⟩
  rw[e];rfl
 have f2:¬ (k==2)=true:=by rw[show (k==2)=false from h2];simp
 refine⟨fun h3=>toEq ?_,fun h3=>toEq ?_⟩
 ·rw[e,if_neg f0,if_neg f1,if_neg f2,if_pos h3];rfl
 ·rw[e,if_neg f0,if_neg f1,if_neg f2,if_neg (by rw[show (k==3)=false from h3];simp)];rfl
end
section
def dn (p:Int):Int:=IntKind.i64.wrap (p-1)
mutual
def vl:Fm→Int→Int→Bool×Int
 | .mk k n t ks,p,d=>if ((decide (dn p<0)||(d==0))||!leafB k n t ks)=true then (false,dn p) else vls ks (dn p) (dn d)
def vls:List Fm→Int→Int→Bool×Int
 | [],p,_=>(true,p)
 | f::r,p,d=>match vl f p d with
  | (true,p')=>vls r p' d
  | (false,p')=>(false,p')
end
theorem valid_ent:Ent Tryz.prog 68:=fun a w=>Tryz.call68 a w
def vlR (f:Fm) (p d:Int) (x:SE) (os':List AO):Prop:=x=.ret (tB (vl f p d).1)∧os'=[.var [.t (tI (vl f p d).2)]]
theorem valid_spec (L:LF) (f:Fm) (hf:Fit f):∀ p d:Int,SC Tryz.prog 68 [.var [.t (tI p)]] [.t f.enc,.ptr 1000 0,.t (tI d)] (vlR f p d):=by
 induction hf with
 | @mk k n t ks hl hb ht _ ih =>
 intro p d
 have hleaf:=leaf_spec L k n t ks ht
 have e:vlR (.mk k n t ks) p d=vlR (.mk k n t ks) p d:=rfl
 conv at e=>rhs;unfold vlR vl
 generalize vlR (.mk k n t ks) p d=R at e
 refine SC.of_ok tok Tryz.func68 rfl (Nat.le_of_ble_eq_true rfl) (Nat.le_of_ble_eq_true rfl) (ev_sound ctx (own:=[]) _ _ _ ?_)
 refine⟨trivial,?_⟩
 refine⟨leaf_ent,_,fun _=>hleaf,?_⟩
 refine⟨fun h=>?_,fun h=>?_⟩
 ·have h:((decide (dn p<0)||(d==0))||!leafB k n t ks)=true:=h
  refine⟨[.var [.t (tI (dn p))]],?_,rfl,rfl,rfl,trivial⟩
  rw[e,if_pos h]
  exact⟨rfl,rfl⟩
 ·have h:((decide (dn p<0)||(d==0))||!leafB k n t ks)=false:=h
  rw[if_neg (by rw[h];simp)] at e
  refine Ok.loop (st:=fun x:Nat×Int=>⟨[(30,vi x.1),(29,vi ks.length),(28,.t (encs ks)),(2,.t (tI d)),(1,.ptr 1000 0)],[(1000,.var [.t (tI x.2)])]⟩)
   (R:=fun x=>x.1≤ks.length∧vls ks (dn p) (dn d)=vls (ks.drop x.1) x.2 (dn d)) (μ:=fun x=>ks.length-x.1) (0,dn p)
   (Wk.sub ⟨rfl,slotI (by simp[rows_len]),rfl,rfl,rfl,trivial⟩ ⟨rfl,trivial⟩) ⟨Nat.zero_le _,rfl⟩ ?_
  rintro⟨i,q⟩ ⟨hi,hq⟩
  have hi:i≤ks.length:=hi
  have hq:vls ks (dn p) (dn d)=vls (ks.drop i) q (dn d):=hq
  rw[hq] at e
  refine ev_sound ctx (own:=[]) _ _ _ ?_
  refine⟨fun h=>?_,fun h=>?_⟩
  ·have hlt:i<ks.length:=ltOf h
   have hget:=rows_get hlt
   have hih:=ih _ (List.getElem_mem hlt)
   rw[List.drop_eq_getElem_cons hlt] at e hq
   generalize ks[i]=g at hget hih e hq
   refine⟨g.cells,hget,?_⟩
   obtain⟨k',n',t',ks'⟩:=g
   simp only[vls] at e hq
   refine⟨trivial,?_⟩
   refine⟨valid_ent,.inr (.inr (.inl ⟨[1000],[.var [.t (tI q)]],[.t (Fm.mk k' n' t' ks').enc,.ptr 1000 0,.t (tI (dn d))],_,hih q (dn d),rfl,rfl,⟨rfl,trivial⟩,fun r os' _ hR=>?_,fun r os' _ hR=>?_⟩))⟩
   ·obtain⟨h3,rfl⟩:=hR
    injection h3 with h3
    subst h3
    generalize vl (.mk k' n' t' ks') q (dn d)=z at e hq ⊢
    obtain⟨b,q'⟩:=z
    refine⟨fun h4=>?_,fun h4=>?_⟩
    ·have h4:(!b)=true:=h4
     have h4:b=false:=by simpa using h4
     subst h4
     refine⟨[.var [.t (tI q')]],?_,rfl,rfl,rfl,trivial⟩
     rw[e]
     exact⟨rfl,rfl⟩
    ·have h4:(!b)=false:=h4
     have h4:b=true:=by simpa using h4
     subst h4
     exact⟨trivial,(i+1,q'),Wk.sub ⟨slotI (wr1 hlt hl),rfl,rfl,rfl,rfl,trivial⟩ ⟨rfl,trivial⟩,⟨hlt,hq⟩,dec hlt⟩
   ·cases hR.1
  ·have hge:ks.length≤i:=geOf h
   rw[List.drop_eq_nil_of_le hge] at e
   refine⟨[.var [.t (tI q)]],?_,rfl,rfl,rfl,trivial⟩
   rw[e]
   exact⟨rfl,rfl⟩
def pvalidB (f:Fm):Bool:=(vl f 20000 100).1
theorem pvalid_ent:Ent Tryz.prog 39:=fun a w=>Tryz.call39 a w
theorem pvalid_spec (L:LF) (f:Fm) (hf:Fit f):PC Tryz.prog 39 [f.enc] (tB (pvalidB f)):=by
 have h:=valid_spec L f hf 20000 100
 obtain⟨k,n,t,ks⟩:=f
 refine PC.of_ok tok Tryz.func39 rfl (Nat.le_of_ble_eq_true rfl) (ev_sound ctx (own:=[]) _ _ _ ?_)
 refine⟨valid_ent,.inr (.inr (.inl ⟨[3],[.var [.t (tI 20000)]],[.t (Fm.mk k n t ks).enc,.ptr 1000 0,.t (tI 100)],_,h,rfl,rfl,⟨rfl,trivial⟩,fun r os' _ hR=>?_,fun r os' _ hR=>?_⟩))⟩
 ·obtain⟨h3,rfl⟩:=hR
  injection h3 with h3
 ·cases hR.1
end
section
theorem SC.mono {f:FuncId} {os:List AO} {args:List AV} {R R':SE→List AO→Prop} (hm:∀ x os',R x os'→R' x os') (h:SC Tryz.prog f os args R):SC Tryz.prog f os args R':=by
 intro B0 F0 w m kk us H hF hr
 refine (h B0 F0 w m kk us H hF hr).mono ?_
 rintro e w' ⟨x,os',hR,rest⟩
 exact⟨x,os',hm x os' hR,rest⟩
def orP (r:TV) (A:Prop) (x:SE) (_:List AO):Prop:=(x=.ret r∧A)∨(x=.pan (fault 4)∧¬ A)
theorem orX {f:FuncId} {args:List AV} {r:TV} {A:Prop} {X:TV→Prop} (h:SC Tryz.prog f [] args (orP r A)) (hX:¬ A→X (fault 4)) :
  SC Tryz.prog f [] args (fun x _=>(x=.ret r∧A)∨∃ e,x=.pan e∧e.flat=true∧X e) :=
 SC.mono (fun x os' h=>h.imp id (fun h=>⟨fault 4,h.1,rfl,hX h.2⟩)) h
theorem want_or (b:Bool):SC Tryz.prog 38 [] [.t (tB b)] (orP (.tup []) (b=true)):=by
 refine SC.mono (fun x os' h=>?_) (want_spec b)
 cases b with
 | true=>exact .inl ⟨h,rfl⟩
 | false=>exact .inr ⟨h,by simp⟩
theorem name_ent:Ent Tryz.prog 70:=fun a w=>Tryz.call70 a w
theorem name_spec (L:LF) (f:Fm):SC Tryz.prog 70 [] [.t f.enc] (orP (tS f.text) (isNm f=true)):=by
 obtain⟨k,n,t,ks⟩:=f
 refine SC.of_ok tok Tryz.func70 rfl (Nat.le_of_ble_eq_true rfl) (Nat.le_of_ble_eq_true rfl) (ev_sound ctx (own:=[9999,10038]) _ _ _ ?_)
 refine⟨pIsName_ent,_,fun _=>pIsName_spec L t,?_⟩
 refine⟨want_ent,[],[],[.t (tB (isNm (.mk k n t ks)))],_,want_or _,rfl,rfl,trivial,fun r os' _ h=>?_,fun r os' _ h=>?_⟩
 ·rcases h with⟨_,h⟩ | ⟨h,_⟩
  ·exact⟨[],.inl ⟨rfl,h⟩,rfl,rfl,trivial⟩
  ·cases h
 ·rcases h with⟨h,_⟩ | ⟨h,h2⟩
  ·cases h
  ·injection h with h
   subst h
   exact⟨[],.inr ⟨rfl,h2⟩,rfl,rfl,trivial⟩
def txt (f:Fm):List TV:=[tS f.text]
theorem names_ent:Ent Tryz.prog 72:=fun a w=>Tryz.call72 a w
theorem names_spec (L:LF) (ks:List Fm) (hl:ks.length≤maxLen) (hb:ks.length*56≤140737488355328):SC Tryz.prog 72 [] [.t (encs ks)] (orP (.sl 1 (ks.map txt)) (ks.all isNm=true)):=by
 refine SC.of_ok tok Tryz.func72 rfl (Nat.le_of_ble_eq_true rfl) (Nat.le_of_ble_eq_true rfl) (ev_sound ctx (own:=[9999,10070,16]) _ _ _ ?_)
 refine Ok.loop (st:=fun i:Nat=>⟨[(8,vi i),(7,vi ks.length),(6,.t (encs ks)),(3,.sl 16)],[(16,.row 9 1 ((ks.take i).map txt))]⟩) (R:=fun i=>i≤ks.length∧(ks.take i).all isNm=true) (μ:=fun i=>ks.length-i) 0
  ((Wk.nil 3 16 9 1 (by decide) rfl).trans (Wk.sub ⟨rfl,slotI (by simp[rows_len]),rfl,rfl,trivial⟩ ⟨rfl,trivial⟩)) ⟨Nat.zero_le _,rfl⟩ ?_
 rintro i ⟨hi,hall⟩
 have hi:i≤ks.length:=hi
 refine ev_sound ctx (own:=[9999,10070,16]) _ _ _ ?_
 refine⟨fun h=>?_,fun h=>?_⟩
 ·have hlt:i<ks.length:=ltOf h
  have hget:=rows_get hlt
  have htk:ks.take (i+1)=ks.take i++[ks[i]]:=by rw[List.take_add_one,List.getElem?_eq_getElem hlt];rfl
  have hmem:ks[i]∈ks:=List.getElem_mem hlt
  have hlen:((ks.take i).map txt).length=i:=by simp;omega
  generalize ks[i]=g at hget htk hmem
  refine⟨g.cells,hget,?_⟩
  obtain⟨k',n',t',ks'⟩:=g
  refine⟨name_ent,[],[],[.t (Fm.mk k' n' t' ks').enc],_,name_spec L _,rfl,rfl,trivial,fun r os' _ h=>?_,fun r os' _ h=>?_⟩
  ·rcases h with⟨h,h2⟩ | ⟨h,_⟩
   ·injection h with h
    subst h
    refine⟨?_,?_,trivial,i+1,Wk.sub ⟨slotI (wr1 hlt hl),rfl,rfl,rfl,trivial⟩ ⟨congrArg (fun x=>some (AO.row 9 1 x)) ?_,trivial⟩,⟨hlt,?_⟩,dec hlt⟩
    ·rw[hlen];show (i+1)*16≤_;omega
    ·rw[hlen];simp only[maxLen] at hl ⊢;show i+1≤_;omega
    ·rw[htk,List.map_append];rfl
    ·rw[htk,List.all_append,hall];simp[h2]
   ·cases h
  ·rcases h with⟨h,_⟩ | ⟨h,h2⟩
   ·cases h
   ·injection h with h
    subst h
    refine⟨[],.inr ⟨rfl,fun hh=>h2 ?_⟩,rfl,rfl,trivial⟩
    exact List.all_eq_true.1 hh _ hmem
 ·have hge:ks.length≤i:=geOf h
  have:i=ks.length:=Nat.le_antisymm hi hge
  subst this
  rw[List.take_length] at hall ⊢
  exact⟨[],.inl ⟨rfl,hall⟩,rfl,rfl,trivial⟩
def varK (f:Fm):Bool:=(f.kind==3)&&(((rows f.kids).length:Int)==2)
def varOK (f:Fm):Bool:=varK f&&isNm (f.kids.getD 0 (wd ⟨#[]⟩))
def varT (f:Fm):List TV:=[tS (f.kids.getD 0 (wd ⟨#[]⟩)).text]++(f.kids.getD 1 (wd ⟨#[]⟩)).cells++[.v (.slice none 0 0)]
def varsOK (f:Fm):Bool:=(f.kind==3)&&f.kids.all varOK
def varsT (f:Fm):TV:=.sl 6 (f.kids.map varT)
theorem typed_ent:Ent Tryz.prog 71:=fun a w=>Tryz.call71 a w
theorem typed_spec (L:LF) (f:Fm) (hf:Fit f) (hb2:f.kind=3→f.kids.length≤1000000):SC Tryz.prog 71 [] [.t f.enc] (orP (varsT f) (varsOK f=true)):=by
 cases hf with
 | @mk k n t ks hl hb ht hks =>
 have hb2:k=3→ks.length≤1000000:=hb2
 have hv:varsOK (.mk k n t ks)=((k==3)&&ks.all varOK):=rfl
 have hT:varsT (.mk k n t ks)=.sl 6 (ks.map varT):=rfl
 rw[hv,hT]
 refine SC.of_ok tok Tryz.func71 rfl (Nat.le_of_ble_eq_true rfl) (Nat.le_of_ble_eq_true rfl) (ev_sound ctx (own:=[9999,10038,10070,39]) _ _ _ ?_)
 refine⟨want_ent,[],[],[.t (tB (k==3))],_,want_or _,rfl,rfl,trivial,fun r os' _ h=>?_,fun r os' _ h=>?_⟩
 rotate_left
 ·rcases h with⟨h,_⟩ | ⟨h,h2⟩
  ·cases h
  ·injection h with h
   subst h
   exact⟨[],.inr ⟨rfl,fun hh=>h2 (by rw[Bool.and_eq_true] at hh;exact hh.1)⟩,rfl,rfl,trivial⟩
 rcases h with⟨h,h3⟩ | ⟨h,_⟩
 rotate_left
 ·cases h
 injection h with h
 subst h
 have hb2:ks.length≤1000000:=hb2 (by simpa using h3)
 have hok:∀ A:Prop,(A↔ks.all varOK=true)→(((k==3)&&ks.all varOK)=true↔A):=fun A hA=>by rw[h3,Bool.true_and];exact hA.symm
 have hok:=hok _ Iff.rfl
 refine Ok.loop (st:=fun i:Nat=>⟨[(13,vi i),(12,vi ks.length),(11,.t (encs ks)),(3,.sl 39)],[(39,.row 86 6 ((ks.take i).map varT))]⟩) (R:=fun i=>i≤ks.length∧(ks.take i).all varOK=true) (μ:=fun i=>ks.length-i) 0
  ((Wk.nil 3 39 86 6 (by decide) rfl).trans (Wk.sub ⟨rfl,slotI (by simp[rows_len]),rfl,rfl,trivial⟩ ⟨rfl,trivial⟩)) ⟨Nat.zero_le _,rfl⟩ ?_
 rintro i ⟨hi,hall⟩
 have hi:i≤ks.length:=hi
 refine ev_sound ctx (own:=[9999,10038,10070,39]) _ _ _ ?_
 refine⟨fun h=>?_,fun h=>?_⟩
 ·have hlt:i<ks.length:=ltOf h
  have hget:=rows_get hlt
  have htk:ks.take (i+1)=ks.take i++[ks[i]]:=by rw[List.take_add_one,List.getElem?_eq_getElem hlt];rfl
  have hmem:ks[i]∈ks:=List.getElem_mem hlt
  have hlen:((ks.take i).map varT).length=i:=by simp;omega
  generalize ks[i]=g at hget htk hmem
  have hbad:varOK g=false→¬ ((k==3)&&ks.all varOK)=true:=fun h hh=>by
   have:=List.all_eq_true.1 (hok.1 hh) _ hmem
   rw[h] at this;cases this
  refine⟨g.cells,hget,?_⟩
  obtain⟨k',n',t',ks'⟩:=g
  refine⟨want_ent,[],[],[.t (tB (varK (.mk k' n' t' ks')))],_,want_or _,rfl,rfl,trivial,fun r os' _ h=>?_,fun r os' _ h=>?_⟩
  ·rcases h with⟨h,hvk⟩ | ⟨h,_⟩
   rotate_left
   ·cases h
   injection h with h
   subst h
   have hl2:ks'.length=2:=by
    unfold varK at hvk
    rw[Bool.and_eq_true] at hvk
    have:=hvk.2
    simp only[Fm.kids,rows_len] at this
    have:=eq_of_beq this
    omega
   match ks',hl2 with
   | [a,b],_ =>
   refine⟨a.cells,fun _=>⟨Int.le_refl _,rfl⟩,?_⟩
   obtain⟨ka,na,ta,ksa⟩:=a
   refine⟨name_ent,tS ta,isNm (.mk ka na ta ksa)=true,orX (name_spec L (.mk ka na ta ksa)) (fun hA=>⟨rfl,[],.inr ⟨rfl,hbad ?_⟩,rfl,rfl,trivial⟩),?_⟩
   ·unfold varOK
    have:isNm (.mk ka na ta ksa)=false:=by simpa using hA
    rw[Bool.and_eq_false_iff]
    exact .inr this
   refine⟨b.cells,fun _=>⟨by decide,rfl⟩,?_⟩
   obtain⟨kb,nb,tb,ksb⟩:=b
   intro hA
   refine⟨?_,?_,trivial,i+1,Wk.sub ⟨slotI (wr1 hlt hl),rfl,rfl,rfl,trivial⟩ ⟨congrArg (fun x=>some (AO.row 86 6 x)) ?_,trivial⟩,⟨hlt,?_⟩,dec hlt⟩
   ·rw[hlen];show (i+1)*96≤_;omega
   ·rw[hlen];simp only[maxLen] at hl ⊢;show i+1≤_;omega
   ·rw[htk,List.map_append];rfl
   ·rw[htk,List.all_append,hall]
    have:varOK (.mk k' n' t' [.mk ka na ta ksa,.mk kb nb tb ksb])=true:=by unfold varOK;rw[hvk];exact hA
    simp[this]
  ·rcases h with⟨h,_⟩ | ⟨h,h2⟩
   ·cases h
   ·injection h with h
    subst h
    refine⟨[],.inr ⟨rfl,hbad ?_⟩,rfl,rfl,trivial⟩
    unfold varOK
    have:varK (.mk k' n' t' ks')=false:=by simpa using h2
    rw[this];rfl
 ·have hge:ks.length≤i:=geOf h
  have:i=ks.length:=Nat.le_antisymm hi hge
  subst this
  rw[List.take_length] at hall
  refine⟨[],.inl ⟨?_,hok.2 hall⟩,rfl,rfl,trivial⟩
  rw[List.take_length]
end
section
def sInv:ByteArray:=⟨#[105,110,118]⟩
def sAssign:ByteArray:=⟨#[97,115,115,105,103,110]⟩
def sHavoc:ByteArray:=⟨#[104,97,118,111,99]⟩
def sAssume:ByteArray:=⟨#[97,115,115,117,109,101]⟩
def sAssert:ByteArray:=⟨#[97,115,115,101,114,116]⟩
def sInvoke:ByteArray:=⟨#[105,110,118,111,107,101]⟩
def sGoto:ByteArray:=⟨#[103,111,116,111]⟩
def sReturn:ByteArray:=⟨#[114,101,116,117,114,110]⟩
def sProc:ByteArray:=⟨#[112,114,111,99]⟩
def sBlock:ByteArray:=⟨#[98,108,111,99,107]⟩
def sRequires:ByteArray:=⟨#[114,101,113,117,105,114,101,115]⟩
def sEnsures:ByteArray:=⟨#[101,110,115,117,114,101,115]⟩
def sModifies:ByteArray:=⟨#[109,111,100,105,102,105,101,115]⟩
def sLocal:ByteArray:=⟨#[108,111,99,97,108]⟩
def hEq (f:Fm) (s:ByteArray):Bool:=(headOf f).toList==s.toList
def w0:Fm:=wd ⟨#[]⟩
def lenIs (ks:List Fm) (n:Int):Bool:=((rows ks).length:Int)==n
def lenGe (ks:List Fm) (n:Int):Bool:=decide (((rows ks).length:Int)≥n)
def cmdOK (c:Fm):Bool :=
 if hEq c sAssign=true then lenIs c.kids 3&&isNm (c.kids.getD 1 w0)
 else if hEq c sHavoc=true then (c.kids.drop 1).all isNm
 else if hEq c sAssume=true then lenIs c.kids 2
 else if hEq c sAssert=true then lenIs c.kids 3&&isNm (c.kids.getD 1 w0)
 else if hEq c sInv=true then lenIs c.kids 3&&isNm (c.kids.getD 1 w0)
 else if hEq c sInvoke=true then ((lenGe c.kids 3&&((c.kids.getD 1 w0).kind==3))&&(c.kids.getD 1 w0).kids.all isNm)&&isNm (c.kids.getD 2 w0)
 else false
def cmdsOK:Bool→List Fm→Bool
 | _,[]=>true
 | fr,c::r=>((!hEq c sInv||fr)&&cmdOK c)&&cmdsOK (fr&&hEq c sInv) r
def endOK (f:Fm):Bool :=
 if hEq f sGoto=true then lenGe f.kids 2&&(f.kids.drop 1).all isNm
 else if hEq f sReturn=true then lenIs f.kids 1 else false
def blockOK (cmds:List Fm) (fin:Fm):Bool:=cmdsOK true cmds&&endOK fin
theorem orP_ret {r x:TV} {A:Prop} {os:List AO} (h:orP r A (.ret x) os):x=r∧A:=by
 rcases h with⟨h,ha⟩ | ⟨h,_⟩
 ·injection h with h;exact⟨h,ha⟩
 ·cases h
theorem orP_pan {r x:TV} {A:Prop} {os:List AO} (h:orP r A (.pan x) os):x=fault 4∧¬ A:=by
 rcases h with⟨h,_⟩ | ⟨h,ha⟩
 ·cases h
 ·injection h with h;exact⟨h,ha⟩
omit [Gm] in
theorem head_kids {f:Fm} {s:ByteArray} (hs:0<s.size) (h:hEq f s=true):f.kind=3∧∃ g r,f.kids=g::r:=by
 unfold hEq at h
 have h:(headOf f).toList=s.toList:=by simpa using h
 have hne:s.toList≠[]:=by
  intro e
  rw[ByteArray.toList_eq] at e
  have:s.data.size=0:=by rw[←Array.length_toList,e];rfl
  have:s.size=0:=this
  omega
 unfold headOf kidsOf at h
 by_cases h3:f.kind=3
 ·refine⟨h3,?_⟩
  rw[if_pos h3] at h
  cases hk:f.kids with
  | nil=>rw[hk] at h;exact absurd h.symm (by simpa using hne)
  | cons g r=>exact⟨g,r,rfl⟩
 ·rw[if_neg h3] at h
  exact absurd h.symm (by simpa using hne)
omit [Gm] in
theorem rows_drop (n:Nat) (ks:List Fm):(rows ks).drop n=rows (ks.drop n):=by rw[rows_map,rows_map,List.map_drop]
omit [Gm] in
theorem rows_take (n:Nat) (ks:List Fm):(rows ks).take n=rows (ks.take n):=by rw[rows_map,rows_map,List.map_take]
omit [Gm] in
theorem lenIs_eq {ks:List Fm} {n:Nat} (h:lenIs ks (n:Int)=true):ks.length=n:=by
 unfold lenIs at h
 rw[rows_len] at h
 have:=eq_of_beq h
 omega
omit [Gm] in
theorem lenGe_le {ks:List Fm} {n:Nat} (h:lenGe ks (n:Int)=true):n≤ks.length:=by
 unfold lenGe at h
 rw[rows_len] at h
 have:=of_decide_eq_true h
 omega
omit [Gm] in
theorem rows_at {ks:List Fm} {n:Nat} (h:n<ks.length):(0:Int)≤(n:Int)∧(rows ks)[((n:Nat):Int).toNat]?=some (ks.getD n w0).cells:=by
 refine⟨Int.natCast_nonneg n,?_⟩
 rw[(rows_get h).2]
 simp[List.getD,List.getElem?_eq_getElem h]
theorem names_drop (L:LF) (ks:List Fm) (hl:ks.length≤maxLen) (hb:ks.length*56≤140737488355328) (n:Nat):SC Tryz.prog 72 [] [.t (.sl 4 ((rows ks).drop n))] (orP (.sl 1 ((ks.drop n).map txt)) ((ks.drop n).all isNm=true)):=by
 rw[rows_drop]
 have:=List.length_drop (i:=n) (l:=ks)
 exact names_spec L (ks.drop n) (by omega) (by omega)
def cellsX (c:Fm):List TV:=[tI c.kind,tI c.num,tS c.text,encs c.kids]
omit [Gm] in
theorem cellsX_eq (c:Fm):c.cells=cellsX c:=by cases c;rfl
theorem name_specX (L:LF) (c:Fm):SC Tryz.prog 70 [] [.t (.agg (cellsX c))] (orP (tS c.text) (isNm c=true)):=by rw[←cellsX_eq];exact name_spec L c
omit [Gm] in
theorem rows_atX {ks:List Fm} {n:Nat} (h:n<ks.length):(0:Int)≤(n:Int)∧(rows ks)[((n:Nat):Int).toNat]?=some (cellsX (ks.getD n w0)):=by rw[←cellsX_eq];exact rows_at h
theorem readBlock_ent:Ent Tryz.prog 73:=fun a w=>Tryz.call73 a w
theorem readBlock_spec (L:LF) (nm:ByteArray) (cmds:List Fm) (fin:Fm) (hl:cmds.length≤maxLen) (hfit:∀ g∈cmds,Fit g) (hfin:Fit fin) :
  SC Tryz.prog 73 [] [.t (.agg (tS nm::encs cmds::fin.cells))] (orP (.tup []) (blockOK cmds fin=true)):=by
 have hfinE:fin.cells=[.v (.int .i64 fin.kind),.v (.int .i64 fin.num),.v (.string fin.text),encs fin.kids]:=fin.cells_eq
 have hbk:blockOK cmds fin=(cmdsOK true cmds&&endOK fin):=rfl
 generalize hB:blockOK cmds fin=B at hbk
 have hhd:=head_spec fin
 have hend:endOK fin=endOK fin:=rfl
 conv at hend=>rhs;unfold endOK
 have hfk:hEq fin=hEq fin:=rfl
 cases hfin with
 | @mk kf nf tf ksf hlf hbf htf hksf =>
 refine SC.of_ok tok Tryz.func73 rfl (Nat.le_of_ble_eq_true rfl) (Nat.le_of_ble_eq_true rfl) (ev_sound ctx (own:=[9999,10038,10070,10072]) _ _ _ ?_)
 refine Ok.loop (st:=fun x:Nat×Bool=>⟨[(10,vi x.1),(9,vi cmds.length),(8,.t (encs cmds)),(2,vb x.2),(1,.ptr 1 0)],[(1,.var [.t (tS nm),.t (encs cmds),.t (tI kf),.t (tI nf),.t (tS tf),.t (encs ksf)])]⟩)
  (R:=fun x=>x.1≤cmds.length∧cmdsOK true cmds=cmdsOK x.2 (cmds.drop x.1)) (μ:=fun x=>cmds.length-x.1) (0,true) (Wk.sub ⟨rfl,slotI (by simp[rows_len]),rfl,rfl,rfl,trivial⟩ ⟨rfl,trivial⟩) ⟨Nat.zero_le _,rfl⟩ ?_
 rintro⟨i,fr⟩ ⟨hi,hR⟩
 have hi:i≤cmds.length:=hi
 have hR:cmdsOK true cmds=cmdsOK fr (cmds.drop i):=hR
 refine ev_sound ctx (own:=[9999,10038,10070,10072]) _ _ _ ?_
 refine⟨fun h=>?_,fun h=>?_⟩
 ·have hlt:i<cmds.length:=ltOf h
  have hget:=rows_get hlt
  have hmem:cmds[i]∈cmds:=List.getElem_mem hlt
  have hfg:=hfit _ hmem
  rw[List.drop_eq_getElem_cons hlt] at hR
  generalize cmds[i]=g at hget hmem hR hfg
  have hhg:=head_spec g
  have hR2:cmdsOK fr (g::cmds.drop (i+1))=(((!hEq g sInv||fr)&&cmdOK g)&&cmdsOK (fr&&hEq g sInv) (cmds.drop (i+1))):=rfl
  rw[hR2] at hR
  have hbad:((!hEq g sInv||fr)&&cmdOK g)=false→¬ B=true:=fun h hh=>by
   rw[hbk,hR,h] at hh;simp at hh
  have hcm:cmdOK g=cmdOK g:=rfl
  conv at hcm=>rhs;unfold cmdOK
  have hkids:∀ s:ByteArray,0<s.size→hEq g s=true→1≤g.kids.length:=fun s hs h=>by
   obtain⟨a,r,e⟩:=(head_kids hs h).2
   rw[e];simp
  have hE:∀ s,hEq g s=((headOf g).toList==s.toList):=fun _=>rfl
  generalize hEq g=H at hR hbad hcm hkids hE
  generalize headOf g=hd at hhg hE
  generalize hC:cmdOK g=C at hR hbad hcm
  cases hfg with
  | @mk k' n' t' ks' hl' hb' ht' hks' =>
  refine⟨_,hget,?_⟩
  refine⟨head_ent,.inl ⟨_,hhg,?_⟩⟩
  refine⟨want_ent,[],[],[.t (tB (!(hd.toList==sInv.toList)||fr))],_,want_or _,rfl,rfl,trivial,fun r os' _ hv=>?_,fun r os' _ hv=>?_⟩
  rotate_left
  ·have hr:=(orP_pan hv).1;have hw:=(orP_pan hv).2
   exact⟨[],.inr ⟨congrArg SE.pan hr,hbad (by rw[hE,show (!(hd.toList==sInv.toList)||fr)=false from Bool.eq_false_iff.2 hw];rfl)⟩,rfl,rfl,trivial⟩
  have hw:=(orP_ret hv).2
  have hnext:∀ fr',fr'=(fr&&(hd.toList==sInv.toList))→C=true→cmdsOK true cmds=cmdsOK fr' (cmds.drop (i+1)):=fun fr' e hc=>by
   rw[hR,hc,hE,hw,e];rfl
  have hbadC:C=false→¬ B=true:=fun h=>hbad (by rw[h];simp)
  have fin:∀ {Q:Prop},True:=trivial
  refine⟨fun h1=>?_,fun h1=>?_⟩
  ·have h1:H sAssign=true:=by rw[hE];exact h1
   rw[if_pos h1] at hcm
   refine⟨want_ent,[],[],[.t (tB (lenIs ks' 3))],_,want_or _,rfl,rfl,trivial,fun r os' _ hv=>?_,fun r os' _ hv=>?_⟩
   rotate_left
   ·have hr:=(orP_pan hv).1;have hw:=(orP_pan hv).2
    exact⟨[],.inr ⟨congrArg SE.pan hr,hbadC (by rw[hcm,show lenIs (Fm.mk k' n' t' ks').kids 3=false from Bool.eq_false_iff.2 hw];rfl)⟩,rfl,rfl,trivial⟩
   have hw3:=(orP_ret hv).2
   have h3l:ks'.length=3:=lenIs_eq (n:=3) hw3
   have hget1:(0:Int)≤1∧(rows ks')[Int.toNat 1]?=some (cellsX (ks'.getD 1 w0)):=rows_atX (n:=1) (by omega)
   have hcm:C=(lenIs ks' 3&&isNm (ks'.getD 1 w0)):=hcm
   refine⟨cellsX (ks'.getD 1 w0),hget1,?_⟩
   refine⟨name_ent,[],[],[.t (.agg (cellsX (ks'.getD 1 w0)))],_,name_specX L (ks'.getD 1 w0),rfl,rfl,trivial,fun r os' _ hv=>?_,fun r os' _ hv=>?_⟩
   ·have hw:=(orP_ret hv).2
    exact⟨trivial,(i+1,_),Wk.sub ⟨slotI (wr1 hlt hl),rfl,rfl,rfl,rfl,trivial⟩ ⟨rfl,trivial⟩,⟨hlt,hnext _ rfl (by rw[hcm,hw3,hw];rfl)⟩,dec hlt⟩
   ·have hr:=(orP_pan hv).1;have hw:=(orP_pan hv).2
    exact⟨[],.inr ⟨congrArg SE.pan hr,hbadC (by rw[hcm,show isNm (ks'.getD 1 w0)=false from Bool.eq_false_iff.2 hw];simp)⟩,rfl,rfl,trivial⟩
  have f1:¬ H sAssign=true:=by rw[hE,show (hd.toList==sAssign.toList)=false from h1];simp
  rw[if_neg f1] at hcm
  refine⟨fun h2=>?_,fun h2=>?_⟩
  ·have h2:H sHavoc=true:=by rw[hE];exact h2
   rw[if_pos h2] at hcm
   have hkk:1≤ks'.length:=hkids sHavoc (by decide) h2
   refine⟨⟨by decide,by rw[rows_len];omega,Int.le_refl _⟩,?_⟩
   have htk:((rows ks').take ((rows ks').length:Int).toNat).drop (Int.toNat 1)=(rows ks').drop 1:=by rw[Int.toNat_natCast,List.take_length];rfl
   have hsp:=names_drop L ks' hl' hb' 1
   rw[←htk] at hsp
   refine⟨names_ent,[],[],[.t (.sl 4 (((rows ks').take ((rows ks').length:Int).toNat).drop (Int.toNat 1)))],_,hsp,rfl,rfl,trivial,fun r os' _ hv=>?_,fun r os' _ hv=>?_⟩
   ·have hw:=(orP_ret hv).2
    exact⟨trivial,(i+1,_),Wk.sub ⟨slotI (wr1 hlt hl),rfl,rfl,rfl,rfl,trivial⟩ ⟨rfl,trivial⟩,⟨hlt,hnext _ rfl (by rw[hcm];exact hw)⟩,dec hlt⟩
   ·have hr:=(orP_pan hv).1;have hw:=(orP_pan hv).2
    exact⟨[],.inr ⟨congrArg SE.pan hr,hbadC (by rw[hcm];exact Bool.eq_false_iff.2 hw)⟩,rfl,rfl,trivial⟩
  have f2:¬ H sHavoc=true:=by rw[hE,show (hd.toList==sHavoc.toList)=false from h2];simp
  rw[if_neg f2] at hcm
  refine⟨fun h3=>?_,fun h3=>?_⟩
  ·have h3:H sAssume=true:=by rw[hE];exact h3
   rw[if_pos h3] at hcm
   refine⟨want_ent,[],[],[.t (tB (lenIs ks' 2))],_,want_or _,rfl,rfl,trivial,fun r os' _ hv=>?_,fun r os' _ hv=>?_⟩
   ·have hw:=(orP_ret hv).2
    exact⟨trivial,(i+1,_),Wk.sub ⟨slotI (wr1 hlt hl),rfl,rfl,rfl,rfl,trivial⟩ ⟨rfl,trivial⟩,⟨hlt,hnext _ rfl (by rw[hcm];exact hw)⟩,dec hlt⟩
   ·have hr:=(orP_pan hv).1;have hw:=(orP_pan hv).2
    exact⟨[],.inr ⟨congrArg SE.pan hr,hbadC (by rw[hcm];exact Bool.eq_false_iff.2 hw)⟩,rfl,rfl,trivial⟩
  have f3:¬ H sAssume=true:=by rw[hE,show (hd.toList==sAssume.toList)=false from h3];simp
  rw[if_neg f3] at hcm
  refine⟨fun h4=>?_,fun h4=>?_⟩
  ·refine⟨fun _=>?_,fun h=>?_⟩
   rotate_left
   ·have h:(hd.toList==sAssert.toList)=false:=h
    have h4:(hd.toList==sAssert.toList)=true:=h4
    exact Bool.noConfusion (h4.symm.trans h)
   have h4:H sAssert=true:=by rw[hE];exact h4
   rw[if_pos h4] at hcm
   refine⟨want_ent,[],[],[.t (tB (lenIs ks' 3))],_,want_or _,rfl,rfl,trivial,fun r os' _ hv=>?_,fun r os' _ hv=>?_⟩
   rotate_left
   ·have hr:=(orP_pan hv).1;have hw:=(orP_pan hv).2
    exact⟨[],.inr ⟨congrArg SE.pan hr,hbadC (by rw[hcm,show lenIs (Fm.mk k' n' t' ks').kids 3=false from Bool.eq_false_iff.2 hw];rfl)⟩,rfl,rfl,trivial⟩
   have hw3:=(orP_ret hv).2
   have h3l:ks'.length=3:=lenIs_eq (n:=3) hw3
   have hget1:(0:Int)≤1∧(rows ks')[Int.toNat 1]?=some (cellsX (ks'.getD 1 w0)):=rows_atX (n:=1) (by omega)
   have hcm:C=(lenIs ks' 3&&isNm (ks'.getD 1 w0)):=hcm
   refine⟨cellsX (ks'.getD 1 w0),hget1,?_⟩
   refine⟨name_ent,[],[],[.t (.agg (cellsX (ks'.getD 1 w0)))],_,name_specX L (ks'.getD 1 w0),rfl,rfl,trivial,fun r os' _ hv=>?_,fun r os' _ hv=>?_⟩
   ·have hw:=(orP_ret hv).2
    exact⟨trivial,(i+1,_),Wk.sub ⟨slotI (wr1 hlt hl),rfl,rfl,rfl,rfl,trivial⟩ ⟨rfl,trivial⟩,⟨hlt,hnext _ rfl (by rw[hcm,hw3,hw];rfl)⟩,dec hlt⟩
   ·have hr:=(orP_pan hv).1;have hw:=(orP_pan hv).2
    exact⟨[],.inr ⟨congrArg SE.pan hr,hbadC (by rw[hcm,show isNm (ks'.getD 1 w0)=false from Bool.eq_false_iff.2 hw];simp)⟩,rfl,rfl,trivial⟩
  have f4:¬ H sAssert=true:=by rw[hE,show (hd.toList==sAssert.toList)=false from h4];simp
  rw[if_neg f4] at hcm
  refine⟨fun h5=>?_,fun h5=>?_⟩
  ·have h5:H sInv=true:=by rw[hE];exact h5
   rw[if_pos h5] at hcm
   refine⟨want_ent,[],[],[.t (tB (lenIs ks' 3))],_,want_or _,rfl,rfl,trivial,fun r os' _ hv=>?_,fun r os' _ hv=>?_⟩
   rotate_left
   ·have hr:=(orP_pan hv).1;have hw:=(orP_pan hv).2
    exact⟨[],.inr ⟨congrArg SE.pan hr,hbadC (by rw[hcm,show lenIs (Fm.mk k' n' t' ks').kids 3=false from Bool.eq_false_iff.2 hw];rfl)⟩,rfl,rfl,trivial⟩
   have hw3:=(orP_ret hv).2
   have h3l:ks'.length=3:=lenIs_eq (n:=3) hw3
   have hget1:(0:Int)≤1∧(rows ks')[Int.toNat 1]?=some (cellsX (ks'.getD 1 w0)):=rows_atX (n:=1) (by omega)
   have hcm:C=(lenIs ks' 3&&isNm (ks'.getD 1 w0)):=hcm
   refine⟨cellsX (ks'.getD 1 w0),hget1,?_⟩
   refine⟨name_ent,[],[],[.t (.agg (cellsX (ks'.getD 1 w0)))],_,name_specX L (ks'.getD 1 w0),rfl,rfl,trivial,fun r os' _ hv=>?_,fun r os' _ hv=>?_⟩
   ·have hw:=(orP_ret hv).2
    exact⟨trivial,(i+1,_),Wk.sub ⟨slotI (wr1 hlt hl),rfl,rfl,rfl,rfl,trivial⟩ ⟨rfl,trivial⟩,⟨hlt,hnext _ rfl (by rw[hcm,hw3,hw];rfl)⟩,dec hlt⟩
   ·have hr:=(orP_pan hv).1;have hw:=(orP_pan hv).2
    exact⟨[],.inr ⟨congrArg SE.pan hr,hbadC (by rw[hcm,show isNm (ks'.getD 1 w0)=false from Bool.eq_false_iff.2 hw];simp)⟩,rfl,rfl,trivial⟩
  have f5:¬ H sInv=true:=by rw[hE,show (hd.toList==sInv.toList)=false from h5];simp
  rw[if_neg f5] at hcm
  refine⟨fun h6=>?_,fun h6=>?_⟩
  ·have h6:H sInvoke=true:=by rw[hE];exact h6
   rw[if_pos h6] at hcm
   have hat:∀ n,n<ks'.length→(0:Int)≤(n:Int)∧(rows ks')[((n:Nat):Int).toNat]?=some (cellsX (ks'.getD n w0)):=fun n h=>rows_atX h
   have hk1:(ks'.getD 1 w0).cells=[.v (.int .i64 (ks'.getD 1 w0).kind),.v (.int .i64 (ks'.getD 1 w0).num),.v (.string (ks'.getD 1 w0).text),encs (ks'.getD 1 w0).kids]:=Fm.cells_eq _
   have hk2:(ks'.getD 2 w0).cells=[.v (.int .i64 (ks'.getD 2 w0).kind),.v (.int .i64 (ks'.getD 2 w0).num),.v (.string (ks'.getD 2 w0).text),encs (ks'.getD 2 w0).kids]:=Fm.cells_eq _
   have hfit1:1<ks'.length→Fit (ks'.getD 1 w0):=fun h=>by simp only[List.getD,List.getElem?_eq_getElem h,Option.getD_some];exact hks' _ (List.getElem_mem h)
   have hcm:C=(((lenGe ks' 3&&((ks'.getD 1 w0).kind==3))&&(ks'.getD 1 w0).kids.all isNm)&&isNm (ks'.getD 2 w0)):=hcm
   have hget1:lenGe ks' 3=true→(0:Int)≤1∧(rows ks')[Int.toNat 1]?=some (cellsX (ks'.getD 1 w0)):=fun h=>hat 1 (by have:=lenGe_le (n:=3) h;omega)
   have hget2:lenGe ks' 3=true→(0:Int)≤2∧(rows ks')[Int.toNat 2]?=some (cellsX (ks'.getD 2 w0)):=fun h=>hat 2 (by have:=lenGe_le (n:=3) h;omega)
   refine⟨cellsX (ks'.getD 1 w0),fun hG=>hget1 hG,?_⟩
   refine⟨want_ent,[],[],[.t (tB (lenGe ks' 3&&((ks'.getD 1 w0).kind==3)))],_,want_or _,rfl,rfl,trivial,fun r os' _ hv=>?_,fun r os' _ hv=>?_⟩
   rotate_left
   ·have hr:=(orP_pan hv).1;have hw:=(orP_pan hv).2
    exact⟨[],.inr ⟨congrArg SE.pan hr,hbadC (by rw[hcm,show (lenGe ks' 3&&((ks'.getD 1 w0).kind==3))=false from Bool.eq_false_iff.2 hw];rfl)⟩,rfl,rfl,trivial⟩
   have hw7:=(orP_ret hv).2
   have hg3:lenGe ks' 3=true:=by rw[Bool.and_eq_true] at hw7;exact hw7.1
   refine⟨cellsX (ks'.getD 1 w0),hget1 hg3,?_⟩
   have hsp:SC Tryz.prog 72 [] [.t (encs (ks'.getD 1 w0).kids)] (orP (.sl 1 ((ks'.getD 1 w0).kids.map txt)) ((ks'.getD 1 w0).kids.all isNm=true)):=by
    have:=hfit1 (by have:=lenGe_le (n:=3) hg3;omega)
    generalize ks'.getD 1 w0=q at this
    cases this with
    | mk h1 h2 _ _=>exact names_spec L _ h1 h2
   refine⟨names_ent,[],[],[.t (encs (ks'.getD 1 w0).kids)],_,hsp,rfl,rfl,trivial,fun r os' _ hv=>?_,fun r os' _ hv=>?_⟩
   rotate_left
   ·have hr:=(orP_pan hv).1;have hw:=(orP_pan hv).2
    exact⟨[],.inr ⟨congrArg SE.pan hr,hbadC (by rw[hcm,show (ks'.getD 1 w0).kids.all isNm=false from Bool.eq_false_iff.2 hw];simp)⟩,rfl,rfl,trivial⟩
   have hw8:=(orP_ret hv).2
   refine⟨cellsX (ks'.getD 2 w0),hget2 hg3,?_⟩
   refine⟨name_ent,[],[],[.t (.agg (cellsX (ks'.getD 2 w0)))],_,name_specX L (ks'.getD 2 w0),rfl,rfl,trivial,fun r os' _ hv=>?_,fun r os' _ hv=>?_⟩
   ·have hw:=(orP_ret hv).2
    exact⟨trivial,(i+1,_),Wk.sub ⟨slotI (wr1 hlt hl),rfl,rfl,rfl,rfl,trivial⟩ ⟨rfl,trivial⟩,⟨hlt,hnext _ rfl (by rw[hcm,show (lenGe ks' 3&&((ks'.getD 1 w0).kind==3))=true from hw7,show (ks'.getD 1 w0).kids.all isNm=true from hw8,hw];rfl)⟩,dec hlt⟩
   ·have hr:=(orP_pan hv).1;have hw:=(orP_pan hv).2
    exact⟨[],.inr ⟨congrArg SE.pan hr,hbadC (by rw[hcm,show isNm (ks'.getD 2 w0)=false from Bool.eq_false_iff.2 hw];simp)⟩,rfl,rfl,trivial⟩
  have f6:¬ H sInvoke=true:=by rw[hE,show (hd.toList==sInvoke.toList)=false from h6];simp
  rw[if_neg f6] at hcm
  refine⟨want_ent,[],[],[.t (tB (false))],_,want_or _,rfl,rfl,trivial,fun r os' _ hv=>?_,fun r os' _ hv=>?_⟩
  ·exact Bool.noConfusion (orP_ret hv).2
  ·have hr:=(orP_pan hv).1;have hw:=(orP_pan hv).2
   exact⟨[],.inr ⟨congrArg SE.pan hr,hbadC hcm⟩,rfl,rfl,trivial⟩
 ·have hge:cmds.length≤i:=geOf h
  rw[List.drop_eq_nil_of_le hge] at hR
  have hR:cmdsOK true cmds=true:=hR
  rw[hR,Bool.true_and] at hbk
  refine⟨head_ent,.inl ⟨_,hhd,?_⟩⟩
  have hbadE:endOK (.mk kf nf tf ksf)=false→¬ B=true:=fun h=>by rw[hbk,h];simp
  refine⟨fun h1=>?_,fun h1=>?_⟩
  ·have h1':hEq (.mk kf nf tf ksf) sGoto=true:=h1
   rw[if_pos h1'] at hend
   refine⟨want_ent,[],[],[.t (tB (lenGe ksf 2))],_,want_or _,rfl,rfl,trivial,fun r os' _ hv=>?_,fun r os' _ hv=>?_⟩
   rotate_left
   ·have hr:=(orP_pan hv).1;have hw:=(orP_pan hv).2
    exact⟨[],.inr ⟨congrArg SE.pan hr,hbadE (by rw[hend,show lenGe (Fm.mk kf nf tf ksf).kids 2=false from Bool.eq_false_iff.2 hw];rfl)⟩,rfl,rfl,trivial⟩
   have hw2:=(orP_ret hv).2
   have hl2:=lenGe_le (n:=2) hw2
   refine⟨⟨by decide,by rw[rows_len];omega,Int.le_refl _⟩,?_⟩
   have htk:((rows ksf).take ((rows ksf).length:Int).toNat).drop (Int.toNat 1)=(rows ksf).drop 1:=by rw[Int.toNat_natCast,List.take_length];rfl
   have hsp:=names_drop L ksf hlf hbf 1
   rw[←htk] at hsp
   refine⟨names_ent,[],[],[.t (.sl 4 (((rows ksf).take ((rows ksf).length:Int).toNat).drop (Int.toNat 1)))],_,hsp,rfl,rfl,trivial,fun r os' _ hv=>?_,fun r os' _ hv=>?_⟩
   ·have hw:=(orP_ret hv).2
    exact⟨[],.inl ⟨rfl,by rw[hbk,hend,show lenGe (Fm.mk kf nf tf ksf).kids 2=true from hw2,show ((Fm.mk kf nf tf ksf).kids.drop 1).all isNm=true from hw];rfl⟩,rfl,rfl,trivial⟩
   ·have hr:=(orP_pan hv).1;have hw:=(orP_pan hv).2
    exact⟨[],.inr ⟨congrArg SE.pan hr,hbadE (by rw[hend,show ((Fm.mk kf nf tf ksf).kids.drop 1).all isNm=false from Bool.eq_false_iff.2 hw];simp)⟩,rfl,rfl,trivial⟩
  ·have f1:¬ hEq (.mk kf nf tf ksf) sGoto=true:=by rw[show hEq (.mk kf nf tf ksf) sGoto=false from h1];simp
   rw[if_neg f1] at hend
   refine⟨fun h2=>?_,fun h2=>?_⟩
   ·have h2':hEq (.mk kf nf tf ksf) sReturn=true:=h2
    rw[if_pos h2'] at hend
    refine⟨want_ent,[],[],[.t (tB (lenIs ksf 1))],_,want_or _,rfl,rfl,trivial,fun r os' _ hv=>?_,fun r os' _ hv=>?_⟩
    ·have hw:=(orP_ret hv).2
     exact⟨[],.inl ⟨rfl,by rw[hbk,hend];exact hw⟩,rfl,rfl,trivial⟩
    ·have hr:=(orP_pan hv).1;have hw:=(orP_pan hv).2
     exact⟨[],.inr ⟨congrArg SE.pan hr,hbadE (by rw[hend];exact Bool.eq_false_iff.2 hw)⟩,rfl,rfl,trivial⟩
   ·have f2:¬ hEq (.mk kf nf tf ksf) sReturn=true:=by rw[show hEq (.mk kf nf tf ksf) sReturn=false from h2];simp
    rw[if_neg f2] at hend
    refine⟨want_ent,[],[],[.t (tB false)],_,want_or _,rfl,rfl,trivial,fun r os' _ hv=>?_,fun r os' _ hv=>?_⟩
    ·exact Bool.noConfusion (orP_ret hv).2
    ·have hr:=(orP_pan hv).1;have hw:=(orP_pan hv).2
     exact⟨[],.inr ⟨congrArg SE.pan hr,hbadE hend⟩,rfl,rfl,trivial⟩
end
end Go.Proofs.YtihbimigddlbaaaGreatDoor.L
end
