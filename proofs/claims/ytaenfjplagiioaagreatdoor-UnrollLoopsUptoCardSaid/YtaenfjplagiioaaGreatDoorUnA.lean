/- A part of the proof: PlU1 PlU2 PlU3 PlU4 PlU5 PlU6 PlU7 PlU8 PlU9 PlU10. -/
import Derived.Test.YtaenfjplagiioaaGreatDoorProg
import Derived.Test.YtaenfjplagiioaaGreatDoorPlD
import Derived.Test.YtaenfjplagiioaaGreatDoorPlC
noncomputable section
set_option linter.all false
namespace Go.Proofs.YtaenfjplagiioaaGreatDoor.L
open Go Go.RowKit Go.Proofs.YtaenfjplagiioaaGreatDoor.Pl
variable [Gm]
section
def tabL:List (Nat×TI):=[
(3,{ d:=.int .i64,size:=1,bytes:=8,zero:=[.v (.int .i64 0)] }),
(4,{ d:=.bool,size:=1,bytes:=1,zero:=[.v (.bool false)] }),
(5,{ d:=.int .u8,size:=1,bytes:=1,zero:=[.v (.int .u8 0)] }),
(9,{ d:=.string,size:=1,bytes:=16,zero:=[.v (.string ⟨#[]⟩)] }),
(21,{ d:=.int .i32,size:=1,bytes:=4,zero:=[.v (.int .i32 0)] }),
(22,{ d:=.slice 24,size:=1,bytes:=24,zero:=[.v (.slice none 0 0)] }),
(24,{ d:=.struct [(0,3),(1,3),(2,9),(3,22)],size:=4,bytes:=56,zero:=[.v (.int .i64 0),.v (.int .i64 0),.v (.string ⟨#[]⟩),.v (.slice none 0 0)] }),
(25,{ d:=.slice 3,size:=1,bytes:=24,zero:=[.v (.slice none 0 0)] }),
(28,{ d:=.int .i64,size:=1,bytes:=8,zero:=[.v (.int .i64 0)] }),
(31,{ d:=.slice 9,size:=1,bytes:=24,zero:=[.v (.slice none 0 0)] }),
(42,{ d:=.slice 25,size:=1,bytes:=24,zero:=[.v (.slice none 0 0)] }),
(46,{ d:=.slice 4,size:=1,bytes:=24,zero:=[.v (.slice none 0 0)] }),
(49,{ d:=.slice 56,size:=1,bytes:=24,zero:=[.v (.slice none 0 0)] }),
(51,{ d:=.struct [(0,22),(1,49)],size:=2,bytes:=48,zero:=[.v (.slice none 0 0),.v (.slice none 0 0)] }),
(53,{ d:=.map 9 4,size:=1,bytes:=8,zero:=[.v (.map none)] }),
(56,{ d:=.struct [(0,9),(1,22),(2,24)],size:=6,bytes:=96,zero:=[.v (.string ⟨#[]⟩),.v (.slice none 0 0),.v (.int .i64 0),.v (.int .i64 0),.v (.string ⟨#[]⟩),.v (.slice none 0 0)] }),
(65,{ d:=.slice 126,size:=1,bytes:=24,zero:=[.v (.slice none 0 0)] }),
(66,{ d:=.slice 92,size:=1,bytes:=24,zero:=[.v (.slice none 0 0)] }),
(68,{ d:=.struct [(0,9),(1,65),(2,65),(3,65),(4,22),(5,22),(6,31),(7,66)],size:=8,bytes:=184,zero:=[.v (.string ⟨#[]⟩),.v (.slice none 0 0),.v (.slice none 0 0),.v (.slice none 0 0),.v (.slice none 0 0),.v (.slice none 0 0),.v (.slice none 0 0),.v (.slice none 0 0)] }),
(75,{ d:=.map 3 4,size:=1,bytes:=8,zero:=[.v (.map none)] }),
(76,{ d:=.func,size:=1,bytes:=8,zero:=[.v .nilFunc] }),
(79,{ d:=.func,size:=1,bytes:=8,zero:=[.v .nilFunc] }),
(92,{ d:=.struct [(0,9),(1,22),(2,24)],size:=6,bytes:=96,zero:=[.v (.string ⟨#[]⟩),.v (.slice none 0 0),.v (.int .i64 0),.v (.int .i64 0),.v (.string ⟨#[]⟩),.v (.slice none 0 0)] }),
(95,{ d:=.ptr,size:=1,bytes:=8,zero:=[.v (.pointer none)] }),
(98,{ d:=.func,size:=1,bytes:=8,zero:=[.v .nilFunc] }),
(101,{ d:=.slice 156,size:=1,bytes:=24,zero:=[.v (.slice none 0 0)] }),
(102,{ d:=.slice 135,size:=1,bytes:=24,zero:=[.v (.slice none 0 0)] }),
(104,{ d:=.struct [(0,9),(1,101),(2,101),(3,101),(4,22),(5,22),(6,31),(7,102)],size:=8,bytes:=184,zero:=[.v (.string ⟨#[]⟩),.v (.slice none 0 0),.v (.slice none 0 0),.v (.slice none 0 0),.v (.slice none 0 0),.v (.slice none 0 0),.v (.slice none 0 0),.v (.slice none 0 0)] }),
(110,{ d:=.int .u64,size:=1,bytes:=8,zero:=[.v (.int .u64 0)] }),
(112,{ d:=.slice 5,size:=1,bytes:=24,zero:=[.v (.slice none 0 0)] }),
(119,{ d:=.struct [(0,28)],size:=1,bytes:=8,zero:=[.v (.int .i64 0)] }),
(122,{ d:=.ptr,size:=1,bytes:=8,zero:=[.v (.pointer none)] }),
(126,{ d:=.struct [(0,9),(1,24),(5,22)],size:=6,bytes:=96,zero:=[.v (.string ⟨#[]⟩),.v (.int .i64 0),.v (.int .i64 0),.v (.string ⟨#[]⟩),.v (.slice none 0 0),.v (.slice none 0 0)] }),
(135,{ d:=.struct [(0,9),(1,22),(2,24)],size:=6,bytes:=96,zero:=[.v (.string ⟨#[]⟩),.v (.slice none 0 0),.v (.int .i64 0),.v (.int .i64 0),.v (.string ⟨#[]⟩),.v (.slice none 0 0)] }),
(156,{ d:=.struct [(0,9),(1,24),(5,24),(9,4)],size:=10,bytes:=136,zero:=[.v (.string ⟨#[]⟩),.v (.int .i64 0),.v (.int .i64 0),.v (.string ⟨#[]⟩),.v (.slice none 0 0),.v (.int .i64 0),.v (.int .i64 0),.v (.string ⟨#[]⟩),.v (.slice none 0 0),.v (.bool false)] })]
def tab:TyTab:=fun t=>Pl.look t tabL
omit [Gm] in
theorem tok:TOK Tryz.prog tab:=tok_of (by kernel_rfl)
theorem ctx:Ctx Tryz.prog tab:=ctx_of (l:=tabL) (by kernel_rfl) (by kernel_rfl) (by kernel_rfl)
set_option maxRecDepth 10000
def tS (s:ByteArray):TV:=.v (.string s)
def tB (b:Bool):TV:=.v (.bool b)
def tI (n:Int):TV:=.v (.int .i64 n)
def fault (e:Int):TV:=.iface 119 (.agg [tI e])
theorem fail_ent:Ent Tryz.prog 55:=fun a w=>Tryz.call55 a w
theorem fail_spec (e:Int):SC Tryz.prog 55 [] [.t (tI e)] (fun x _=>x=.pan (fault e)):=by
 refine SC.of_ok tok Tryz.func55 rfl (Nat.le_of_ble_eq_true rfl) (Nat.le_of_ble_eq_true rfl) (ev_sound ctx (own:=[9999]) _ _ _ ?_)
 exact⟨[],rfl,rfl,rfl,trivial⟩
theorem want_ent:Ent Tryz.prog 51:=fun a w=>Tryz.call51 a w
theorem want_spec (b:Bool):SC Tryz.prog 51 [] [.t (tB b)] (fun x _=>if b=true then x=.ret (.tup []) else x=.pan (fault 4)):=by
 refine SC.of_ok tok Tryz.func51 rfl (Nat.le_of_ble_eq_true rfl) (Nat.le_of_ble_eq_true rfl) (ev_sound ctx (own:=[9999,10055]) _ _ _ ?_)
 refine⟨fun h=>?_,fun h=>?_⟩
 ·have h:b=false:=by simpa using h
  subst h
  refine⟨fail_ent,[],[],[.t (tI 4)],_,fail_spec 4,rfl,rfl,trivial,fun r os' _ h=>?_,fun r os' _ h=>?_⟩
  ·cases h
  ·injection h with h
   subst h
   exact⟨[],by simp,rfl,rfl,trivial⟩
 ·have h:b=true:=by simpa using h
  subst h
  exact⟨[],rfl,rfl,rfl,trivial⟩
end
end Go.Proofs.YtaenfjplagiioaaGreatDoor.L
end
noncomputable section
set_option linter.all false
namespace Go.Proofs.YtaenfjplagiioaaGreatDoor.L
open Go Go.RowKit Go.Proofs.YtaenfjplagiioaaGreatDoor.Pl
variable [Gm]
set_option maxRecDepth 10000
section
abbrev Gr:=List (List Nat)
def cI (n:Nat):List TV:=[tI n]
def encN (l:List Nat):TV:=.sl 1 (l.map cI)
def encG (g:Gr):TV:=.sl 1 (g.map fun l=>[encN l])
def cB (b:Bool):List TV:=[tB b]
structure GrOK (g:Gr):Prop where
 lt:∀ l∈g,∀ n∈l,n<g.length
 len:g.length≤maxLen
 sm:g.length≤1000000
 lenl:∀ l∈g,l.length≤maxLen
mutual
inductive Dfs (g:Gr) (wo:Int):Nat→List Bool→List Bool→Prop
 | stop {i:Nat} {L:List Bool} (h:(i:Int)=wo∨L[i]?=some true):Dfs g wo i L L
 | go {i:Nat} {L L':List Bool} {l:List Nat} (h:(i:Int)≠wo) (hL:L[i]?=some false) (hl:g[i]?=some l) (hs:DfsL g wo l (L.set i true) L'):Dfs g wo i L L'
inductive DfsL (g:Gr) (wo:Int):List Nat→List Bool→List Bool→Prop
 | nil {L:List Bool}:DfsL g wo [] L L
 | snoc {l:List Nat} {k:Nat} {L L1 L2:List Bool} (h1:DfsL g wo l L L1) (h2:Dfs g wo k L1 L2):DfsL g wo (l++[k]) L L2
end
def goOs (g:Gr) (wo:Int) (L:List Bool):List AO :=
 [.var [.t (tI wo)],.var [.sl 1004],.var [.t (encG g)],.var [.fn 81 [.ptr 1000 0,.ptr 1001 0,.ptr 1002 0,.ptr 1003 0]],.row 4 1 (L.map cB)]
def goArgs (i:Nat):List AV:=[.t (tI i),.ptr 1000 0,.ptr 1001 0,.ptr 1002 0,.ptr 1003 0]
theorem go_ent:Ent Tryz.prog 81:=fun a w=>Tryz.call81 a w
end
section
def vI (n:Int):Value:=.int .i64 n
def setM (ks:List Nat):List (Value×TV):=ks.map fun n:Nat=>(vI n,tB true)
omit [Gm] in
theorem findM (i:Nat):∀ ks:List Nat,(findE (vI i) (setM ks)).getD (tB false)=tB (ks.contains i)
 | []=>rfl
 | k::ks=>by
  have ih:=findM i ks
  show (bif (((i:Nat):Int)==((k:Nat):Int)) then some (tB true) else findE (vI i) (setM ks)).getD (tB false)=_
  by_cases h:i=k
  ·subst h;simp
  ·have h1:(((i:Nat):Int)==((k:Nat):Int))=false:=by simp;omega
   rw[h1,cond_false,ih]
   congr 1
   simp[h]
omit [Gm] in
theorem setMnew (i:Nat):∀ ks:List Nat,ks.contains i=false→setE (vI i) (tB true) (setM ks)=setM (ks++[i])
 | [],_=>rfl
 | k::ks,h=>by
  simp only[List.contains_cons,Bool.or_eq_false_iff] at h
  have ih:=setMnew i ks h.2
  have hne:i≠k:=by simpa using h.1
  show (bif (((i:Nat):Int)==((k:Nat):Int)) then (vI i,tB true)::setM ks else (vI k,tB true)::setE (vI i) (tB true) (setM ks))=_
  have h1:(((i:Nat):Int)==((k:Nat):Int))=false:=by simp;omega
  rw[h1,cond_false,ih];rfl
def goK (g:Gr) (wo:Int):Nat→Nat→List Nat→List Nat
 | 0,_,ks=>ks
 | f+1,i,ks=>if ((i:Int)==wo||ks.contains i)=true then ks else (g.getD i []).foldl (fun ks k=>goK g wo f k ks) (ks++[i])
def unseen (g:Gr) (ks:List Nat):Nat:=((List.range g.length).filter fun n=>!ks.contains n).length
omit [Gm] in
theorem goK_pre (g:Gr) (wo:Int):∀ (f i:Nat) (ks:List Nat),ks <+: goK g wo f i ks
 | 0,_,ks=>List.prefix_refl ks
 | f+1,i,ks=>by
  unfold goK
  split
  ·exact List.prefix_refl ks
  ·have:∀ (l:List Nat) (ks:List Nat),ks <+: l.foldl (fun ks k=>goK g wo f k ks) ks:=by
    intro l
    induction l with
    | nil=>intro ks;exact List.prefix_refl ks
    | cons k l ih=>intro ks;exact (goK_pre g wo f k ks).trans (ih _)
   exact (List.prefix_append ks [i]).trans (this _ _)
omit [Gm] in
theorem unseen_le (g:Gr) {ks ks':List Nat} (h:∀ n∈ks,n∈ks'):unseen g ks'≤unseen g ks:=by
 unfold unseen
 have h2:(List.range g.length).filter (fun n=>!ks'.contains n)=((List.range g.length).filter (fun n=>!ks.contains n)).filter (fun n=>!ks'.contains n):=by
  rw[List.filter_filter]
  congr 1
  funext n
  cases h1:ks'.contains n with
  | true=>simp
  | false =>
   cases h2:ks.contains n with
   | true =>
    have:=h n (by simpa using h2)
    have:ks'.contains n=true:=by simpa using this
    rw[h1] at this;cases this
   | false=>simp
 rw[h2]
 exact List.length_filter_le ..
omit [Gm] in
theorem unseen_add (g:Gr) {ks:List Nat} {i:Nat} (hi:i<g.length) (h:ks.contains i=false):unseen g (ks++[i])<unseen g ks:=by
 unfold unseen
 have h2:(List.range g.length).filter (fun n=>!(ks++[i]).contains n)=((List.range g.length).filter (fun n=>!ks.contains n)).filter (fun n=>!(n==i)):=by
  rw[List.filter_filter]
  congr 1
  funext n
  by_cases e:n=i
  ·subst e;simp
  ·simp[e]
 rw[h2]
 refine List.length_filter_lt_length_iff_exists.2 ⟨i,?_,by simp⟩
 rw[List.mem_filter]
 exact⟨by simpa using hi,by rw[h];rfl⟩
def ptrG (g:Gr):TV:=.ptr [encG g]
def go3Os (g:Gr) (wo:Int) (ks:List Nat):List AO :=
 [.var [.t (tI wo)],.var [.sl 1003],.var [.fn 33 [.ptr 1000 0,.ptr 1001 0,.t (ptrG g),.ptr 1002 0]],.mo (.map false (setM ks))]
def go3Args (g:Gr) (i:Nat):List AV:=[.t (tI i),.ptr 1000 0,.ptr 1001 0,.t (ptrG g),.ptr 1002 0]
theorem go3_ent:Ent Tryz.prog 33:=fun a w=>Tryz.call33 a w
theorem go3_spec (g:Gr) (hg:GrOK g) (wo:Int):∀ (f:Nat) (ks:List Nat) (i:Nat),i<g.length→unseen g ks<f →
  SC Tryz.prog 33 (go3Os g wo ks) (go3Args g i) (fun x os'=>x=.ret (.tup [])∧os'=go3Os g wo (goK g wo f i ks)):=by
 intro f
 induction f with
 | zero=>intro ks i _ h;omega
 | succ f ih =>
 intro ks i hi hf
 refine SC.of_ok tok Tryz.func33 rfl (Nat.le_of_ble_eq_true rfl) (Nat.le_of_ble_eq_true rfl) (ev_sound ctx (own:=[]) _ _ _ ?_)
 refine⟨tB (ks.contains i),fun _=>findM i ks,?_⟩
 refine⟨fun h=>?_,fun h=>?_⟩
 ·have h:((i:Int)==wo||ks.contains i)=true:=h
  refine⟨go3Os g wo ks,⟨rfl,?_⟩,rfl,rfl,rfl,rfl,rfl,rfl,trivial⟩
  unfold goK
  rw[if_pos h]
 ·have h:((i:Int)==wo||ks.contains i)=false:=h
  have hgo:goK g wo (f+1) i ks=(g.getD i []).foldl (fun ks k=>goK g wo f k ks) (ks++[i]):=by
   conv=>lhs;unfold goK
   rw[if_neg (by rw[h];simp)]
  rw[hgo]
  rw[Bool.or_eq_false_iff] at h
  have hk:=h.2
  have hun:=unseen_add g hi hk
  have hgetG:(0:Int)≤(i:Int)∧(g.map fun l=>[encN l])[((i:Nat):Int).toNat]?=some [encN g[i]]:=⟨Int.natCast_nonneg i,by simp[List.getElem?_eq_getElem hi]⟩
  have hgi:g.getD i []=g[i]:=by simp[List.getD,List.getElem?_eq_getElem hi]
  have hlen:=hg.lenl _ (List.getElem_mem hi)
  have hltl:=hg.lt _ (List.getElem_mem hi)
  rw[hgi]
  generalize g[i]=l at hgetG hlen hltl
  refine⟨setM (ks++[i]),setMnew i ks hk,?_⟩
  refine⟨[encN l],hgetG,?_⟩
  refine Ok.loop (st:=fun x:Nat=>⟨[(23,vi x),(22,vi l.length),(21,.t (encN l)),(4,.ptr 1002 0),(3,.t (ptrG g)),(2,.ptr 1001 0),(1,.ptr 1000 0)],lab 1000 (go3Os g wo ((l.take x).foldl (fun ks k=>goK g wo f k ks) (ks++[i])))⟩)
   (R:=fun x=>x≤l.length) (μ:=fun x=>l.length-x) 0
   (Wk.sub ⟨rfl,slotI (by simp),rfl,rfl,rfl,rfl,rfl,trivial⟩ ⟨rfl,rfl,rfl,rfl,trivial⟩)
   (Nat.zero_le _) ?_
  intro j hj
  refine ev_sound ctx (own:=[]) _ _ _ ?_
  refine⟨fun h=>?_,fun h=>?_⟩
  ·have hlt:j<l.length:=ltOf h
   have hgetL:(0:Int)≤(j:Int)∧(l.map cI)[((j:Nat):Int).toNat]?=some (cI l[j]):=getM hlt
   have hk:=hltl _ (List.getElem_mem hlt)
   have htk:l.take (j+1)=l.take j++[l[j]]:=by rw[List.take_add_one,List.getElem?_eq_getElem hlt];rfl
   generalize l[j]=k at hgetL hk htk
   have hpre:∀ (m:List Nat) (ks:List Nat),ks <+: m.foldl (fun ks k=>goK g wo f k ks) ks:=by
    intro m
    induction m with
    | nil=>intro ks;exact List.prefix_refl ks
    | cons k m ih=>intro ks;exact (goK_pre g wo f k ks).trans (ih _)
   have hle:unseen g ((l.take j).foldl (fun ks k=>goK g wo f k ks) (ks++[i]))≤unseen g (ks++[i]):=unseen_le g (fun n hn=>(hpre _ _).subset hn)
   have hnext:(l.take (j+1)).foldl (fun ks k=>goK g wo f k ks) (ks++[i])=goK g wo f k ((l.take j).foldl (fun ks k=>goK g wo f k ks) (ks++[i])):=by
    rw[htk,List.foldl_append];rfl
   generalize hM:(l.take j).foldl (fun ks k=>goK g wo f k ks) (ks++[i])=M at hle hnext ⊢
   refine⟨cI k,hgetL,?_⟩
   refine⟨go3_ent,[1000,1001,1002,1003],go3Os g wo M,go3Args g k,_,ih M k hk (by omega),rfl,rfl,⟨rfl,rfl,rfl,rfl,trivial⟩,fun r os' _ hR=>?_,fun r os' _ hR=>?_⟩
   ·obtain⟨h1,rfl⟩:=hR
    injection h1 with h1
    subst h1
    exact⟨trivial,j+1,Wk.sub ⟨slotI (wr1 hlt hlen),rfl,rfl,rfl,rfl,rfl,rfl,trivial⟩ ⟨rfl,rfl,rfl,congrArg (fun x=>some (AO.mo (.map false (setM x)))) hnext.symm,trivial⟩,hlt,dec hlt⟩
   ·cases hR.1
  ·have hge:l.length≤j:=geOf h
   have:j=l.length:=Nat.le_antisymm hj hge
   subst this
   rw[List.take_length]
   exact⟨_,⟨rfl,rfl⟩,rfl,rfl,rfl,rfl,rfl,rfl,trivial⟩
end
section
def mpT (ks:List Nat):TV:=.mp false (setM ks)
def reachK (g:Gr) (i:Nat) (wo:Int):List Nat:=goK g wo (g.length+1) i []
omit [Gm] in
theorem unseen_lt (g:Gr) (ks:List Nat):unseen g ks<g.length+1:=by
 unfold unseen
 have:=List.length_filter_le (fun n=>!ks.contains n) (List.range g.length)
 simp at this ⊢;omega
theorem reach_ent:Ent Tryz.prog 32:=fun a w=>Tryz.call32 a w
theorem reach_spec (g:Gr) (hg:GrOK g) (wo:Int) (i:Nat) (hi:i<g.length):PC Tryz.prog 32 [tI i,tI wo,ptrG g] (mpT (reachK g i wo)):=by
 refine PC.of_ok tok Tryz.func32 rfl (Nat.le_of_ble_eq_true rfl) (ev_sound ctx (own:=[]) _ _ _ ?_)
 refine⟨go3_ent,[4,6,7,8],go3Os g wo [],go3Args g i,_,go3_spec g hg wo (g.length+1) [] i hi (unseen_lt g []),rfl,rfl,⟨rfl,rfl,rfl,rfl,trivial⟩,fun r os' _ hR=>?_,fun r os' _ hR=>?_⟩
 ·obtain⟨h1,rfl⟩:=hR
  injection h1 with h1
  subst h1
  exact rfl
 ·cases hR.1
theorem isIn_ent:Ent Tryz.prog 35:=fun a w=>Tryz.call35 a w
theorem isIn_spec (k:Nat) (ks:List Nat):PC Tryz.prog 35 [tI k,.ptr [mpT ks]] (tB (ks.contains k)):=by
 refine PC.of_ok tok Tryz.func35 rfl (Nat.le_of_ble_eq_true rfl) (ev_sound ctx (own:=[]) _ _ _ ?_)
 exact⟨tB (ks.contains k),findM k ks,rfl⟩
end
section
theorem indexFunc_ent:Ent Tryz.prog 61:=fun a w=>Tryz.call61 a w
theorem indexFunc_spec (l:List Nat) (g:FuncId) (caps:List TV) (p:Nat→Bool) (hg:Ent Tryz.prog g) (hp:∀ n∈l,PC Tryz.prog g (tI n::caps) (tB (p n))) :
  PC Tryz.prog 61 [encN l,.fn g caps] (tI (idxI p l)):=by
 refine PC.have (fun w F us h=>sl_len0 h) fun hlen=>?_
 have hlen:l.length≤maxLen:=by simpa using hlen
 refine PC.of_ok tok Tryz.func61 rfl (Nat.le_of_ble_eq_true rfl) (ev_sound ctx (own:=[]) _ _ _ ?_)
 refine Ok.loop (st:=fun i:Nat=>⟨[(8,vi i),(7,vi l.length),(1,.t (.fn g caps)),(0,.t (encN l))],[]⟩) (R:=fun i=>i≤l.length∧∀ j (hj:j<l.length),j<i→p l[j]=false)
  (μ:=fun i=>l.length-i) 0 (Wk.sub ⟨rfl,slotI (by simp),rfl,rfl,trivial⟩ trivial) ⟨Nat.zero_le _,fun j _ h=>absurd h (Nat.not_lt_zero j)⟩ ?_
 rintro i ⟨hi,hno⟩
 refine ev_sound ctx (own:=[]) _ _ _ ?_
 refine⟨fun h=>?_,fun h=>?_⟩
 ·have hlt:=ltOf h
  refine⟨_,getM hlt,?_⟩
  refine⟨hg,.inl ⟨_,hp _ (List.getElem_mem hlt),?_⟩⟩
  refine⟨fun h2=>toEq ?_,fun h2=>?_⟩
  ·rw[idxI_some hlt h2 hno];rfl
  ·exact⟨trivial,i+1,Wk.sub ⟨slotI (wr1 hlt hlen),rfl,rfl,rfl,trivial⟩ trivial,⟨hlt,noHit hlt hno h2⟩,dec hlt⟩
 ·have hge:=geOf h
  refine toEq ?_
  rw[idxI_none fun j hj=>hno j hj (by omega)];rfl
theorem containsFunc_ent:Ent Tryz.prog 34:=fun a w=>Tryz.call34 a w
theorem containsFunc_spec (l:List Nat) (g:FuncId) (caps:List TV) (p:Nat→Bool) (hg:Ent Tryz.prog g) (hp:∀ n∈l,PC Tryz.prog g (tI n::caps) (tB (p n))) :
  PC Tryz.prog 34 [encN l,.fn g caps] (tB (l.any p)):=by
 refine PC.of_ok tok Tryz.func34 rfl (Nat.le_of_ble_eq_true rfl) (ev_sound ctx (own:=[]) _ _ _ ?_)
 refine⟨indexFunc_ent,.inl ⟨_,indexFunc_spec l g caps p hg hp,?_⟩⟩
 refine toEq ?_
 rw[←idxI_geq];rfl
theorem index_ent:Ent Tryz.prog 31:=fun a w=>Tryz.call31 a w
theorem index_spec (l:List Nat) (v:Int):PC Tryz.prog 31 [encN l,tI v] (tI (idxI (fun x:Nat=>v==(x:Int)) l)):=by
 refine PC.have (fun w F us h=>sl_len0 h) fun hlen=>?_
 have hlen:l.length≤maxLen:=by simpa using hlen
 refine PC.of_ok tok Tryz.func31 rfl (Nat.le_of_ble_eq_true rfl) (ev_sound ctx (own:=[]) _ _ _ ?_)
 refine Ok.loop (st:=fun i:Nat=>⟨[(8,vi i),(7,vi l.length),(1,.t (tI v)),(0,.t (encN l))],[]⟩) (R:=fun i=>i≤l.length∧∀ j (hj:j<l.length),j<i→(v==(l[j]:Int))=false)
  (μ:=fun i=>l.length-i) 0 (Wk.sub ⟨rfl,slotI (by simp),rfl,rfl,trivial⟩ trivial) ⟨Nat.zero_le _,fun j _ h=>absurd h (Nat.not_lt_zero j)⟩ ?_
 rintro i ⟨hi,hno⟩
 refine ev_sound ctx (own:=[]) _ _ _ ?_
 refine⟨fun h=>?_,fun h=>?_⟩
 ·have hlt:=ltOf h
  refine⟨_,getM hlt,?_⟩
  refine⟨fun h2=>toEq ?_,fun h2=>?_⟩
  ·rw[idxI_some (p:=fun x:Nat=>v==(x:Int)) hlt h2 hno];rfl
  ·exact⟨trivial,i+1,Wk.sub ⟨slotI (wr1 hlt hlen),rfl,rfl,rfl,trivial⟩ trivial,⟨hlt,noHit (p:=fun x:Nat=>v==(x:Int)) hlt hno h2⟩,dec hlt⟩
 ·have hge:=geOf h
  refine toEq ?_
  rw[idxI_none (p:=fun x:Nat=>v==(x:Int)) fun j hj=>hno j hj (by omega)];rfl
theorem contains_ent:Ent Tryz.prog 14:=fun a w=>Tryz.call14 a w
theorem contains_spec (l:List Nat) (v:Int):PC Tryz.prog 14 [encN l,tI v] (tB (l.any fun x:Nat=>v==(x:Int))):=by
 refine PC.of_ok tok Tryz.func14 rfl (Nat.le_of_ble_eq_true rfl) (ev_sound ctx (own:=[]) _ _ _ ?_)
 refine⟨index_ent,.inl ⟨_,index_spec l v,?_⟩⟩
 refine toEq ?_
 rw[←idxI_geq];rfl
def anyK (F:Nat→List Nat→Bool×List Nat):List Nat→List Nat→Bool×List Nat
 | [],ks=>(false,ks)
 | k::l,ks=>match F k ks with
  | (true,ks')=>(true,ks')
  | (false,ks')=>anyK F l ks'
def bkF (g:Gr) (head:Nat) (past:List Nat):Nat→Nat→List Nat→Bool×List Nat
 | 0,_,ks=>(false,ks)
 | f+1,i,ks=>if i=head then (true,ks) else if (ks.contains i||past.contains i)=true then (false,ks) else anyK (bkF g head past f) (g.getD i []) (ks++[i])
omit [Gm] in
theorem anyK_sub {F:Nat→List Nat→Bool×List Nat} (hF:∀ k ks,∀ n∈ks,n∈(F k ks).2):∀ (l ks:List Nat),∀ n∈ks,n∈(anyK F l ks).2
 | [],ks,n,h=>h
 | k::l,ks,n,h=>by
  have:=hF k ks n h
  unfold anyK
  split
  ·rename_i ks' e;rw[e] at this;exact this
  ·rename_i ks' e;rw[e] at this;exact anyK_sub hF l ks' n this
omit [Gm] in
theorem bkF_sub (g:Gr) (head:Nat) (past:List Nat):∀ (f i:Nat) (ks:List Nat),∀ n∈ks,n∈(bkF g head past f i ks).2
 | 0,_,ks,n,h=>h
 | f+1,i,ks,n,h=>by
  unfold bkF
  split
  ·exact h
  ·split
   ·exact h
   ·exact anyK_sub (bkF_sub g head past f) _ _ n (by simp[h])
def bkCaps:List AV:=[.ptr 1000 0,.ptr 1001 0,.ptr 1002 0,.ptr 1003 0,.ptr 1004 0]
def bkOs (g:Gr) (head:Nat) (past ks:List Nat):List AO :=
 [.var [.t (tI head)],.var [.sl 1005],.var [.t (mpT past)],.var [.t (encG g)],.var [.fn 62 bkCaps],.mo (.map false (setM ks))]
theorem bk_ent:Ent Tryz.prog 62:=fun a w=>Tryz.call62 a w
def bkR (g:Gr) (head:Nat) (past:List Nat) (f i:Nat) (ks:List Nat) (x:SE) (os':List AO):Prop :=
 x=.ret (tB (bkF g head past f i ks).1)∧os'=bkOs g head past (bkF g head past f i ks).2
theorem bk61 (g:Gr) (head:Nat) (past:List Nat) (f:Nat) (ih:∀ k ks,k<g.length→unseen g ks<f→SC Tryz.prog 62 (bkOs g head past ks) (.t (tI k)::bkCaps) (bkR g head past f k ks))
  (l:List Nat) (hl:∀ k∈l,k<g.length) (hlen:l.length≤maxLen) (ks:List Nat) (hks:unseen g ks<f) :
  SC Tryz.prog 61 (bkOs g head past ks) [.t (encN l),.fn 62 bkCaps] (fun x os'=>∃ n,x=.ret (tI n)∧decide (n≥0)=(anyK (bkF g head past f) l ks).1∧os'=bkOs g head past (anyK (bkF g head past f) l ks).2):=by
 refine SC.of_ok tok Tryz.func61 rfl (Nat.le_of_ble_eq_true rfl) (Nat.le_of_ble_eq_true rfl) (ev_sound ctx (own:=[]) _ _ _ ?_)
 refine Ok.loop (st:=fun x:Nat×List Nat=>⟨[(8,vi x.1),(7,vi l.length),(1,.fn 62 bkCaps),(0,.t (encN l))],lab 1000 (bkOs g head past x.2)⟩)
  (R:=fun x=>x.1≤l.length∧anyK (bkF g head past f) l ks=anyK (bkF g head past f) (l.drop x.1) x.2∧unseen g x.2≤unseen g ks)
  (μ:=fun x=>l.length-x.1) (0,ks) (Wk.sub ⟨rfl,slotI (by simp),rfl,rfl,trivial⟩ ⟨rfl,rfl,rfl,rfl,rfl,rfl,trivial⟩) ⟨Nat.zero_le _,rfl,Nat.le_refl _⟩ ?_
 rintro⟨i,M⟩ ⟨hi,hM,hu⟩
 have hi:i≤l.length:=hi
 have hM:anyK (bkF g head past f) l ks=anyK (bkF g head past f) (l.drop i) M:=hM
 have hu:unseen g M≤unseen g ks:=hu
 refine ev_sound ctx (own:=[]) _ _ _ ?_
 refine⟨fun h=>?_,fun h=>?_⟩
 ·have hlt:i<l.length:=ltOf h
  refine⟨cI l[i],getM hlt,?_⟩
  have hk:=hl _ (List.getElem_mem hlt)
  rw[List.drop_eq_getElem_cons hlt] at hM
  generalize l[i]=k at hk hM ⊢
  simp only[anyK] at hM
  refine⟨bk_ent,[1000,1001,1002,1003,1004,1005],bkOs g head past M,.t (tI k)::bkCaps,_,ih k M hk (by omega),rfl,rfl,⟨rfl,rfl,rfl,rfl,rfl,rfl,trivial⟩,fun r os' _ hR=>?_,fun r os' _ hR=>?_⟩
  ·obtain⟨h1,rfl⟩:=hR
   injection h1 with h1
   subst h1
   have hsub:=bkF_sub g head past f k M
   generalize bkF g head past f k M=q at hM hsub ⊢
   obtain⟨b,M'⟩:=q
   have hu':unseen g M'≤unseen g M:=unseen_le g hsub
   refine⟨fun h2=>?_,fun h2=>?_⟩
   ·have h2:b=true:=h2
    subst h2
    refine⟨bkOs g head past M',⟨i,rfl,?_,?_⟩,rfl,rfl,rfl,rfl,rfl,rfl,rfl,rfl,trivial⟩
    ·rw[hM];simp
    ·rw[hM]
   ·have h2:b=false:=h2
    subst h2
    exact⟨trivial,(i+1,M'),Wk.sub ⟨slotI (wr1 hlt hlen),rfl,rfl,rfl,trivial⟩ ⟨rfl,rfl,rfl,rfl,rfl,rfl,trivial⟩,⟨hlt,hM,Nat.le_trans hu' hu⟩,dec hlt⟩
  ·cases hR.1
 ·have hge:l.length≤i:=geOf h
  rw[List.drop_eq_nil_of_le hge] at hM
  refine⟨bkOs g head past M,⟨-1,rfl,?_,?_⟩,rfl,rfl,rfl,rfl,rfl,rfl,rfl,rfl,trivial⟩
  ·rw[hM];rfl
  ·rw[hM];rfl
theorem bk34 (g:Gr) (head:Nat) (past:List Nat) (f:Nat) (ih:∀ k ks,k<g.length→unseen g ks<f→SC Tryz.prog 62 (bkOs g head past ks) (.t (tI k)::bkCaps) (bkR g head past f k ks))
  (l:List Nat) (hl:∀ k∈l,k<g.length) (hlen:l.length≤maxLen) (ks:List Nat) (hks:unseen g ks<f) :
  SC Tryz.prog 34 (bkOs g head past ks) [.t (encN l),.fn 62 bkCaps] (fun x os'=>x=.ret (tB (anyK (bkF g head past f) l ks).1)∧os'=bkOs g head past (anyK (bkF g head past f) l ks).2):=by
 refine SC.of_ok tok Tryz.func34 rfl (Nat.le_of_ble_eq_true rfl) (Nat.le_of_ble_eq_true rfl) (ev_sound ctx (own:=[]) _ _ _ ?_)
 refine⟨indexFunc_ent,[1000,1001,1002,1003,1004,1005],bkOs g head past ks,[.t (encN l),.fn 62 bkCaps],_,bk61 g head past f ih l hl hlen ks hks,rfl,rfl,⟨rfl,rfl,rfl,rfl,rfl,rfl,trivial⟩,fun r os' _ hR=>?_,fun r os' _ hR=>?_⟩
 ·obtain⟨n,h1,h2,rfl⟩:=hR
  injection h1 with h1
  subst h1
  refine⟨_,⟨?_,rfl⟩,rfl,rfl,rfl,rfl,rfl,rfl,rfl,rfl,trivial⟩
  rw[←h2];rfl
 ·obtain⟨n,h1,_⟩:=hR
  cases h1
theorem bk_spec (g:Gr) (hg:GrOK g) (head:Nat) (past:List Nat):∀ (f i:Nat) (ks:List Nat),i<g.length→unseen g ks<f →
  SC Tryz.prog 62 (bkOs g head past ks) (.t (tI i)::bkCaps) (bkR g head past f i ks):=by
 intro f
 induction f with
 | zero=>intro i ks _ h;omega
 | succ f ih =>
 intro i ks hi hf
 refine SC.of_ok tok Tryz.func62 rfl (Nat.le_of_ble_eq_true rfl) (Nat.le_of_ble_eq_true rfl) (ev_sound ctx (own:=[9998,20034]) _ _ _ ?_)
 refine⟨fun h=>?_,fun h=>?_⟩
 ·have h:i=head:=by have h:((i:Int)==(head:Int))=true:=h;have h:=eq_of_beq h;omega
  refine⟨bkOs g head past ks,⟨?_,?_⟩,rfl,rfl,rfl,rfl,rfl,rfl,rfl,rfl,trivial⟩
  ·unfold bkF;rw[if_pos h];rfl
  ·unfold bkF;rw[if_pos h]
 ·have hne:¬ i=head:=by have h:((i:Int)==(head:Int))=false:=h;intro e;subst e;simp at h
  refine⟨tB (ks.contains i),findM i ks,?_⟩
  refine⟨tB (past.contains i),fun _=>findM i past,?_⟩
  refine⟨fun h=>?_,fun h=>?_⟩
  ·have h:(ks.contains i||past.contains i)=true:=h
   refine⟨bkOs g head past ks,⟨?_,?_⟩,rfl,rfl,rfl,rfl,rfl,rfl,rfl,rfl,trivial⟩
   ·unfold bkF;rw[if_neg hne,if_pos h];rfl
   ·unfold bkF;rw[if_neg hne,if_pos h]
  ·have h:(ks.contains i||past.contains i)=false:=h
   have e:bkF g head past (f+1) i ks=anyK (bkF g head past f) (g.getD i []) (ks++[i]):=by
    conv=>lhs;unfold bkF
    rw[if_neg hne,if_neg (by rw[h];simp)]
   unfold bkR
   rw[e]
   rw[Bool.or_eq_false_iff] at h
   have hun:=unseen_add g hi h.1
   have hgetG:(0:Int)≤(i:Int)∧(g.map fun l=>[encN l])[((i:Nat):Int).toNat]?=some [encN g[i]]:=⟨Int.natCast_nonneg i,by simp[List.getElem?_eq_getElem hi]⟩
   have hgi:g.getD i []=g[i]:=by simp[List.getD,List.getElem?_eq_getElem hi]
   have hlen:=hg.lenl _ (List.getElem_mem hi)
   have hltl:=hg.lt _ (List.getElem_mem hi)
   rw[hgi]
   generalize g[i]=l at hgetG hlen hltl
   refine⟨setM (ks++[i]),setMnew i ks h.1,?_⟩
   refine⟨[encN l],fun _=>hgetG,?_⟩
   refine⟨containsFunc_ent,[1000,1001,1002,1003,1004,1005],bkOs g head past (ks++[i]),[.t (encN l),.fn 62 bkCaps],_,bk34 g head past f (fun k ks=>ih k ks) l hltl hlen (ks++[i]) (by omega),rfl,rfl,⟨rfl,rfl,rfl,rfl,rfl,rfl,trivial⟩,fun r os' _ hR=>?_,fun r os' _ hR=>?_⟩
   ·obtain⟨h1,rfl⟩:=hR
    injection h1 with h1
    subst h1
    exact⟨_,⟨rfl,rfl⟩,rfl,rfl,rfl,rfl,rfl,rfl,rfl,rfl,trivial⟩
   ·cases hR.1
def reachesB (g:Gr) (l:List Nat) (head:Nat) (past:List Nat):Bool:=(anyK (bkF g head past (g.length+1)) l []).1
theorem reachesBack_ent:Ent Tryz.prog 36:=fun a w=>Tryz.call36 a w
theorem reachesBack_spec (g:Gr) (hg:GrOK g) (b head:Nat) (hb:b<g.length) (past:List Nat):PC Tryz.prog 36 [encG g,tI b,tI head,mpT past] (tB (reachesB g (g.getD b []) head past)):=by
 have hgetG:(0:Int)≤(b:Int)∧(g.map fun l=>[encN l])[((b:Nat):Int).toNat]?=some [encN g[b]]:=⟨Int.natCast_nonneg b,by simp[List.getElem?_eq_getElem hb]⟩
 have hgi:g.getD b []=g[b]:=by simp[List.getD,List.getElem?_eq_getElem hb]
 have hlen:=hg.lenl _ (List.getElem_mem hb)
 have hltl:=hg.lt _ (List.getElem_mem hb)
 rw[hgi]
 generalize g[b]=l at hgetG hlen hltl
 refine PC.of_ok tok Tryz.func36 rfl (Nat.le_of_ble_eq_true rfl) (ev_sound ctx (own:=[9998,20034]) _ _ _ ?_)
 refine⟨[encN l],fun _=>hgetG,?_⟩
 refine⟨containsFunc_ent,[6,9,7,4,10,11],bkOs g head past [],[.t (encN l),.fn 62 bkCaps],_,bk34 g head past (g.length+1) (fun k ks=>bk_spec g hg head past (g.length+1) k ks) l hltl hlen [] (unseen_lt g []),rfl,rfl,⟨rfl,rfl,rfl,rfl,rfl,rfl,trivial⟩,fun r os' _ hR=>?_,fun r os' _ hR=>?_⟩
 ·obtain⟨h1,rfl⟩:=hR
  injection h1 with h1
 ·cases hR.1
end
section
def stepK (g:Gr) (all past:List Nat) (s:List Nat×Bool) (b:Nat):List Nat×Bool :=
 if (!all.contains b||s.1.contains b||past.contains b)=true then s else if (g.getD b []).any (fun k=>s.1.contains k)=true then (s.1++[b],true) else s
def passK (g:Gr) (all past ks:List Nat):List Nat×Bool:=(List.range g.length).foldl (stepK g all past) (ks,false)
def growK (g:Gr) (all past:List Nat):Nat→List Nat→List Nat
 | 0,ks=>ks
 | f+1,ks=>if (passK g all past ks).2=true then growK g all past f (passK g all past ks).1 else (passK g all past ks).1
def pastK (g:Gr) (head:Nat):List Nat:=if head=0 then [] else reachK g 0 head
def inK (g:Gr) (head:Nat):List Nat:=growK g (reachK g 0 (-1)) (pastK g head) (g.length+1) [head]
def isK (g:Gr) (head b:Nat):Bool:=(inK g head).contains b&&(((b:Int)==(head:Int))||reachesB g (g.getD b []) head (pastK g head))
def loopK (g:Gr) (head:Nat):List Nat:=(List.range g.length).filter (isK g head)
omit [Gm] in
theorem stepK_mono (g:Gr) (all past:List Nat) (b:Nat) (hb:b<g.length) (s:List Nat×Bool) (ks:List Nat) (h:unseen g s.1≤unseen g ks∧(s.2=true→unseen g s.1<unseen g ks)) :
  unseen g (stepK g all past s b).1≤unseen g ks∧((stepK g all past s b).2=true→unseen g (stepK g all past s b).1<unseen g ks):=by
 unfold stepK
 split
 ·exact h
 ·rename_i h1
  split
  ·have hc:s.1.contains b=false:=by
    cases hq:s.1.contains b with
    | true=>exact absurd (by rw[hq];simp) h1
    | false=>rfl
   have:=unseen_add g hb hc
   exact⟨by simp only;omega,fun _=>by simp only;omega⟩
  ·exact h
omit [Gm] in
theorem pass_mono (g:Gr) (all past ks:List Nat):∀ n,n≤g.length→unseen g ((List.range n).foldl (stepK g all past) (ks,false)).1≤unseen g ks∧(((List.range n).foldl (stepK g all past) (ks,false)).2=true→unseen g ((List.range n).foldl (stepK g all past) (ks,false)).1<unseen g ks)
 | 0,_=>⟨Nat.le_refl _,fun h=>by cases h⟩
 | n+1,hn=>by
  rw[List.range_succ,List.foldl_append]
  exact stepK_mono g all past n (by omega) _ ks (pass_mono g all past ks n (by omega))
omit [Gm] in
theorem foldRange {α:Type} (f:α→Nat→α) (s:α) (n:Nat):(List.range (n+1)).foldl f s=f ((List.range n).foldl f s) n:=by
 rw[List.range_succ,List.foldl_append];rfl
def loSt (g:Gr) (head:Nat) (all past:List Nat) (x:List Nat×Bool):St :=
 ⟨[(9,vb x.2),(8,.ptr 8 0),(7,.t (mpT past)),(6,.t (mpT all)),(2,.t (ptrG g)),(1,.t (tI head))],[(8,.var [.sl 22]),(22,.mo (.map false (setM x.1)))]⟩
def loSt2 (g:Gr) (head:Nat) (all past:List Nat) (b:Nat) (x:List Nat×Bool):St :=
 ⟨(28,vi b)::(27,vi g.length)::(26,.t (encG g))::(loSt g head all past x).φ,(loSt g head all past x).σ⟩
theorem loopOf_ent:Ent Tryz.prog 16:=fun a w=>Tryz.call16 a w
theorem loopOf_spec (g:Gr) (hg:GrOK g) (head:Nat) (hh:head<g.length):PC Tryz.prog 16 [encG g,tI head] (encN (loopK g head)):=by
 have h0:0<g.length:=by omega
 refine PC.of_okL tok Tryz.func16 rfl (Nat.le_of_ble_eq_true rfl) (ev_sound ctx (own:=[77]) _ _ _ ?_)
 have hr:=reach_spec g hg (-1) 0 h0
 generalize hall:reachK g 0 (-1)=all at hr
 refine⟨reach_ent,.inl ⟨_,hr,?_⟩⟩
 have key:∀ past,past=pastK g head→True:=fun _ _=>trivial
 refine⟨fun h=>?_,fun h=>?_⟩
 ·have hne:¬ head=0:=by have h:((head:Int) != 0)=true:=h;intro e;subst e;simp at h
  have hr2:=reach_spec g hg head 0 h0
  have hp:reachK g 0 head=pastK g head:=by unfold pastK;rw[if_neg hne]
  rw[hp] at hr2
  generalize hpast:pastK g head=past at hr2
  refine⟨reach_ent,.inl ⟨_,hr2,?_⟩⟩
  refine⟨setM [head],rfl,?_⟩
  refine Ok.loop (st:=loSt g head all past) (R:=fun x=>(x.2=true→∃ f,unseen g x.1<f∧growK g all past f x.1=inK g head)∧(x.2=false→x.1=inK g head)) (μ:=fun x=>if x.2=true then unseen g x.1+1 else 0) ([head],true)
   (Wk.sub ⟨rfl,rfl,rfl,rfl,rfl,rfl,trivial⟩ ⟨rfl,rfl,trivial⟩) ?_ ?_
  ·exact⟨fun _=>⟨g.length+1,unseen_lt g [head],by unfold inK;rw[hall,hpast]⟩,fun h=>by cases h⟩
  ·rintro⟨ks,c⟩ ⟨hR1,hR2⟩
   refine ev_sound ctx (own:=[77]) _ _ _ ?_
   refine⟨fun h=>?_,fun h=>?_⟩
   ·have hc:c=true:=h
    subst hc
    obtain⟨f,hf,hgk⟩:=hR1 rfl
    have hf:unseen g ks<f:=hf
    have hgk:growK g all past f ks=inK g head:=hgk
    refine Ok.loop (st:=fun y:Nat×List Nat×Bool=>loSt2 g head all past y.1 y.2) (R:=fun y=>y.1≤g.length∧(List.range y.1).foldl (stepK g all past) (ks,false)=y.2) (μ:=fun y=>g.length-y.1) (0,(ks,false))
     (Wk.sub ⟨rfl,slotI (by simp),rfl,rfl,rfl,rfl,rfl,rfl,rfl,trivial⟩ ⟨rfl,rfl,trivial⟩) ⟨Nat.zero_le _,rfl⟩ ?_
    rintro⟨b,ks',c'⟩ ⟨hb,hfold⟩
    have hb:b≤g.length:=hb
    have hfold:(List.range b).foldl (stepK g all past) (ks,false)=(ks',c'):=hfold
    refine ev_sound ctx (own:=[77]) _ _ _ ?_
    refine⟨fun h=>?_,fun h=>?_⟩
    ·have hlt:b<g.length:=ltOf h
     have hnext:(List.range (b+1)).foldl (stepK g all past) (ks,false)=stepK g all past (ks',c') b:=by rw[foldRange,hfold]
     refine⟨tB (all.contains b),findM b all,?_⟩
     refine⟨tB (ks'.contains b),fun _=>findM b ks',?_⟩
     refine⟨tB (past.contains b),fun _=>findM b past,?_⟩
     refine⟨fun h2=>?_,fun h2=>?_⟩
     ·have h2:(!all.contains b||ks'.contains b||past.contains b)=true:=h2
      exact⟨trivial,(b+1,(ks',c')),Wk.sub ⟨slotI (wr1 hlt hg.len),rfl,rfl,rfl,rfl,rfl,rfl,rfl,rfl,trivial⟩ ⟨rfl,rfl,trivial⟩,⟨hlt,by rw[hnext];unfold stepK;rw[if_pos h2]⟩,dec hlt⟩
     ·have h2:(!all.contains b||ks'.contains b||past.contains b)=false:=h2
      have hgetG:(0:Int)≤(b:Int)∧(g.map fun l=>[encN l])[((b:Nat):Int).toNat]?=some [encN g[b]]:=⟨Int.natCast_nonneg b,by simp[List.getElem?_eq_getElem hlt]⟩
      have hgi:g.getD b []=g[b]:=by simp[List.getD,List.getElem?_eq_getElem hlt]
      have hst:stepK g all past (ks',c') b=if (g[b]).any (fun k=>ks'.contains k)=true then (ks'++[b],true) else (ks',c'):=by
       unfold stepK;rw[if_neg (by simp only;rw[h2];simp),hgi]
      rw[hst] at hnext
      generalize g[b]=l at hgetG hnext
      refine⟨[encN l],hgetG,?_⟩
      refine⟨containsFunc_ent,.inl ⟨_,containsFunc_spec l 35 [.ptr [mpT ks']] (fun k=>ks'.contains k) isIn_ent (fun n _=>isIn_spec n ks'),?_⟩⟩
      refine⟨fun h3=>?_,fun h3=>?_⟩
      ·have h3:l.any (fun k=>ks'.contains k)=true:=h3
       rw[if_pos h3] at hnext
       have hkb:ks'.contains b=false:=by
        rw[Bool.or_eq_false_iff,Bool.or_eq_false_iff] at h2
        exact h2.1.2
       refine⟨setM (ks'++[b]),setMnew b ks' hkb,?_⟩
       exact⟨trivial,(b+1,(ks'++[b],true)),Wk.sub ⟨slotI (wr1 hlt hg.len),rfl,rfl,rfl,rfl,rfl,rfl,rfl,rfl,trivial⟩ ⟨rfl,rfl,trivial⟩,⟨hlt,hnext⟩,dec hlt⟩
      ·have h3:l.any (fun k=>ks'.contains k)=false:=h3
       rw[if_neg (by rw[h3];simp)] at hnext
       exact⟨trivial,(b+1,(ks',c')),Wk.sub ⟨slotI (wr1 hlt hg.len),rfl,rfl,rfl,rfl,rfl,rfl,rfl,rfl,trivial⟩ ⟨rfl,rfl,trivial⟩,⟨hlt,hnext⟩,dec hlt⟩
    ·have hge:g.length≤b:=geOf h
     have hbe:b=g.length:=Nat.le_antisymm hb hge
     subst hbe
     have hpass:passK g all past ks=(ks',c'):=hfold
     have hmono:=pass_mono g all past ks g.length (Nat.le_refl _)
     rw[hfold] at hmono
     have hm2:c'=true→unseen g ks'<unseen g ks:=hmono.2
     obtain⟨f',rfl⟩:∃ f',f=f'+1:=⟨f-1,by omega⟩
     unfold growK at hgk
     rw[hpass] at hgk
     refine⟨(ks',c'),Wk.sub ⟨rfl,rfl,rfl,rfl,rfl,rfl,trivial⟩ ⟨rfl,rfl,trivial⟩,⟨fun hc=>?_,fun hc=>?_⟩,?_⟩
     ·have hc:c'=true:=hc
      have:=hm2 hc
      refine⟨f',by simp only;omega,?_⟩
      simp only[hc,if_true] at hgk
      exact hgk
     ·have hc:c'=false:=hc
      simp only[hc,Bool.false_eq_true,if_false] at hgk
      exact hgk
     ·cases c' with
      | true=>have:=hm2 rfl;simp only[if_true];omega
      | false=>simp
   ·have hc:c=false:=h
    have hks:ks=inK g head:=hR2 hc
    subst hc
    have hm:∀ i,(List.filter (isK g head) (List.range i)).length≤i:=fun i=>by
     have:=List.length_filter_le (isK g head) (List.range i)
     simpa using this
    refine Ok.loop (st:=fun i:Nat=>⟨[(56,vi i),(55,vi g.length),(54,.t (encG g)),(11,.sl 77),(8,.ptr 8 0),(7,.t (mpT past)),(2,.t (ptrG g)),(1,.t (tI head))],[(77,.row 3 1 (((List.range i).filter (isK g head)).map cI)),(8,.var [.sl 22]),(22,.mo (.map false (setM ks)))]⟩)
     (R:=fun i=>i≤g.length) (μ:=fun i=>g.length-i) 0 ((Wk.nil 11 77 3 1 (by decide) rfl).trans (Wk.sub ⟨rfl,slotI (by simp),rfl,rfl,rfl,rfl,rfl,rfl,trivial⟩ ⟨rfl,rfl,rfl,trivial⟩)) (Nat.zero_le _) ?_
    intro i hi
    have hi:i≤g.length:=hi
    refine ev_sound ctx (own:=[77]) _ _ _ ?_
    refine⟨fun h=>?_,fun h=>?_⟩
    ·have hlt:i<g.length:=ltOf h
     refine⟨tB (ks.contains i),findM i ks,?_⟩
     refine⟨reachesBack_ent,tB (reachesB g (g.getD i []) head past),fun _=>reachesBack_spec g hg i head hlt past,?_⟩
     have hfil:(List.range (i+1)).filter (isK g head)=(List.range i).filter (isK g head)++(if isK g head i=true then [i] else []):=by
      rw[List.range_succ,List.filter_append]
      congr 1
      cases hq:isK g head i <;> simp[List.filter,hq]
     have hisK:isK g head i=(ks.contains i&&(((i:Int)==(head:Int))||reachesB g (g.getD i []) head past)):=by
      unfold isK;rw[hks,hpast]
     have hmi:=hm i
     have hsm:=hg.sm
     refine⟨fun h2=>?_,fun h2=>?_⟩
     ·have h2:(ks.contains i&&(((i:Int)==(head:Int))||reachesB g (g.getD i []) head past))=true:=h2
      rw[hisK,if_pos h2] at hfil
      refine⟨?_,?_,trivial,i+1,Wk.sub ⟨slotI (wr1 hlt hg.len),rfl,rfl,rfl,rfl,rfl,rfl,rfl,trivial⟩ ⟨congrArg (fun x=>some (AO.row 3 1 x)) ?_,rfl,rfl,trivial⟩,hlt,dec hlt⟩
      ·simp only[List.length_map];show (_+1)*8≤_;omega
      ·simp only[List.length_map,maxLen];show _+1≤_;omega
      ·rw[hfil,List.map_append];rfl
     ·have h2:(ks.contains i&&(((i:Int)==(head:Int))||reachesB g (g.getD i []) head past))=false:=h2
      rw[hisK,if_neg (by rw[h2];simp),List.append_nil] at hfil
      exact⟨trivial,i+1,Wk.sub ⟨slotI (wr1 hlt hg.len),rfl,rfl,rfl,rfl,rfl,rfl,rfl,trivial⟩ ⟨congrArg (fun x:List Nat=>some (AO.row 3 1 (x.map cI))) hfil.symm,rfl,rfl,trivial⟩,hlt,dec hlt⟩
    ·have hge:g.length≤i:=geOf h
     have hie:i=g.length:=Nat.le_antisymm hi hge
     subst hie
     exact TV.le_refl _
 ·have he:head=0:=by have h:((head:Int) != 0)=false:=h;simpa using h
  have hp:([]:List Nat)=pastK g head:=by unfold pastK;rw[if_pos he]
  generalize hpast:pastK g head=past at hp
  refine⟨setM [head],rfl,?_⟩
  refine Ok.loop (st:=loSt g head all past) (R:=fun x=>(x.2=true→∃ f,unseen g x.1<f∧growK g all past f x.1=inK g head)∧(x.2=false→x.1=inK g head)) (μ:=fun x=>if x.2=true then unseen g x.1+1 else 0) ([head],true)
   ((Wk.frz [16]).trans (Wk.sub ⟨rfl,rfl,congrArg (fun x=>some (AV.t (mpT x))) hp,rfl,rfl,rfl,trivial⟩ ⟨rfl,rfl,trivial⟩)) ?_ ?_
  ·exact⟨fun _=>⟨g.length+1,unseen_lt g [head],by unfold inK;rw[hall,hpast]⟩,fun h=>by cases h⟩
  ·rintro⟨ks,c⟩ ⟨hR1,hR2⟩
   refine ev_sound ctx (own:=[77]) _ _ _ ?_
   refine⟨fun h=>?_,fun h=>?_⟩
   ·have hc:c=true:=h
    subst hc
    obtain⟨f,hf,hgk⟩:=hR1 rfl
    have hf:unseen g ks<f:=hf
    have hgk:growK g all past f ks=inK g head:=hgk
    refine Ok.loop (st:=fun y:Nat×List Nat×Bool=>loSt2 g head all past y.1 y.2) (R:=fun y=>y.1≤g.length∧(List.range y.1).foldl (stepK g all past) (ks,false)=y.2) (μ:=fun y=>g.length-y.1) (0,(ks,false))
     (Wk.sub ⟨rfl,slotI (by simp),rfl,rfl,rfl,rfl,rfl,rfl,rfl,trivial⟩ ⟨rfl,rfl,trivial⟩) ⟨Nat.zero_le _,rfl⟩ ?_
    rintro⟨b,ks',c'⟩ ⟨hb,hfold⟩
    have hb:b≤g.length:=hb
    have hfold:(List.range b).foldl (stepK g all past) (ks,false)=(ks',c'):=hfold
    refine ev_sound ctx (own:=[77]) _ _ _ ?_
    refine⟨fun h=>?_,fun h=>?_⟩
    ·have hlt:b<g.length:=ltOf h
     have hnext:(List.range (b+1)).foldl (stepK g all past) (ks,false)=stepK g all past (ks',c') b:=by rw[foldRange,hfold]
     refine⟨tB (all.contains b),findM b all,?_⟩
     refine⟨tB (ks'.contains b),fun _=>findM b ks',?_⟩
     refine⟨tB (past.contains b),fun _=>findM b past,?_⟩
     refine⟨fun h2=>?_,fun h2=>?_⟩
     ·have h2:(!all.contains b||ks'.contains b||past.contains b)=true:=h2
      exact⟨trivial,(b+1,(ks',c')),Wk.sub ⟨slotI (wr1 hlt hg.len),rfl,rfl,rfl,rfl,rfl,rfl,rfl,rfl,trivial⟩ ⟨rfl,rfl,trivial⟩,⟨hlt,by rw[hnext];unfold stepK;rw[if_pos h2]⟩,dec hlt⟩
     ·have h2:(!all.contains b||ks'.contains b||past.contains b)=false:=h2
      have hgetG:(0:Int)≤(b:Int)∧(g.map fun l=>[encN l])[((b:Nat):Int).toNat]?=some [encN g[b]]:=⟨Int.natCast_nonneg b,by simp[List.getElem?_eq_getElem hlt]⟩
      have hgi:g.getD b []=g[b]:=by simp[List.getD,List.getElem?_eq_getElem hlt]
      have hst:stepK g all past (ks',c') b=if (g[b]).any (fun k=>ks'.contains k)=true then (ks'++[b],true) else (ks',c'):=by
       unfold stepK;rw[if_neg (by simp only;rw[h2];simp),hgi]
      rw[hst] at hnext
      generalize g[b]=l at hgetG hnext
      refine⟨[encN l],hgetG,?_⟩
      refine⟨containsFunc_ent,.inl ⟨_,containsFunc_spec l 35 [.ptr [mpT ks']] (fun k=>ks'.contains k) isIn_ent (fun n _=>isIn_spec n ks'),?_⟩⟩
      refine⟨fun h3=>?_,fun h3=>?_⟩
      ·have h3:l.any (fun k=>ks'.contains k)=true:=h3
       rw[if_pos h3] at hnext
       have hkb:ks'.contains b=false:=by
        rw[Bool.or_eq_false_iff,Bool.or_eq_false_iff] at h2
        exact h2.1.2
       refine⟨setM (ks'++[b]),setMnew b ks' hkb,?_⟩
       exact⟨trivial,(b+1,(ks'++[b],true)),Wk.sub ⟨slotI (wr1 hlt hg.len),rfl,rfl,rfl,rfl,rfl,rfl,rfl,rfl,trivial⟩ ⟨rfl,rfl,trivial⟩,⟨hlt,hnext⟩,dec hlt⟩
      ·have h3:l.any (fun k=>ks'.contains k)=false:=h3
       rw[if_neg (by rw[h3];simp)] at hnext
       exact⟨trivial,(b+1,(ks',c')),Wk.sub ⟨slotI (wr1 hlt hg.len),rfl,rfl,rfl,rfl,rfl,rfl,rfl,rfl,trivial⟩ ⟨rfl,rfl,trivial⟩,⟨hlt,hnext⟩,dec hlt⟩
    ·have hge:g.length≤b:=geOf h
     have hbe:b=g.length:=Nat.le_antisymm hb hge
     subst hbe
     have hpass:passK g all past ks=(ks',c'):=hfold
     have hmono:=pass_mono g all past ks g.length (Nat.le_refl _)
     rw[hfold] at hmono
     have hm2:c'=true→unseen g ks'<unseen g ks:=hmono.2
     obtain⟨f',rfl⟩:∃ f',f=f'+1:=⟨f-1,by omega⟩
     unfold growK at hgk
     rw[hpass] at hgk
     refine⟨(ks',c'),Wk.sub ⟨rfl,rfl,rfl,rfl,rfl,rfl,trivial⟩ ⟨rfl,rfl,trivial⟩,⟨fun hc=>?_,fun hc=>?_⟩,?_⟩
     ·have hc:c'=true:=hc
      have:=hm2 hc
      refine⟨f',by simp only;omega,?_⟩
      simp only[hc,if_true] at hgk
      exact hgk
     ·have hc:c'=false:=hc
      simp only[hc,Bool.false_eq_true,if_false] at hgk
      exact hgk
     ·cases c' with
      | true=>have:=hm2 rfl;simp only[if_true];omega
      | false=>simp
   ·have hc:c=false:=h
    have hks:ks=inK g head:=hR2 hc
    subst hc
    have hm:∀ i,(List.filter (isK g head) (List.range i)).length≤i:=fun i=>by
     have:=List.length_filter_le (isK g head) (List.range i)
     simpa using this
    refine Ok.loop (st:=fun i:Nat=>⟨[(56,vi i),(55,vi g.length),(54,.t (encG g)),(11,.sl 77),(8,.ptr 8 0),(7,.t (mpT past)),(2,.t (ptrG g)),(1,.t (tI head))],[(77,.row 3 1 (((List.range i).filter (isK g head)).map cI)),(8,.var [.sl 22]),(22,.mo (.map false (setM ks)))]⟩)
     (R:=fun i=>i≤g.length) (μ:=fun i=>g.length-i) 0 ((Wk.nil 11 77 3 1 (by decide) rfl).trans (Wk.sub ⟨rfl,slotI (by simp),rfl,rfl,rfl,rfl,rfl,rfl,trivial⟩ ⟨rfl,rfl,rfl,trivial⟩)) (Nat.zero_le _) ?_
    intro i hi
    have hi:i≤g.length:=hi
    refine ev_sound ctx (own:=[77]) _ _ _ ?_
    refine⟨fun h=>?_,fun h=>?_⟩
    ·have hlt:i<g.length:=ltOf h
     refine⟨tB (ks.contains i),findM i ks,?_⟩
     refine⟨reachesBack_ent,tB (reachesB g (g.getD i []) head past),fun _=>reachesBack_spec g hg i head hlt past,?_⟩
     have hfil:(List.range (i+1)).filter (isK g head)=(List.range i).filter (isK g head)++(if isK g head i=true then [i] else []):=by
      rw[List.range_succ,List.filter_append]
      congr 1
      cases hq:isK g head i <;> simp[List.filter,hq]
     have hisK:isK g head i=(ks.contains i&&(((i:Int)==(head:Int))||reachesB g (g.getD i []) head past)):=by
      unfold isK;rw[hks,hpast]
     have hmi:=hm i
     have hsm:=hg.sm
     refine⟨fun h2=>?_,fun h2=>?_⟩
     ·have h2:(ks.contains i&&(((i:Int)==(head:Int))||reachesB g (g.getD i []) head past))=true:=h2
      rw[hisK,if_pos h2] at hfil
      refine⟨?_,?_,trivial,i+1,Wk.sub ⟨slotI (wr1 hlt hg.len),rfl,rfl,rfl,rfl,rfl,rfl,rfl,trivial⟩ ⟨congrArg (fun x=>some (AO.row 3 1 x)) ?_,rfl,rfl,trivial⟩,hlt,dec hlt⟩
      ·simp only[List.length_map];show (_+1)*8≤_;omega
      ·simp only[List.length_map,maxLen];show _+1≤_;omega
      ·rw[hfil,List.map_append];rfl
     ·have h2:(ks.contains i&&(((i:Int)==(head:Int))||reachesB g (g.getD i []) head past))=false:=h2
      rw[hisK,if_neg (by rw[h2];simp),List.append_nil] at hfil
      exact⟨trivial,i+1,Wk.sub ⟨slotI (wr1 hlt hg.len),rfl,rfl,rfl,rfl,rfl,rfl,rfl,trivial⟩ ⟨congrArg (fun x:List Nat=>some (AO.row 3 1 (x.map cI))) hfil.symm,rfl,rfl,trivial⟩,hlt,dec hlt⟩
    ·have hge:g.length≤i:=geOf h
     have hie:i=g.length:=Nat.le_antisymm hi hge
     subst hie
     exact TV.le_refl _
end
section
def tU (n:Int):TV:=.v (.int .u64 n)
omit [Gm] in
theorem and32 {n:Nat} (h:n<2147483648):IntKind.u64.wrap ((BitVec.ofInt IntKind.u64.bits (n:Int) &&& BitVec.ofInt IntKind.u64.bits 4294967295).toNat:Int)=(n:Int):=by
 have h1:(BitVec.ofInt IntKind.u64.bits (n:Int)).toNat=n:=by
  rw[BitVec.toNat_ofInt]
  show ((n:Int) % ((2 ^ 64:Nat):Int)).toNat=n
  omega
 have h2:(BitVec.ofInt IntKind.u64.bits (4294967295:Int)).toNat=2 ^ 32-1:=by
  rw[BitVec.toNat_ofInt]
  show ((4294967295:Int) % ((2 ^ 64:Nat):Int)).toNat=_
  omega
 rw[BitVec.toNat_and,h1,h2,Nat.and_two_pow_sub_one_eq_mod]
 unfold IntKind.wrap
 simp[IntKind.bits,IntKind.signed]
 omega
theorem mul64_ent:Ent Tryz.prog 103:=fun a w=>Tryz.call103 a w
theorem mul64_spec (n:Nat) (h:n<2147483648):PC Tryz.prog 103 [tU 1,tU n] (.tup [tU 0,tU n]):=by
 refine PC.of_ok tok Tryz.func103 rfl (Nat.le_of_ble_eq_true rfl) (ev_sound ctx (own:=[]) _ _ _ ?_)
 have s32:(0:Int)≤32:=by decide
 refine⟨trivial,s32,trivial,s32,trivial,trivial,s32,trivial,trivial,s32,trivial,trivial,trivial,trivial,s32,trivial,trivial,?_⟩
 refine toEq ?_
 have hw:∀ m:Nat,m<18446744073709551616→IntKind.u64.wrap (m:Int)=(m:Int):=fun m hm=>by
  unfold IntKind.wrap
  simp[IntKind.bits,IntKind.signed]
  omega
 have hsh:∀ m:Nat,m<4294967296→(m:Int).fdiv (2 ^ min (Int.toNat 32) IntKind.u64.bits)=0:=fun m hm=>by
  have e:(2:Int) ^ min (Int.toNat 32) IntKind.u64.bits=4294967296:=by decide
  rw[e,Int.fdiv_eq_ediv_of_nonneg _ (by decide)];omega
 have a0:∀ x,x=(0:Int)→IntKind.u64.wrap ((BitVec.ofInt IntKind.u64.bits x &&& BitVec.ofInt IntKind.u64.bits 4294967295).toNat:Int)=0:=fun x hx=>by subst hx;exact and32 (n:=0) (by decide)
 have a1:IntKind.u64.wrap ((BitVec.ofInt IntKind.u64.bits 1 &&& BitVec.ofInt IntKind.u64.bits 4294967295).toNat:Int)=1:=and32 (n:=1) (by decide)
 have sh1:Int.fdiv 1 (2 ^ min (Int.toNat 32) IntKind.u64.bits)=0:=hsh 1 (by decide)
 have sh0:Int.fdiv 0 (2 ^ min (Int.toNat 32) IntKind.u64.bits)=0:=hsh 0 (by decide)
 have hw0:IntKind.u64.wrap 0=0:=hw 0 (by decide)
 simp only[and32 h,a1,sh1,hsh n (by omega),Int.zero_mul,Int.mul_zero,hw0,Int.one_mul,hw n (by omega),Int.add_zero,a0 0 rfl,sh0]
 rfl
theorem mul_ent:Ent Tryz.prog 82:=fun a w=>Tryz.call82 a w
theorem mul_spec (n:Nat) (h:n<2147483648):PC Tryz.prog 82 [tU 1,tU n] (.tup [tU 0,tU n]):=by
 refine PC.of_ok tok Tryz.func82 rfl (Nat.le_of_ble_eq_true rfl) (ev_sound ctx (own:=[]) _ _ _ ?_)
 refine⟨fun h=>(nomatch h),fun _=>?_⟩
 exact⟨mul64_ent,.inl ⟨_,mul64_spec n h,rfl⟩⟩
omit [Gm] in
theorem rep_copy {α:Type} (x z:α) (m n:Nat) (h:m≤n) :
  (List.replicate m x++List.replicate (n-m) z).take m++((((List.replicate m x++List.replicate (n-m) z).drop 0).take m).take (n-m))++(List.replicate m x++List.replicate (n-m) z).drop (m+((((List.replicate m x++List.replicate (n-m) z).drop 0).take m).take (n-m)).length)
   = List.replicate (m+min m (n-m)) x++List.replicate (n-(m+min m (n-m))) z:=by
 have e1:(List.replicate m x++List.replicate (n-m) z).take m=List.replicate m x:=by rw[List.take_append_of_le_length (by simp)];simp
 rw[List.drop_zero,e1,List.take_replicate,List.length_replicate,←List.drop_drop,List.drop_left' (by simp),List.drop_replicate,List.replicate_append_replicate,Nat.min_comm (n-m) m]
 congr 2
 omega
theorem repB_ent:Ent Tryz.prog 57:=fun a w=>Tryz.call57 a w
theorem repB_spec (x:TV) (n:Nat) (h:n≤1000000):OC Tryz.prog 57 [.sl 1 [[x]],tI n] 4 1 (List.replicate n [x]):=by
 have hwn:IntKind.i64.wrap (n:Int)=n:=wr (by omega) (by omega)
 have hun:IntKind.u64.wrap (n:Int)=n:=by
  unfold IntKind.wrap
  simp[IntKind.bits,IntKind.signed]
  omega
 have hmul:PC Tryz.prog 82 [tU (IntKind.u64.wrap ((1:Nat):Int)),tU (IntKind.u64.wrap (n:Int))] (.tup [tU 0,tU n]):=by
  rw[hun];exact mul_spec n (by omega)
 refine OC.of_ok Tryz.func57 rfl (Nat.le_of_ble_eq_true rfl) (ev_sound ctx (own:=[30,9999]) _ _ _ ?_)
 refine⟨fun h1=>?_,fun _=>?_⟩
 ·exfalso
  have:=of_decide_eq_true h1
  omega
 refine⟨mul_ent,.inl ⟨_,hmul,?_⟩⟩
 refine⟨fun h1=>?_,fun _=>?_⟩
 ·exfalso
  have h1:(decide ((0:Int)>0)||decide ((n:Int)>9223372036854775807))=true:=h1
  simp at h1
  omega
 have hz:(List.replicate (IntKind.i64.wrap (n:Int)).toNat [tB false])=List.replicate n [tB false]:=by rw[hwn];rfl
 refine⟨by rw[hwn];omega,Int.le_refl _,by rw[hwn];omega,by rw[hwn];show n*1≤_;omega,?_⟩
 refine Ok.loop (st:=fun m:Nat=>⟨[(8,vi m),(7,.sl 30)],[(30,.row 4 1 (List.replicate m [x]++List.replicate (n-m) [tB false]))]⟩) (R:=fun m=>m≤n∧(0<n→0<m)) (μ:=fun m=>n-m) (min 1 n)
  (Wk.sub ⟨slotI ?_,rfl,trivial⟩ ⟨congrArg (fun x=>some (AO.row 4 1 x)) ?_,trivial⟩) ⟨Nat.min_le_right _ _,fun h=>by omega⟩ ?_
 ·simp only[hwn,Int.toNat_natCast,List.length_replicate,List.length_take]
  rw[Nat.min_comm];rfl
 ·rw[hwn,Int.toNat_natCast]
  cases n with
  | zero=>rfl
  | succ n =>
   have:min 1 (n+1)=1:=by omega
   rw[this]
   simp
   exact .inr rfl
 ·rintro m ⟨hm,hm0⟩
  have hlen:(List.replicate m [x]++List.replicate (n-m) [tB false]).length=n:=by simp;omega
  refine ev_sound ctx (own:=[30,9999]) _ _ _ ?_
  refine⟨fun h1=>?_,fun h1=>?_⟩
  ·have hlt:m<n:=by
    have:=of_decide_eq_true h1
    rw[hlen] at this;omega
   have hm0:0<m:=hm0 (by omega)
   refine⟨by kernel_rfl,?_⟩
   refine⟨fun _=>⟨by omega,by rw[hlen];omega,Int.le_refl _⟩,?_⟩
   refine⟨fun _=>⟨Int.le_refl _,by omega,by rw[hlen];omega⟩,?_⟩
   refine⟨trivial,m+min m (n-m),Wk.sub ⟨slotI ?_,rfl,trivial⟩ ⟨congrArg (fun x=>some (AO.row 4 1 x)) ?_,trivial⟩,⟨by omega,fun _=>by omega⟩,by show n-(m+min m (n-m))<n-m;omega⟩
   ·simp only[hlen,Int.toNat_natCast,show Int.toNat 0=0 from rfl,Nat.sub_zero,Nat.zero_add,Nat.add_zero,List.drop_zero]
    rw[List.take_append_of_le_length (by simp),List.take_replicate,List.take_replicate,List.length_replicate,Nat.min_self,Nat.min_comm (n-m) m,←Int.natCast_add]
    exact wr (by omega) (by omega)
   ·have hc:=rep_copy [x] [tB false] m n (by omega)
    simp only[List.drop_zero] at hc
    simp only[hlen,Int.toNat_natCast,show Int.toNat 0=0 from rfl,Nat.sub_zero,Nat.zero_add,Nat.add_zero,List.drop_zero]
    exact hc
  ·have hge:n≤m:=by
    have:=of_decide_eq_false h1
    rw[hlen] at this;omega
   have:m=n:=Nat.le_antisymm hm hge
   subst this
   exact⟨rfl,rfl,by simp⟩
theorem repI_ent:Ent Tryz.prog 59:=fun a w=>Tryz.call59 a w
theorem repI_spec (x:TV) (n:Nat) (h:n≤1000000):OC Tryz.prog 59 [.sl 1 [[x]],tI n] 3 1 (List.replicate n [x]):=by
 have hwn:IntKind.i64.wrap (n:Int)=n:=wr (by omega) (by omega)
 have hun:IntKind.u64.wrap (n:Int)=n:=by
  unfold IntKind.wrap
  simp[IntKind.bits,IntKind.signed]
  omega
 have hmul:PC Tryz.prog 82 [tU (IntKind.u64.wrap ((1:Nat):Int)),tU (IntKind.u64.wrap (n:Int))] (.tup [tU 0,tU n]):=by
  rw[hun];exact mul_spec n (by omega)
 refine OC.of_ok Tryz.func59 rfl (Nat.le_of_ble_eq_true rfl) (ev_sound ctx (own:=[30,9999]) _ _ _ ?_)
 refine⟨fun h1=>?_,fun _=>?_⟩
 ·exfalso
  have:=of_decide_eq_true h1
  omega
 refine⟨mul_ent,.inl ⟨_,hmul,?_⟩⟩
 refine⟨fun h1=>?_,fun _=>?_⟩
 ·exfalso
  have h1:(decide ((0:Int)>0)||decide ((n:Int)>9223372036854775807))=true:=h1
  simp at h1
  omega
 have hz:(List.replicate (IntKind.i64.wrap (n:Int)).toNat [tI 0])=List.replicate n [tI 0]:=by rw[hwn];rfl
 refine⟨by rw[hwn];omega,Int.le_refl _,by rw[hwn];omega,by rw[hwn];show n*8≤_;omega,?_⟩
 refine Ok.loop (st:=fun m:Nat=>⟨[(8,vi m),(7,.sl 30)],[(30,.row 3 1 (List.replicate m [x]++List.replicate (n-m) [tI 0]))]⟩) (R:=fun m=>m≤n∧(0<n→0<m)) (μ:=fun m=>n-m) (min 1 n)
  (Wk.sub ⟨slotI ?_,rfl,trivial⟩ ⟨congrArg (fun x=>some (AO.row 3 1 x)) ?_,trivial⟩) ⟨Nat.min_le_right _ _,fun h=>by omega⟩ ?_
 ·simp only[hwn,Int.toNat_natCast,List.length_replicate,List.length_take]
  rw[Nat.min_comm];rfl
 ·rw[hwn,Int.toNat_natCast]
  cases n with
  | zero=>rfl
  | succ n =>
   have:min 1 (n+1)=1:=by omega
   rw[this]
   simp
   exact .inr rfl
 ·rintro m ⟨hm,hm0⟩
  have hlen:(List.replicate m [x]++List.replicate (n-m) [tI 0]).length=n:=by simp;omega
  refine ev_sound ctx (own:=[30,9999]) _ _ _ ?_
  refine⟨fun h1=>?_,fun h1=>?_⟩
  ·have hlt:m<n:=by
    have:=of_decide_eq_true h1
    rw[hlen] at this;omega
   have hm0:0<m:=hm0 (by omega)
   refine⟨by kernel_rfl,?_⟩
   refine⟨fun _=>⟨by omega,by rw[hlen];omega,Int.le_refl _⟩,?_⟩
   refine⟨fun _=>⟨Int.le_refl _,by omega,by rw[hlen];omega⟩,?_⟩
   refine⟨trivial,m+min m (n-m),Wk.sub ⟨slotI ?_,rfl,trivial⟩ ⟨congrArg (fun x=>some (AO.row 3 1 x)) ?_,trivial⟩,⟨by omega,fun _=>by omega⟩,by show n-(m+min m (n-m))<n-m;omega⟩
   ·simp only[hlen,Int.toNat_natCast,show Int.toNat 0=0 from rfl,Nat.sub_zero,Nat.zero_add,Nat.add_zero,List.drop_zero]
    rw[List.take_append_of_le_length (by simp),List.take_replicate,List.take_replicate,List.length_replicate,Nat.min_self,Nat.min_comm (n-m) m,←Int.natCast_add]
    exact wr (by omega) (by omega)
   ·have hc:=rep_copy [x] [tI 0] m n (by omega)
    simp only[List.drop_zero] at hc
    simp only[hlen,Int.toNat_natCast,show Int.toNat 0=0 from rfl,Nat.sub_zero,Nat.zero_add,Nat.add_zero,List.drop_zero]
    exact hc
  ·have hge:n≤m:=by
    have:=of_decide_eq_false h1
    rw[hlen] at this;omega
   have:m=n:=Nat.le_antisymm hm hge
   subst this
   exact⟨rfl,rfl,by simp⟩
end
section
def toL (g:Gr) (ks:List Nat):List Bool:=(List.range g.length).map fun n=>ks.contains n
def encB (l:List Bool):TV:=.sl 1 (l.map cB)
omit [Gm] in
theorem toL_len (g:Gr) (ks:List Nat):(toL g ks).length=g.length:=by simp[toL]
omit [Gm] in
theorem toL_get {g:Gr} {ks:List Nat} {i:Nat} (h:i<g.length):(toL g ks)[i]?=some (ks.contains i):=by simp[toL,h]
omit [Gm] in
theorem toL_getC {g:Gr} {ks:List Nat} {i:Nat} (h:i<g.length):((toL g ks).map cB)[((i:Nat):Int).toNat]?=some (cB (ks.contains i)):=by
 rw[Int.toNat_natCast,List.getElem?_map,toL_get h];rfl
omit [Gm] in
theorem toL_set {g:Gr} {ks:List Nat} {i:Nat} (h:i<g.length):(toL g ks).set i true=toL g (ks++[i]):=by
 apply List.ext_getElem?
 intro j
 rw[List.getElem?_set]
 by_cases hj:j<g.length
 ·rw[toL_get (ks:=ks++[i]) hj]
  by_cases e:i=j
  ·subst e
   rw[if_pos rfl,toL_len,if_pos h]
   simp
  ·rw[if_neg e,toL_get hj]
   have e':¬ j=i:=fun h=>e h.symm
   simp[e']
 ·have h1:(toL g (ks++[i]))[j]?=none:=by rw[List.getElem?_eq_none];rw[toL_len];omega
  have h2:(toL g ks)[j]?=none:=by rw[List.getElem?_eq_none];rw[toL_len];omega
  rw[h1,h2]
  have:¬ i=j:=by omega
  rw[if_neg this]
omit [Gm] in
theorem toL_nil (g:Gr):toL g []=List.replicate g.length false:=by
 simp[toL]
 apply List.ext_getElem?
 intro j
 by_cases hj:j<g.length
 ·simp[hj]
 ·simp[hj]
def g5Os (g:Gr) (wo:Int) (ks:List Nat):List AO:=goOs g wo (toL g ks)
theorem g5_spec (g:Gr) (hg:GrOK g) (wo:Int):∀ (f:Nat) (ks:List Nat) (i:Nat),i<g.length→unseen g ks<f →
  SC Tryz.prog 81 (g5Os g wo ks) (goArgs i) (fun x os'=>x=.ret (.tup [])∧os'=g5Os g wo (goK g wo f i ks)):=by
 intro f
 induction f with
 | zero=>intro ks i _ h;omega
 | succ f ih =>
 intro ks i hi hf
 have hgetB:((toL g ks).map cB)[((i:Nat):Int).toNat]?=some (cB (ks.contains i)):=toL_getC hi
 have hbnd:(0:Int)≤(i:Int)∧(i:Int)<((toL g ks).map cB).length:=⟨Int.natCast_nonneg i,by rw[List.length_map,toL_len];omega⟩
 refine SC.of_ok tok Tryz.func81 rfl (Nat.le_of_ble_eq_true rfl) (Nat.le_of_ble_eq_true rfl) (ev_sound ctx (own:=[]) _ _ _ ?_)
 refine⟨fun _=>hbnd,cB (ks.contains i),hgetB,?_⟩
 refine⟨fun h=>?_,fun h=>?_⟩
 ·have h:((i:Int)==wo||ks.contains i)=true:=h
  refine⟨g5Os g wo ks,⟨rfl,?_⟩,rfl,rfl,rfl,rfl,rfl,rfl,rfl,trivial⟩
  unfold goK
  rw[if_pos h]
 ·have h:((i:Int)==wo||ks.contains i)=false:=h
  have hgo:goK g wo (f+1) i ks=(g.getD i []).foldl (fun ks k=>goK g wo f k ks) (ks++[i]):=by
   conv=>lhs;unfold goK
   rw[if_neg (by rw[h];simp)]
  rw[hgo]
  rw[Bool.or_eq_false_iff] at h
  have hk:=h.2
  have hun:=unseen_add g hi hk
  have hgetG:(0:Int)≤(i:Int)∧(g.map fun l=>[encN l])[((i:Nat):Int).toNat]?=some [encN g[i]]:=⟨Int.natCast_nonneg i,by simp[List.getElem?_eq_getElem hi]⟩
  have hgi:g.getD i []=g[i]:=by simp[List.getD,List.getElem?_eq_getElem hi]
  have hlen:=hg.lenl _ (List.getElem_mem hi)
  have hltl:=hg.lt _ (List.getElem_mem hi)
  rw[hgi]
  generalize g[i]=l at hgetG hlen hltl
  refine⟨hbnd,?_⟩
  refine⟨cB (ks.contains i),hgetB,?_⟩
  refine⟨[encN l],hgetG,?_⟩
  have hset:(((toL g ks).map cB).set ((i:Nat):Int).toNat ((cB (ks.contains i)).take 0++[tB true]++(cB (ks.contains i)).drop (0+1)))=(toL g (ks++[i])).map cB:=by
   rw[←toL_set hi,List.map_set];rfl
  refine Ok.loop (st:=fun x:Nat=>⟨[(25,vi x),(24,vi l.length),(23,.t (encN l)),(4,.ptr 1003 0),(3,.ptr 1002 0),(2,.ptr 1001 0),(1,.ptr 1000 0)],lab 1000 (g5Os g wo ((l.take x).foldl (fun ks k=>goK g wo f k ks) (ks++[i])))⟩)
   (R:=fun x=>x≤l.length) (μ:=fun x=>l.length-x) 0
   (Wk.sub ⟨rfl,slotI (by simp),rfl,rfl,rfl,rfl,rfl,trivial⟩ ⟨rfl,rfl,rfl,rfl,congrArg (fun x=>some (AO.row 4 1 x)) hset,trivial⟩)
   (Nat.zero_le _) ?_
  intro j hj
  refine ev_sound ctx (own:=[]) _ _ _ ?_
  refine⟨fun h=>?_,fun h=>?_⟩
  ·have hlt:j<l.length:=ltOf h
   have hgetL:(0:Int)≤(j:Int)∧(l.map cI)[((j:Nat):Int).toNat]?=some (cI l[j]):=getM hlt
   have hk:=hltl _ (List.getElem_mem hlt)
   have htk:l.take (j+1)=l.take j++[l[j]]:=by rw[List.take_add_one,List.getElem?_eq_getElem hlt];rfl
   generalize l[j]=k at hgetL hk htk
   have hpre:∀ (m:List Nat) (ks:List Nat),ks <+: m.foldl (fun ks k=>goK g wo f k ks) ks:=by
    intro m
    induction m with
    | nil=>intro ks;exact List.prefix_refl ks
    | cons k m ih=>intro ks;exact (goK_pre g wo f k ks).trans (ih _)
   have hle:unseen g ((l.take j).foldl (fun ks k=>goK g wo f k ks) (ks++[i]))≤unseen g (ks++[i]):=unseen_le g (fun n hn=>(hpre _ _).subset hn)
   have hnext:(l.take (j+1)).foldl (fun ks k=>goK g wo f k ks) (ks++[i])=goK g wo f k ((l.take j).foldl (fun ks k=>goK g wo f k ks) (ks++[i])):=by
    rw[htk,List.foldl_append];rfl
   generalize hM:(l.take j).foldl (fun ks k=>goK g wo f k ks) (ks++[i])=M at hle hnext ⊢
   refine⟨cI k,hgetL,?_⟩
   refine⟨go_ent,[1000,1001,1002,1003,1004],g5Os g wo M,goArgs k,_,ih M k hk (by omega),rfl,rfl,⟨rfl,rfl,rfl,rfl,rfl,trivial⟩,fun r os' _ hR=>?_,fun r os' _ hR=>?_⟩
   ·obtain⟨h1,rfl⟩:=hR
    injection h1 with h1
    subst h1
    exact⟨trivial,j+1,Wk.sub ⟨slotI (wr1 hlt hlen),rfl,rfl,rfl,rfl,rfl,rfl,trivial⟩ ⟨rfl,rfl,rfl,rfl,congrArg (fun x=>some (AO.row 4 1 ((toL g x).map cB))) hnext.symm,trivial⟩,hlt,dec hlt⟩
   ·cases hR.1
  ·have hge:l.length≤j:=geOf h
   have:j=l.length:=Nat.le_antisymm hj hge
   subst this
   rw[List.take_length]
   exact⟨_,⟨rfl,rfl⟩,rfl,rfl,rfl,rfl,rfl,rfl,rfl,trivial⟩
def reachL (g:Gr) (wo:Int):List Bool:=toL g (reachK g 0 wo)
theorem reached_ent:Ent Tryz.prog 56:=fun a w=>Tryz.call56 a w
theorem reached_spec (g:Gr) (hg:GrOK g) (wo:Int):PC Tryz.prog 56 [encG g,tI wo] (encB (reachL g wo)):=by
 refine PC.of_ok tok Tryz.func56 rfl (Nat.le_of_ble_eq_true rfl) (ev_sound ctx (own:=[]) _ _ _ ?_)
 have hrep:=repB_spec (tB false) g.length hg.sm
 have hlen:((g.map fun l=>[encN l]).length:Int)=(g.length:Int):=by simp
 refine⟨repB_ent,.inr ⟨_,_,_,(by rw[hlen];exact hrep:OC Tryz.prog 57 [.sl 1 [[tB false]],tI ((g.map fun l=>[encN l]).length:Nat)] 4 1 (List.replicate g.length [tB false])),?_⟩⟩
 refine⟨fun h=>?_,fun h=>?_⟩
 ·have h0:0<g.length:=by have:=of_decide_eq_true h;omega
  refine⟨go_ent,[3,5,2,6,10],g5Os g wo [],goArgs 0,_,g5_spec g hg wo (g.length+1) [] 0 h0 (unseen_lt g []),rfl,rfl,⟨rfl,rfl,rfl,rfl,?_,trivial⟩,fun r os' _ hR=>?_,fun r os' _ hR=>?_⟩
  ·refine congrArg (fun x=>some (AO.row 4 1 x)) ?_
   rw[toL_nil];simp[cB]
  ·obtain⟨h1,rfl⟩:=hR
   injection h1 with h1
   subst h1
   exact rfl
  ·cases hR.1
 ·have h0:g.length=0:=by have:=of_decide_eq_false h;omega
  have hg0:g=[]:=List.eq_nil_of_length_eq_zero h0
  subst hg0
  exact rfl
end
section
omit [Gm] in
theorem getB {L:List Bool} {i:Nat} (h:i<L.length):(0:Int)≤(i:Int)∧(L.map cB)[((i:Nat):Int).toNat]?=some (cB (L.getD i false)):=by
 refine⟨Int.natCast_nonneg i,?_⟩
 rw[Int.toNat_natCast,List.getElem?_map,List.getElem?_eq_getElem h]
 simp[List.getD,List.getElem?_eq_getElem h]
def idxOf (L:List Bool):List Nat:=(List.range L.length).filter fun i=>L.getD i false
omit [Gm] in
theorem filRange (p:Nat→Bool) (i:Nat):(List.range (i+1)).filter p=(List.range i).filter p++(if p i=true then [i] else []):=by
 rw[List.range_succ,List.filter_append]
 congr 1
 cases hq:p i <;> simp[List.filter,hq]
omit [Gm] in
theorem filLen (p:Nat→Bool) (i:Nat):((List.range i).filter p).length≤i:=by
 have:=List.length_filter_le p (List.range i)
 simpa using this
theorem indices_ent:Ent Tryz.prog 58:=fun a w=>Tryz.call58 a w
theorem indices_spec (L:List Bool) (hL:L.length≤1000000):PC Tryz.prog 58 [encB L] (encN (idxOf L)):=by
 refine PC.of_okL tok Tryz.func58 rfl (Nat.le_of_ble_eq_true rfl) (ev_sound ctx (own:=[17]) _ _ _ ?_)
 refine Ok.loop (st:=fun i:Nat=>⟨[(8,vi i),(7,vi L.length),(6,.t (encB L)),(3,.sl 17)],[(17,.row 3 1 (((List.range i).filter fun i=>L.getD i false).map cI))]⟩)
  (R:=fun i=>i≤L.length) (μ:=fun i=>L.length-i) 0 ((Wk.nil 3 17 3 1 (by decide) rfl).trans (Wk.sub ⟨rfl,slotI (by simp),rfl,rfl,trivial⟩ ⟨rfl,trivial⟩)) (Nat.zero_le _) ?_
 intro i hi
 have hi:i≤L.length:=hi
 refine ev_sound ctx (own:=[17]) _ _ _ ?_
 refine⟨fun h=>?_,fun h=>?_⟩
 ·have hlt:i<L.length:=ltOf h
  have hmx:L.length≤maxLen:=by simp only[maxLen];omega
  have hfil:=filRange (fun i=>L.getD i false) i
  have hmi:=filLen (fun i=>L.getD i false) i
  refine⟨cB (L.getD i false),getB hlt,?_⟩
  refine⟨fun h2=>?_,fun h2=>?_⟩
  ·have h2:L.getD i false=true:=h2
   rw[if_pos h2] at hfil
   refine⟨?_,?_,trivial,i+1,Wk.sub ⟨slotI (wr1 hlt hmx),rfl,rfl,rfl,trivial⟩ ⟨congrArg (fun x=>some (AO.row 3 1 x)) ?_,trivial⟩,hlt,dec hlt⟩
   ·simp only[List.length_map];show (_+1)*8≤_;omega
   ·simp only[List.length_map,maxLen];show _+1≤_;omega
   ·rw[hfil,List.map_append];rfl
  ·have h2:L.getD i false=false:=h2
   rw[if_neg (by rw[h2];simp),List.append_nil] at hfil
   exact⟨trivial,i+1,Wk.sub ⟨slotI (wr1 hlt hmx),rfl,rfl,rfl,trivial⟩ ⟨congrArg (fun x:List Nat=>some (AO.row 3 1 (x.map cI))) hfil.symm,trivial⟩,hlt,dec hlt⟩
 ·have hge:L.length≤i:=geOf h
  have:i=L.length:=Nat.le_antisymm hi hge
  subst this
  exact TV.le_refl _
def hitJ (g:Gr) (i j:Nat):Bool:=(reachL g (-1)).getD j false&&!(reachL g i).getD j false&&(g.getD j []).any fun x:Nat=>(i:Int)==(x:Int)
def hitK (g:Gr) (i:Nat):Bool:=(reachL g (-1)).getD i false&&(List.range g.length).any (hitJ g i)
def headsK (g:Gr):List Nat:=(List.range g.length).filter (hitK g)
omit [Gm] in
theorem reachL_len (g:Gr) (wo:Int):(reachL g wo).length=g.length:=toL_len g _
omit [Gm] in
theorem anyRange (p:Nat→Bool) (j:Nat):(List.range (j+1)).any p=((List.range j).any p||p j):=by
 rw[List.range_succ,List.any_append];simp
def mk1 (g:Gr) (i:Nat):List Bool:=(List.range i).map (hitK g)++List.replicate (g.length-i) false
def mk2 (g:Gr) (i:Nat) (b:Bool):List Bool:=(List.range i).map (hitK g)++b::List.replicate (g.length-(i+1)) false
omit [Gm] in
theorem mk1_false {g:Gr} {i:Nat} (h:i<g.length):mk1 g i=mk2 g i false:=by
 unfold mk1 mk2
 rw[show g.length-i=(g.length-(i+1))+1 by omega,List.replicate_succ]
omit [Gm] in
theorem mk1_next {g:Gr} {i:Nat} (h:i<g.length):mk2 g i (hitK g i)=mk1 g (i+1):=by
 unfold mk1 mk2
 rw[List.range_succ,List.map_append,List.append_assoc];rfl
omit [Gm] in
theorem mk2_set {g:Gr} {i:Nat} (b c:Bool):(mk2 g i b).set i c=mk2 g i c:=by
 unfold mk2
 rw[List.set_append_right _ _ (by simp)]
 simp
omit [Gm] in
theorem mk2_len {g:Gr} {i:Nat} (h:i<g.length) (b:Bool):(mk2 g i b).length=g.length:=by
 unfold mk2;simp;omega
def hdSt (g:Gr) (i:Nat):St :=
 ⟨[(16,vi i),(15,vi g.length),(4,.sl 13),(3,.t (encB (reachL g (-1)))),(0,.t (encG g))],[(13,.row 4 1 ((mk1 g i).map cB))]⟩
def hdSt2 (g:Gr) (i:Nat) (j:Nat):St :=
 ⟨[(29,vi j),(28,vi g.length),(6,.t (encB (reachL g i))),(5,vi i),(16,vi i),(15,vi g.length),(4,.sl 13),(3,.t (encB (reachL g (-1)))),(0,.t (encG g))],[(13,.row 4 1 ((mk2 g i ((List.range j).any (hitJ g i))).map cB))]⟩
theorem heads_ent:Ent Tryz.prog 29:=fun a w=>Tryz.call29 a w
theorem heads_spec (g:Gr) (hg:GrOK g):PC Tryz.prog 29 [encG g] (encN (headsK g)):=by
 refine PC.of_okL tok Tryz.func29 rfl (Nat.le_of_ble_eq_true rfl) (ev_sound ctx (own:=[13]) _ _ _ ?_)
 have hrep:=repB_spec (tB false) g.length hg.sm
 have hlen:((g.map fun l=>[encN l]).length:Int)=(g.length:Int):=by simp
 refine⟨reached_ent,.inl ⟨_,reached_spec g hg (-1),?_⟩⟩
 refine⟨repB_ent,.inr ⟨_,_,_,(by rw[hlen];exact hrep:OC Tryz.prog 57 [.sl 1 [[tB false]],tI ((g.map fun l=>[encN l]).length:Nat)] 4 1 (List.replicate g.length [tB false])),?_⟩⟩
 refine Ok.loop (st:=hdSt g) (R:=fun i=>i≤g.length) (μ:=fun i=>g.length-i) 0
  (Wk.sub ⟨rfl,slotI (by simp),rfl,rfl,rfl,trivial⟩ ⟨congrArg (fun x=>some (AO.row 4 1 x)) (by simp[mk1,cB]),trivial⟩) (Nat.zero_le _) ?_
 intro i hi
 have hi:i≤g.length:=hi
 refine ev_sound ctx (own:=[13]) _ _ _ ?_
 refine⟨fun h=>?_,fun h=>?_⟩
 ·have hlt:i<g.length:=ltOf h
  have hL:i<(reachL g (-1)).length:=by rw[reachL_len];exact hlt
  refine⟨cB ((reachL g (-1)).getD i false),getB hL,?_⟩
  refine⟨fun h2=>?_,fun h2=>?_⟩
  ·have h2:(!(reachL g (-1)).getD i false)=true:=h2
   have hh:hitK g i=false:=by rw[Bool.not_eq_true'] at h2;unfold hitK;rw[h2];rfl
   refine⟨trivial,i+1,Wk.sub ⟨slotI (wr1 hlt hg.len),rfl,rfl,rfl,rfl,trivial⟩ ⟨congrArg (fun x:List Bool=>some (AO.row 4 1 (x.map cB))) ?_,trivial⟩,hlt,dec hlt⟩
   rw[mk1_false hlt,←hh];exact mk1_next hlt
  ·have h2:(!(reachL g (-1)).getD i false)=false:=h2
   have hri:(reachL g (-1)).getD i false=true:=by simpa using h2
   refine⟨reached_ent,.inl ⟨_,reached_spec g hg i,?_⟩⟩
   refine Ok.loop (st:=hdSt2 g i) (R:=fun j=>j≤g.length) (μ:=fun j=>g.length-j) 0
    (Wk.sub ⟨rfl,slotI (by simp),rfl,rfl,rfl,rfl,rfl,rfl,rfl,trivial⟩ ⟨congrArg (fun x:List Bool=>some (AO.row 4 1 (x.map cB))) (mk1_false hlt),trivial⟩) (Nat.zero_le _) ?_
   intro j hj
   have hj:j≤g.length:=hj
   refine ev_sound ctx (own:=[13]) _ _ _ ?_
   refine⟨fun h3=>?_,fun h3=>?_⟩
   ·have hjlt:j<g.length:=ltOf h3
    have hL1:j<(reachL g (-1)).length:=by rw[reachL_len];exact hjlt
    have hL2:j<(reachL g i).length:=by rw[reachL_len];exact hjlt
    have hgetG:(0:Int)≤(j:Int)∧(g.map fun l=>[encN l])[((j:Nat):Int).toNat]?=some [encN (g.getD j [])]:=⟨Int.natCast_nonneg j,by simp[List.getD,List.getElem?_eq_getElem hjlt]⟩
    refine⟨cB ((reachL g (-1)).getD j false),getB hL1,?_⟩
    refine⟨cB ((reachL g i).getD j false),fun _=>getB hL2,?_⟩
    refine⟨[encN (g.getD j [])],fun _=>hgetG,?_⟩
    refine⟨contains_ent,tB ((g.getD j []).any fun x:Nat=>(i:Int)==(x:Int)),fun _=>contains_spec _ _,?_⟩
    have hany:=anyRange (hitJ g i) j
    refine⟨fun h4=>?_,fun h4=>?_⟩
    ·have h4:hitJ g i j=true:=h4
     rw[h4,Bool.or_true] at hany
     have hil:i<(mk2 g i ((List.range j).any (hitJ g i))).length:=by rw[mk2_len hlt];exact hlt
     refine⟨⟨Int.natCast_nonneg i,by rw[List.length_map];omega⟩,cB ((mk2 g i ((List.range j).any (hitJ g i))).getD i false),(getB hil).2,?_⟩
     refine⟨trivial,j+1,Wk.sub ⟨slotI (wr1 hjlt hg.len),rfl,rfl,rfl,rfl,rfl,rfl,rfl,rfl,trivial⟩ ⟨congrArg (fun x=>some (AO.row 4 1 x)) ?_,trivial⟩,hjlt,dec hjlt⟩
     rw[hany,←mk2_set ((List.range j).any (hitJ g i)) true,List.map_set];rfl
    ·have h4:hitJ g i j=false:=h4
     rw[h4,Bool.or_false] at hany
     exact⟨trivial,j+1,Wk.sub ⟨slotI (wr1 hjlt hg.len),rfl,rfl,rfl,rfl,rfl,rfl,rfl,rfl,trivial⟩ ⟨congrArg (fun x:Bool=>some (AO.row 4 1 ((mk2 g i x).map cB))) hany.symm,trivial⟩,hjlt,dec hjlt⟩
   ·have hge:g.length≤j:=geOf h3
    have:j=g.length:=Nat.le_antisymm hj hge
    subst this
    have hh:hitK g i=(List.range g.length).any (hitJ g i):=by unfold hitK;rw[hri];rfl
    refine⟨trivial,i+1,Wk.sub ⟨slotI (wr1 hlt hg.len),rfl,rfl,rfl,rfl,trivial⟩ ⟨congrArg (fun x:List Bool=>some (AO.row 4 1 (x.map cB))) ?_,trivial⟩,hlt,dec hlt⟩
    rw[←hh];exact mk1_next hlt
 ·have hge:g.length≤i:=geOf h
  have:i=g.length:=Nat.le_antisymm hi hge
  subst this
  have hmk:mk1 g g.length=(List.range g.length).map (hitK g):=by unfold mk1;simp
  have hidx:idxOf (mk1 g g.length)=headsK g:=by
   unfold idxOf headsK
   rw[hmk,List.length_map,List.length_range]
   refine List.filter_congr fun x hx=>?_
   have hx:x<g.length:=by simpa using hx
   simp[List.getD,hx]
  have hsp:=indices_spec (mk1 g g.length) (by rw[hmk];simp;exact hg.sm)
  rw[hidx] at hsp
  refine .inl ⟨indices_ent,.inl ⟨_,hsp,?_⟩⟩
  exact TV.le_refl _
end
section
def isHd (hs:List Nat) (i:Nat):Bool:=hs.any fun x:Nat=>(i:Int)==(x:Int)
def cirF (g:Gr) (hs:List Nat):Nat→Nat→List Nat→Bool×List Nat
 | 0,_,C=>(false,C)
 | f+1,i,C=>if (isHd hs i||(C.getD i 0:Int)==2)=true then (false,C) else if ((C.getD i 0:Int)==1)=true then (true,C) else
   match anyK (cirF g hs f) (g.getD i []) (C.set i 1) with
   | (true,C')=>(true,C')
   | (false,C')=>(false,C'.set i 2)
def white (C:List Nat):Nat:=C.countP fun c=>!(c==1||c==2)
omit [Gm] in
theorem white_set (C:List Nat) (i c:Nat) (h:(c==1||c==2)=true):white (C.set i c)≤white C:=by
 unfold white
 by_cases hi:i<C.length
 ·rw[List.countP_set hi]
  simp only[h,Bool.not_true,Bool.false_eq_true,if_false,Nat.add_zero]
  omega
 ·rw[List.set_eq_of_length_le (by omega)];exact Nat.le_refl _
omit [Gm] in
theorem white_lt (C:List Nat) (i:Nat) (hi:i<C.length) (h1:C.getD i 0≠1) (h2:C.getD i 0≠2):white (C.set i 1)<white C:=by
 unfold white
 have hg:C.getD i 0=C[i]:=by simp[List.getD,hi]
 rw[hg] at h1 h2
 have hp:0<C.countP (fun c=>!(c==1||c==2)):=List.countP_pos_iff.2 ⟨C[i],List.getElem_mem hi,by simp[h1,h2]⟩
 rw[List.countP_set hi]
 have e1:(!(C[i]==1||C[i]==2))=true:=by simp[h1,h2]
 have e2:(!((1:Nat)==1||(1:Nat)==2))=false:=rfl
 simp only[e1,e2,if_true,Bool.false_eq_true,if_false]
 omega
omit [Gm] in
theorem anyK_inv {F:Nat→List Nat→Bool×List Nat} {n w:Nat} (hF:∀ k C,C.length=n→(F k C).2.length=n∧white (F k C).2≤white C):∀ (l C:List Nat),C.length=n→(anyK F l C).2.length=n∧white (anyK F l C).2≤white C
 | [],C,h=>⟨h,Nat.le_refl _⟩
 | k::l,C,h=>by
  have:=hF k C h
  unfold anyK
  split
  ·rename_i C' e;rw[e] at this;exact this
  ·rename_i C' e
   rw[e] at this
   have ih:=anyK_inv (w:=w) hF l C' this.1
   exact⟨ih.1,Nat.le_trans ih.2 this.2⟩
omit [Gm] in
theorem cirF_inv (g:Gr) (hs:List Nat) (n:Nat):∀ (f i:Nat) (C:List Nat),C.length=n→(cirF g hs f i C).2.length=n∧white (cirF g hs f i C).2≤white C
 | 0,i,C,h=>⟨h,Nat.le_refl _⟩
 | f+1,i,C,h=>by
  unfold cirF
  split
  ·exact⟨h,Nat.le_refl _⟩
  ·split
   ·exact⟨h,Nat.le_refl _⟩
   ·have h1:=white_set C i 1 (by decide)
    have h2:=anyK_inv (w:=0) (cirF_inv g hs n f) (g.getD i []) (C.set i 1) (by simpa using h)
    split
    ·rename_i C' e
     rw[e] at h2
     exact⟨h2.1,Nat.le_trans h2.2 h1⟩
    ·rename_i C' e
     rw[e] at h2
     refine⟨by simpa using h2.1,Nat.le_trans (white_set C' i 2 (by decide)) (Nat.le_trans h2.2 h1)⟩
def ciCaps:List AV:=[.ptr 1000 0,.ptr 1001 0,.ptr 1002 0,.ptr 1003 0]
def ciOs (g:Gr) (hs C:List Nat):List AO :=
 [.var [.t (encN hs)],.var [.sl 1004],.var [.t (encG g)],.var [.fn 60 ciCaps],.row 3 1 (C.map cI)]
def ciR (g:Gr) (hs:List Nat) (f i:Nat) (C:List Nat) (x:SE) (os':List AO):Prop :=
 x=.ret (tB (cirF g hs f i C).1)∧os'=ciOs g hs (cirF g hs f i C).2
omit [Gm] in
theorem getC {C:List Nat} {i:Nat} (h:i<C.length):(C.map cI)[((i:Nat):Int).toNat]?=some (cI (C.getD i 0)):=by
 rw[Int.toNat_natCast,List.getElem?_map,List.getElem?_eq_getElem h]
 simp[List.getD,List.getElem?_eq_getElem h]
theorem ci_ent:Ent Tryz.prog 60:=fun a w=>Tryz.call60 a w
theorem ci_spec (g:Gr) (hg:GrOK g) (hs:List Nat):∀ (f i:Nat) (C:List Nat),i<g.length→C.length=g.length→white C<f →
  SC Tryz.prog 60 (ciOs g hs C) (.t (tI i)::ciCaps) (ciR g hs f i C):=by
 intro f
 induction f with
 | zero=>intro i C _ _ h;omega
 | succ f ih =>
 intro i C hi hC hf
 have hiC:i<C.length:=by omega
 have hbnd:(0:Int)≤(i:Int)∧(i:Int)<(C.map cI).length:=⟨Int.natCast_nonneg i,by rw[List.length_map];omega⟩
 have hget:=getC hiC
 refine SC.of_ok tok Tryz.func60 rfl (Nat.le_of_ble_eq_true rfl) (Nat.le_of_ble_eq_true rfl) (ev_sound ctx (own:=[]) _ _ _ ?_)
 refine⟨contains_ent,.inl ⟨_,contains_spec hs i,?_⟩⟩
 refine⟨fun _=>hbnd,cI (C.getD i 0),hget,?_⟩
 refine⟨fun h=>?_,fun h=>?_⟩
 ·have h:(isHd hs i||((C.getD i 0:Nat):Int)==2)=true:=h
  refine⟨ciOs g hs C,⟨?_,?_⟩,rfl,rfl,rfl,rfl,rfl,rfl,rfl,trivial⟩
  ·unfold cirF;rw[if_pos h];rfl
  ·unfold cirF;rw[if_pos h]
 ·have h:(isHd hs i||((C.getD i 0:Nat):Int)==2)=false:=h
  refine⟨hbnd,cI (C.getD i 0),hget,?_⟩
  refine⟨fun h1=>?_,fun h1=>?_⟩
  ·have h1:(((C.getD i 0:Nat):Int)==1)=true:=h1
   refine⟨ciOs g hs C,⟨?_,?_⟩,rfl,rfl,rfl,rfl,rfl,rfl,rfl,trivial⟩
   ·unfold cirF;rw[if_neg (by rw[h];simp),if_pos h1];rfl
   ·unfold cirF;rw[if_neg (by rw[h];simp),if_pos h1]
  ·have h1:(((C.getD i 0:Nat):Int)==1)=false:=h1
   have hcir:cirF g hs (f+1) i C=(match anyK (cirF g hs f) (g.getD i []) (C.set i 1) with
    | (true,C')=>(true,C')
    | (false,C')=>(false,C'.set i 2)):=by
    conv=>lhs;unfold cirF
    rw[if_neg (by rw[h];simp),if_neg (by rw[h1];simp)]
   have hw:white (C.set i 1)<white C:=by
    refine white_lt C i hiC ?_ ?_
    ·intro e;rw[e] at h1;cases h1
    ·intro e;rw[Bool.or_eq_false_iff,e] at h;exact absurd h.2 (by simp)
   have hinv:=cirF_inv g hs g.length f
   unfold ciR
   rw[hcir]
   have hgetG:(0:Int)≤(i:Int)∧(g.map fun l=>[encN l])[((i:Nat):Int).toNat]?=some [encN g[i]]:=⟨Int.natCast_nonneg i,by simp[List.getElem?_eq_getElem hi]⟩
   have hgi:g.getD i []=g[i]:=by simp[List.getD,List.getElem?_eq_getElem hi]
   have hlen:=hg.lenl _ (List.getElem_mem hi)
   have hltl:=hg.lt _ (List.getElem_mem hi)
   rw[hgi]
   generalize g[i]=l at hgetG hlen hltl
   refine⟨hbnd,?_⟩
   refine⟨cI (C.getD i 0),hget,?_⟩
   refine⟨[encN l],hgetG,?_⟩
   have hset:((C.map cI).set ((i:Nat):Int).toNat ((cI (C.getD i 0)).take 0++[tI 1]++(cI (C.getD i 0)).drop (0+1)))=(C.set i 1).map cI:=by
    rw[List.map_set];rfl
   refine Ok.loop (st:=fun x:Nat×List Nat=>⟨[(32,vi x.1),(31,vi l.length),(30,.t (encN l)),(4,.ptr 1003 0),(3,.ptr 1002 0),(2,.ptr 1001 0),(1,.ptr 1000 0),(0,.t (tI i))],lab 1000 (ciOs g hs x.2)⟩)
    (R:=fun x=>x.1≤l.length∧anyK (cirF g hs f) l (C.set i 1)=anyK (cirF g hs f) (l.drop x.1) x.2∧x.2.length=g.length∧white x.2≤white (C.set i 1)) (μ:=fun x=>l.length-x.1) (0,C.set i 1)
    (Wk.sub ⟨rfl,slotI (by simp),rfl,rfl,rfl,rfl,rfl,rfl,trivial⟩ ⟨rfl,rfl,rfl,rfl,congrArg (fun x=>some (AO.row 3 1 x)) hset,trivial⟩)
    ⟨Nat.zero_le _,rfl,by simpa using hC,Nat.le_refl _⟩ ?_
   rintro⟨j,M⟩ ⟨hj,hM,hML,hMw⟩
   have hj:j≤l.length:=hj
   have hM:anyK (cirF g hs f) l (C.set i 1)=anyK (cirF g hs f) (l.drop j) M:=hM
   have hML:M.length=g.length:=hML
   have hMw:white M≤white (C.set i 1):=hMw
   refine ev_sound ctx (own:=[]) _ _ _ ?_
   refine⟨fun h2=>?_,fun h2=>?_⟩
   ·have hlt:j<l.length:=ltOf h2
    have hgetL:(0:Int)≤(j:Int)∧(l.map cI)[((j:Nat):Int).toNat]?=some (cI l[j]):=getM hlt
    have hk:=hltl _ (List.getElem_mem hlt)
    rw[List.drop_eq_getElem_cons hlt] at hM
    generalize l[j]=k at hgetL hk hM
    simp only[anyK] at hM
    refine⟨cI k,hgetL,?_⟩
    refine⟨ci_ent,[1000,1001,1002,1003,1004],ciOs g hs M,.t (tI k)::ciCaps,_,ih k M hk hML (by omega),rfl,rfl,⟨rfl,rfl,rfl,rfl,rfl,trivial⟩,fun r os' _ hR=>?_,fun r os' _ hR=>?_⟩
    ·obtain⟨h3,rfl⟩:=hR
     injection h3 with h3
     subst h3
     have hiv:=hinv k M hML
     generalize cirF g hs f k M=q at hM hiv ⊢
     obtain⟨b,M'⟩:=q
     refine⟨fun h4=>?_,fun h4=>?_⟩
     ·have h4:b=true:=h4
      subst h4
      refine⟨ciOs g hs M',⟨?_,?_⟩,rfl,rfl,rfl,rfl,rfl,rfl,rfl,trivial⟩
      ·rw[hM];rfl
      ·rw[hM]
     ·have h4:b=false:=h4
      subst h4
      exact⟨trivial,(j+1,M'),Wk.sub ⟨slotI (wr1 hlt hlen),rfl,rfl,rfl,rfl,rfl,rfl,rfl,trivial⟩ ⟨rfl,rfl,rfl,rfl,rfl,trivial⟩,⟨hlt,hM,hiv.1,Nat.le_trans hiv.2 hMw⟩,dec hlt⟩
    ·cases hR.1
   ·have hge:l.length≤j:=geOf h2
    rw[List.drop_eq_nil_of_le hge] at hM
    have hiM:i<M.length:=by omega
    refine⟨⟨Int.natCast_nonneg i,by rw[List.length_map];omega⟩,cI (M.getD i 0),getC hiM,?_⟩
    refine⟨ciOs g hs (M.set i 2),⟨?_,?_⟩,rfl,rfl,rfl,rfl,rfl,rfl,?_,trivial⟩
    ·rw[hM];rfl
    ·rw[hM];rfl
    ·refine congrArg (fun x=>some (AO.row 3 1 x)) ?_
     rw[List.map_set];rfl
def circ (g:Gr) (hs:List Nat):Bool:=(anyK (fun k C=>if (reachL g (-1)).getD k false=true then cirF g hs (g.length+1) k C else (false,C)) (List.range g.length) (List.replicate g.length 0)).1
theorem circle_ent:Ent Tryz.prog 30:=fun a w=>Tryz.call30 a w
theorem circle_spec (g:Gr) (hg:GrOK g) (hs:List Nat):PC Tryz.prog 30 [encG g,encN hs] (tB (circ g hs)):=by
 refine PC.of_ok tok Tryz.func30 rfl (Nat.le_of_ble_eq_true rfl) (ev_sound ctx (own:=[30060]) _ _ _ ?_)
 have hrep:=repI_spec (tI 0) g.length hg.sm
 have hlen:((g.map fun l=>[encN l]).length:Int)=(g.length:Int):=by simp
 refine⟨reached_ent,.inl ⟨_,reached_spec g hg (-1),?_⟩⟩
 refine⟨repI_ent,.inr ⟨_,_,_,(by rw[hlen];exact hrep:OC Tryz.prog 59 [.sl 1 [[tI 0]],tI ((g.map fun l=>[encN l]).length:Nat)] 3 1 (List.replicate g.length [tI 0])),?_⟩⟩
 let F:Nat→List Nat→Bool×List Nat:=fun k C=>if (reachL g (-1)).getD k false=true then cirF g hs (g.length+1) k C else (false,C)
 refine Ok.loop (st:=fun x:Nat×List Nat=>⟨[(18,vi x.1),(17,vi g.length),(7,.ptr 7 0),(6,.ptr 6 0),(5,.t (encB (reachL g (-1)))),(3,.ptr 3 0),(2,.ptr 2 0)],
   [(3,.var [.t (encN hs)]),(6,.var [.sl 14]),(2,.var [.t (encG g)]),(7,.var [.fn 60 [.ptr 3 0,.ptr 6 0,.ptr 2 0,.ptr 7 0]]),(14,.row 3 1 (x.2.map cI))]⟩)
  (R:=fun x=>x.1≤g.length∧anyK F (List.range g.length) (List.replicate g.length 0)=anyK F ((List.range g.length).drop x.1) x.2∧x.2.length=g.length) (μ:=fun x=>g.length-x.1) (0,List.replicate g.length 0)
  (Wk.sub ⟨rfl,slotI (by simp),rfl,rfl,rfl,rfl,rfl,trivial⟩ ⟨rfl,rfl,rfl,rfl,congrArg (fun x=>some (AO.row 3 1 x)) (by simp[cI,tI]),trivial⟩) ⟨Nat.zero_le _,rfl,by simp⟩ ?_
 rintro⟨i,M⟩ ⟨hi,hM,hML⟩
 have hi:i≤g.length:=hi
 have hM:anyK F (List.range g.length) (List.replicate g.length 0)=anyK F ((List.range g.length).drop i) M:=hM
 have hML:M.length=g.length:=hML
 have hcirc:circ g hs=(anyK F (List.range g.length) (List.replicate g.length 0)).1:=rfl
 refine ev_sound ctx (own:=[30060]) _ _ _ ?_
 refine⟨fun h=>?_,fun h=>?_⟩
 ·have hlt:i<g.length:=ltOf h
  have hL:i<(reachL g (-1)).length:=by rw[reachL_len];exact hlt
  have hdr:(List.range g.length).drop i=i::(List.range g.length).drop (i+1):=by
   rw[List.drop_eq_getElem_cons (by simpa using hlt)];simp
  rw[hdr] at hM
  simp only[anyK] at hM
  refine⟨cB ((reachL g (-1)).getD i false),getB hL,?_⟩
  refine⟨fun hb=>?_,fun hb=>?_⟩
  ·have hb:(reachL g (-1)).getD i false=true:=hb
   have hF:F i M=cirF g hs (g.length+1) i M:=if_pos hb
   rw[hF] at hM
   have hwM:white M<g.length+1:=by
    have:white M≤M.length:=List.countP_le_length
    omega
   have hiv:=cirF_inv g hs g.length (g.length+1) i M hML
   refine⟨ci_ent,[3,6,2,7,14],ciOs g hs M,.t (tI i)::ciCaps,_,ci_spec g hg hs (g.length+1) i M hlt hML hwM,rfl,rfl,⟨rfl,rfl,rfl,rfl,rfl,trivial⟩,fun r os' _ hR=>?_,fun r os' _ hR=>?_⟩
   ·obtain⟨h3,rfl⟩:=hR
    injection h3 with h3
    subst h3
    generalize cirF g hs (g.length+1) i M=q at hM hiv ⊢
    obtain⟨b,M'⟩:=q
    refine⟨fun h4=>?_,fun h4=>?_⟩
    ·have h4:((reachL g (-1)).getD i false&&b)=true:=h4
     rw[hb,Bool.true_and] at h4
     subst h4
     refine toEq ?_
     rw[hcirc,hM];rfl
    ·have h4:((reachL g (-1)).getD i false&&b)=false:=h4
     rw[hb,Bool.true_and] at h4
     subst h4
     exact⟨trivial,(i+1,M'),Wk.sub ⟨slotI (wr1 hlt hg.len),rfl,rfl,rfl,rfl,rfl,rfl,trivial⟩ ⟨rfl,rfl,rfl,rfl,rfl,trivial⟩,⟨hlt,hM,hiv.1⟩,dec hlt⟩
   ·cases hR.1
  ·have hb:(reachL g (-1)).getD i false=false:=hb
   have hF:F i M=(false,M):=if_neg (by rw[hb];simp)
   rw[hF] at hM
   refine⟨fun h4=>?_,fun _=>?_⟩
   ·have h4:((reachL g (-1)).getD i false&&false)=true:=h4
    simp at h4
   ·exact⟨trivial,(i+1,M),Wk.sub ⟨slotI (wr1 hlt hg.len),rfl,rfl,rfl,rfl,rfl,rfl,trivial⟩ ⟨rfl,rfl,rfl,rfl,rfl,trivial⟩,⟨hlt,hM,hML⟩,dec hlt⟩
 ·have hge:g.length≤i:=geOf h
  rw[List.drop_eq_nil_of_le (by simpa using hge)] at hM
  refine toEq ?_
  rw[hcirc,hM];rfl
end
end Go.Proofs.YtaenfjplagiioaaGreatDoor.L
end
