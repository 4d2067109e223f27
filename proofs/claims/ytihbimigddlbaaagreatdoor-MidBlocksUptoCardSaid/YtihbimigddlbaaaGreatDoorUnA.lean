/- A part of the proof: PmU1 PmU2 PmU3 PmU4 PmU5 PmU6 PmU7 PmU8 PmU9 PmU10. -/
import Derived.Test.YtihbimigddlbaaaGreatDoorProg
import Derived.Test.YtihbimigddlbaaaGreatDoorPlD
import Derived.Test.YtihbimigddlbaaaGreatDoorPlC
noncomputable section
set_option linter.all false
namespace Go.Proofs.YtihbimigddlbaaaGreatDoor.L
open Go Go.RowKit Go.Proofs.YtihbimigddlbaaaGreatDoor.Pl
variable [Gm]
section
def tabL:List (Nat×TI):=[
(3,{ d:=.int .i64,size:=1,bytes:=8,zero:=[.v (.int .i64 0)] }),
(4,{ d:=.bool,size:=1,bytes:=1,zero:=[.v (.bool false)] }),
(5,{ d:=.int .u8,size:=1,bytes:=1,zero:=[.v (.int .u8 0)] }),
(9,{ d:=.string,size:=1,bytes:=16,zero:=[.v (.string ⟨#[]⟩)] }),
(21,{ d:=.int .i32,size:=1,bytes:=4,zero:=[.v (.int .i32 0)] }),
(22,{ d:=.slice 24,size:=1,bytes:=24,zero:=[.v (.slice none 0 0)] }),
(24,{ d:=.struct [(0,3),(1,3),(2,9),(3,22)],size:=4,bytes:=56,zero:=[.v (.int .i64 0),.v (.int .i64 0),.v (.string ⟨#[]⟩),.v (.slice none 0 0)] }),
(27,{ d:=.slice 32,size:=1,bytes:=24,zero:=[.v (.slice none 0 0)] }),
(28,{ d:=.int .i64,size:=1,bytes:=8,zero:=[.v (.int .i64 0)] }),
(32,{ d:=.slice 3,size:=1,bytes:=24,zero:=[.v (.slice none 0 0)] }),
(49,{ d:=.slice 86,size:=1,bytes:=24,zero:=[.v (.slice none 0 0)] }),
(50,{ d:=.slice 9,size:=1,bytes:=24,zero:=[.v (.slice none 0 0)] }),
(51,{ d:=.slice 94,size:=1,bytes:=24,zero:=[.v (.slice none 0 0)] }),
(53,{ d:=.struct [(0,9),(1,49),(2,49),(3,49),(4,22),(5,22),(6,50),(7,51)],size:=8,bytes:=184,zero:=[.v (.string ⟨#[]⟩),.v (.slice none 0 0),.v (.slice none 0 0),.v (.slice none 0 0),.v (.slice none 0 0),.v (.slice none 0 0),.v (.slice none 0 0),.v (.slice none 0 0)] }),
(59,{ d:=.slice 4,size:=1,bytes:=24,zero:=[.v (.slice none 0 0)] }),
(68,{ d:=.ptr,size:=1,bytes:=8,zero:=[.v (.pointer none)] }),
(86,{ d:=.struct [(0,9),(1,24),(5,22)],size:=6,bytes:=96,zero:=[.v (.string ⟨#[]⟩),.v (.int .i64 0),.v (.int .i64 0),.v (.string ⟨#[]⟩),.v (.slice none 0 0),.v (.slice none 0 0)] }),
(94,{ d:=.struct [(0,9),(1,22),(2,24)],size:=6,bytes:=96,zero:=[.v (.string ⟨#[]⟩),.v (.slice none 0 0),.v (.int .i64 0),.v (.int .i64 0),.v (.string ⟨#[]⟩),.v (.slice none 0 0)] }),
(97,{ d:=.slice 188,size:=1,bytes:=24,zero:=[.v (.slice none 0 0)] }),
(98,{ d:=.slice 144,size:=1,bytes:=24,zero:=[.v (.slice none 0 0)] }),
(100,{ d:=.struct [(0,9),(1,97),(2,97),(3,97),(4,22),(5,22),(6,50),(7,98)],size:=8,bytes:=184,zero:=[.v (.string ⟨#[]⟩),.v (.slice none 0 0),.v (.slice none 0 0),.v (.slice none 0 0),.v (.slice none 0 0),.v (.slice none 0 0),.v (.slice none 0 0),.v (.slice none 0 0)] }),
(106,{ d:=.func,size:=1,bytes:=8,zero:=[.v .nilFunc] }),
(107,{ d:=.func,size:=1,bytes:=8,zero:=[.v .nilFunc] }),
(131,{ d:=.struct [(0,28)],size:=1,bytes:=8,zero:=[.v (.int .i64 0)] }),
(134,{ d:=.ptr,size:=1,bytes:=8,zero:=[.v (.pointer none)] }),
(144,{ d:=.struct [(0,9),(1,22),(2,24)],size:=6,bytes:=96,zero:=[.v (.string ⟨#[]⟩),.v (.slice none 0 0),.v (.int .i64 0),.v (.int .i64 0),.v (.string ⟨#[]⟩),.v (.slice none 0 0)] }),
(147,{ d:=.int .u64,size:=1,bytes:=8,zero:=[.v (.int .u64 0)] }),
(151,{ d:=.slice 5,size:=1,bytes:=24,zero:=[.v (.slice none 0 0)] }),
(188,{ d:=.struct [(0,9),(1,24),(5,24),(9,4)],size:=10,bytes:=136,zero:=[.v (.string ⟨#[]⟩),.v (.int .i64 0),.v (.int .i64 0),.v (.string ⟨#[]⟩),.v (.slice none 0 0),.v (.int .i64 0),.v (.int .i64 0),.v (.string ⟨#[]⟩),.v (.slice none 0 0),.v (.bool false)] })]
def tab:TyTab:=fun t=>Pl.look t tabL
omit [Gm] in
theorem tok:TOK Tryz.prog tab:=tok_of (by kernel_rfl)
theorem ctx:Ctx Tryz.prog tab:=ctx_of (l:=tabL) (by kernel_rfl) (by kernel_rfl) (by kernel_rfl)
set_option maxRecDepth 10000
def tS (s:ByteArray):TV:=.v (.string s)
def tB (b:Bool):TV:=.v (.bool b)
def tI (n:Int):TV:=.v (.int .i64 n)
def fault (e:Int):TV:=.iface 131 (.agg [tI e])
theorem fail_ent:Ent Tryz.prog 43:=fun a w=>Tryz.call43 a w
theorem fail_spec (e:Int):SC Tryz.prog 43 [] [.t (tI e)] (fun x _=>x=.pan (fault e)):=by
 refine SC.of_ok tok Tryz.func43 rfl (Nat.le_of_ble_eq_true rfl) (Nat.le_of_ble_eq_true rfl) (ev_sound ctx (own:=[9999]) _ _ _ ?_)
 exact⟨[],rfl,rfl,rfl,trivial⟩
theorem want_ent:Ent Tryz.prog 38:=fun a w=>Tryz.call38 a w
theorem want_spec (b:Bool):SC Tryz.prog 38 [] [.t (tB b)] (fun x _=>if b=true then x=.ret (.tup []) else x=.pan (fault 4)):=by
 refine SC.of_ok tok Tryz.func38 rfl (Nat.le_of_ble_eq_true rfl) (Nat.le_of_ble_eq_true rfl) (ev_sound ctx (own:=[9999,10043]) _ _ _ ?_)
 refine⟨fun h=>?_,fun h=>?_⟩
 ·have h:b=false:=by simpa using h
  subst h
  refine⟨fail_ent,[],[],[.t (tI 4)],_,fail_spec 4,rfl,rfl,trivial,fun r os' _ h=>?_,fun r os' _ h=>?_⟩
  ·cases h
  ·injection h with h
   subst h
   exact⟨[],by simp,rfl,rfl,trivial⟩
 ·have h:b=true:=by simpa using h
  subst h
  exact⟨[],rfl,rfl,rfl,trivial⟩
end
end Go.Proofs.YtihbimigddlbaaaGreatDoor.L
end
noncomputable section
set_option linter.all false
namespace Go.Proofs.YtihbimigddlbaaaGreatDoor.L
open Go Go.RowKit Go.Proofs.YtihbimigddlbaaaGreatDoor.Pl
variable [Gm]
set_option maxRecDepth 10000
section
abbrev Gr:=List (List Nat)
def cI (n:Nat):List TV:=[tI n]
def encN (l:List Nat):TV:=.sl 1 (l.map cI)
def encG (g:Gr):TV:=.sl 1 (g.map fun l=>[encN l])
def cB (b:Bool):List TV:=[tB b]
structure GrOK (g:Gr):Prop where
 lt:∀ l∈g,∀ n∈l,n<g.length
 len:g.length≤maxLen
 sm:g.length≤1000000
 lenl:∀ l∈g,l.length≤maxLen
mutual
inductive Dfs (g:Gr) (wo:Int):Nat→List Bool→List Bool→Prop
 | stop {i:Nat} {L:List Bool} (h:(i:Int)=wo∨L[i]?=some true):Dfs g wo i L L
 | go {i:Nat} {L L':List Bool} {l:List Nat} (h:(i:Int)≠wo) (hL:L[i]?=some false) (hl:g[i]?=some l) (hs:DfsL g wo l (L.set i true) L'):Dfs g wo i L L'
inductive DfsL (g:Gr) (wo:Int):List Nat→List Bool→List Bool→Prop
 | nil {L:List Bool}:DfsL g wo [] L L
 | snoc {l:List Nat} {k:Nat} {L L1 L2:List Bool} (h1:DfsL g wo l L L1) (h2:Dfs g wo k L1 L2):DfsL g wo (l++[k]) L L2
end
def goOs (g:Gr) (wo:Int) (L:List Bool):List AO :=
 [.var [.t (tI wo)],.var [.sl 1004],.var [.t (encG g)],.var [.fn 50 [.ptr 1000 0,.ptr 1001 0,.ptr 1002 0,.ptr 1003 0]],.row 4 1 (L.map cB)]
def goArgs (i:Nat):List AV:=[.t (tI i),.ptr 1000 0,.ptr 1001 0,.ptr 1002 0,.ptr 1003 0]
theorem go_ent:Ent Tryz.prog 50:=fun a w=>Tryz.call50 a w
end
section
def goK (g:Gr) (wo:Int):Nat→Nat→List Nat→List Nat
 | 0,_,ks=>ks
 | f+1,i,ks=>if ((i:Int)==wo||ks.contains i)=true then ks else (g.getD i []).foldl (fun ks k=>goK g wo f k ks) (ks++[i])
def unseen (g:Gr) (ks:List Nat):Nat:=((List.range g.length).filter fun n=>!ks.contains n).length
omit [Gm] in
theorem goK_pre (g:Gr) (wo:Int):∀ (f i:Nat) (ks:List Nat),ks <+: goK g wo f i ks
 | 0,_,ks=>List.prefix_refl ks
 | f+1,i,ks=>by
  unfold goK
  split
  ·exact List.prefix_refl ks
  ·have:∀ (l:List Nat) (ks:List Nat),ks <+: l.foldl (fun ks k=>goK g wo f k ks) ks:=by
    intro l
    induction l with
    | nil=>intro ks;exact List.prefix_refl ks
    | cons k l ih=>intro ks;exact (goK_pre g wo f k ks).trans (ih _)
   exact (List.prefix_append ks [i]).trans (this _ _)
omit [Gm] in
theorem unseen_le (g:Gr) {ks ks':List Nat} (h:∀ n∈ks,n∈ks'):unseen g ks'≤unseen g ks:=by
 unfold unseen
 have h2:(List.range g.length).filter (fun n=>!ks'.contains n)=((List.range g.length).filter (fun n=>!ks.contains n)).filter (fun n=>!ks'.contains n):=by
  rw[List.filter_filter]
  congr 1
  funext n
  cases h1:ks'.contains n with
  | true=>simp
  | false =>
   cases h2:ks.contains n with
   | true =>
    have:=h n (by simpa using h2)
    have:ks'.contains n=true:=by simpa using this
    rw[h1] at this;cases this
   | false=>simp
 rw[h2]
 exact List.length_filter_le ..
omit [Gm] in
theorem unseen_add (g:Gr) {ks:List Nat} {i:Nat} (hi:i<g.length) (h:ks.contains i=false):unseen g (ks++[i])<unseen g ks:=by
 unfold unseen
 have h2:(List.range g.length).filter (fun n=>!(ks++[i]).contains n)=((List.range g.length).filter (fun n=>!ks.contains n)).filter (fun n=>!(n==i)):=by
  rw[List.filter_filter]
  congr 1
  funext n
  by_cases e:n=i
  ·subst e;simp
  ·simp[e]
 rw[h2]
 refine List.length_filter_lt_length_iff_exists.2 ⟨i,?_,by simp⟩
 rw[List.mem_filter]
 exact⟨by simpa using hi,by rw[h];rfl⟩
end
section
def reachK (g:Gr) (i:Nat) (wo:Int):List Nat:=goK g wo (g.length+1) i []
omit [Gm] in
theorem unseen_lt (g:Gr) (ks:List Nat):unseen g ks<g.length+1:=by
 unfold unseen
 have:=List.length_filter_le (fun n=>!ks.contains n) (List.range g.length)
 simp at this ⊢;omega
end
section
theorem index_ent:Ent Tryz.prog 84:=fun a w=>Tryz.call84 a w
theorem index_spec (l:List Nat) (v:Int):PC Tryz.prog 84 [encN l,tI v] (tI (idxI (fun x:Nat=>v==(x:Int)) l)):=by
 refine PC.have (fun w F us h=>sl_len0 h) fun hlen=>?_
 have hlen:l.length≤maxLen:=by simpa using hlen
 refine PC.of_ok tok Tryz.func84 rfl (Nat.le_of_ble_eq_true rfl) (ev_sound ctx (own:=[]) _ _ _ ?_)
 refine Ok.loop (st:=fun i:Nat=>⟨[(8,vi i),(7,vi l.length),(1,.t (tI v)),(0,.t (encN l))],[]⟩) (R:=fun i=>i≤l.length∧∀ j (hj:j<l.length),j<i→(v==(l[j]:Int))=false)
  (μ:=fun i=>l.length-i) 0 (Wk.sub ⟨rfl,slotI (by simp),rfl,rfl,trivial⟩ trivial) ⟨Nat.zero_le _,fun j _ h=>absurd h (Nat.not_lt_zero j)⟩ ?_
 rintro i ⟨hi,hno⟩
 refine ev_sound ctx (own:=[]) _ _ _ ?_
 refine⟨fun h=>?_,fun h=>?_⟩
 ·have hlt:=ltOf h
  refine⟨_,getM hlt,?_⟩
  refine⟨fun h2=>toEq ?_,fun h2=>?_⟩
  ·rw[idxI_some (p:=fun x:Nat=>v==(x:Int)) hlt h2 hno];rfl
  ·exact⟨trivial,i+1,Wk.sub ⟨slotI (wr1 hlt hlen),rfl,rfl,rfl,trivial⟩ trivial,⟨hlt,noHit (p:=fun x:Nat=>v==(x:Int)) hlt hno h2⟩,dec hlt⟩
 ·have hge:=geOf h
  refine toEq ?_
  rw[idxI_none (p:=fun x:Nat=>v==(x:Int)) fun j hj=>hno j hj (by omega)];rfl
theorem contains_ent:Ent Tryz.prog 47:=fun a w=>Tryz.call47 a w
theorem contains_spec (l:List Nat) (v:Int):PC Tryz.prog 47 [encN l,tI v] (tB (l.any fun x:Nat=>v==(x:Int))):=by
 refine PC.of_ok tok Tryz.func47 rfl (Nat.le_of_ble_eq_true rfl) (ev_sound ctx (own:=[]) _ _ _ ?_)
 refine⟨index_ent,.inl ⟨_,index_spec l v,?_⟩⟩
 refine toEq ?_
 rw[←idxI_geq];rfl
def anyK (F:Nat→List Nat→Bool×List Nat):List Nat→List Nat→Bool×List Nat
 | [],ks=>(false,ks)
 | k::l,ks=>match F k ks with
  | (true,ks')=>(true,ks')
  | (false,ks')=>anyK F l ks'
end
section
end
section
def tU (n:Int):TV:=.v (.int .u64 n)
omit [Gm] in
theorem and32 {n:Nat} (h:n<2147483648):IntKind.u64.wrap ((BitVec.ofInt IntKind.u64.bits (n:Int) &&& BitVec.ofInt IntKind.u64.bits 4294967295).toNat:Int)=(n:Int):=by
 have h1:(BitVec.ofInt IntKind.u64.bits (n:Int)).toNat=n:=by
  rw[BitVec.toNat_ofInt]
  show ((n:Int) % ((2 ^ 64:Nat):Int)).toNat=n
  omega
 have h2:(BitVec.ofInt IntKind.u64.bits (4294967295:Int)).toNat=2 ^ 32-1:=by
  rw[BitVec.toNat_ofInt]
  show ((4294967295:Int) % ((2 ^ 64:Nat):Int)).toNat=_
  omega
 rw[BitVec.toNat_and,h1,h2,Nat.and_two_pow_sub_one_eq_mod]
 unfold IntKind.wrap
 simp[IntKind.bits,IntKind.signed]
 omega
theorem mul64_ent:Ent Tryz.prog 121:=fun a w=>Tryz.call121 a w
theorem mul64_spec (n:Nat) (h:n<2147483648):PC Tryz.prog 121 [tU 1,tU n] (.tup [tU 0,tU n]):=by
 refine PC.of_ok tok Tryz.func121 rfl (Nat.le_of_ble_eq_true rfl) (ev_sound ctx (own:=[]) _ _ _ ?_)
 have s32:(0:Int)≤32:=by decide
 refine⟨trivial,s32,trivial,s32,trivial,trivial,s32,trivial,trivial,s32,trivial,trivial,trivial,trivial,s32,trivial,trivial,?_⟩
 refine toEq ?_
 have hw:∀ m:Nat,m<18446744073709551616→IntKind.u64.wrap (m:Int)=(m:Int):=fun m hm=>by
  unfold IntKind.wrap
  simp[IntKind.bits,IntKind.signed]
  omega
 have hsh:∀ m:Nat,m<4294967296→(m:Int).fdiv (2 ^ min (Int.toNat 32) IntKind.u64.bits)=0:=fun m hm=>by
  have e:(2:Int) ^ min (Int.toNat 32) IntKind.u64.bits=4294967296:=by decide
  rw[e,Int.fdiv_eq_ediv_of_nonneg _ (by decide)];omega
 have a0:∀ x,x=(0:Int)→IntKind.u64.wrap ((BitVec.ofInt IntKind.u64.bits x &&& BitVec.ofInt IntKind.u64.bits 4294967295).toNat:Int)=0:=fun x hx=>by subst hx;exact and32 (n:=0) (by decide)
 have a1:IntKind.u64.wrap ((BitVec.ofInt IntKind.u64.bits 1 &&& BitVec.ofInt IntKind.u64.bits 4294967295).toNat:Int)=1:=and32 (n:=1) (by decide)
 have sh1:Int.fdiv 1 (2 ^ min (Int.toNat 32) IntKind.u64.bits)=0:=hsh 1 (by decide)
 have sh0:Int.fdiv 0 (2 ^ min (Int.toNat 32) IntKind.u64.bits)=0:=hsh 0 (by decide)
 have hw0:IntKind.u64.wrap 0=0:=hw 0 (by decide)
 simp only[and32 h,a1,sh1,hsh n (by omega),Int.zero_mul,Int.mul_zero,hw0,Int.one_mul,hw n (by omega),Int.add_zero,a0 0 rfl,sh0]
 rfl
theorem mul_ent:Ent Tryz.prog 83:=fun a w=>Tryz.call83 a w
theorem mul_spec (n:Nat) (h:n<2147483648):PC Tryz.prog 83 [tU 1,tU n] (.tup [tU 0,tU n]):=by
 refine PC.of_ok tok Tryz.func83 rfl (Nat.le_of_ble_eq_true rfl) (ev_sound ctx (own:=[]) _ _ _ ?_)
 refine⟨fun h=>(nomatch h),fun _=>?_⟩
 exact⟨mul64_ent,.inl ⟨_,mul64_spec n h,rfl⟩⟩
omit [Gm] in
theorem rep_copy {α:Type} (x z:α) (m n:Nat) (h:m≤n) :
  (List.replicate m x++List.replicate (n-m) z).take m++((((List.replicate m x++List.replicate (n-m) z).drop 0).take m).take (n-m))++(List.replicate m x++List.replicate (n-m) z).drop (m+((((List.replicate m x++List.replicate (n-m) z).drop 0).take m).take (n-m)).length)
   = List.replicate (m+min m (n-m)) x++List.replicate (n-(m+min m (n-m))) z:=by
 have e1:(List.replicate m x++List.replicate (n-m) z).take m=List.replicate m x:=by rw[List.take_append_of_le_length (by simp)];simp
 rw[List.drop_zero,e1,List.take_replicate,List.length_replicate,←List.drop_drop,List.drop_left' (by simp),List.drop_replicate,List.replicate_append_replicate,Nat.min_comm (n-m) m]
 congr 2
 omega
theorem repB_ent:Ent Tryz.prog 46:=fun a w=>Tryz.call46 a w
theorem repB_spec (x:TV) (n:Nat) (h:n≤1000000):OC Tryz.prog 46 [.sl 1 [[x]],tI n] 4 1 (List.replicate n [x]):=by
 have hwn:IntKind.i64.wrap (n:Int)=n:=wr (by omega) (by omega)
 have hun:IntKind.u64.wrap (n:Int)=n:=by
  unfold IntKind.wrap
  simp[IntKind.bits,IntKind.signed]
  omega
 have hmul:PC Tryz.prog 83 [tU (IntKind.u64.wrap ((1:Nat):Int)),tU (IntKind.u64.wrap (n:Int))] (.tup [tU 0,tU n]):=by
  rw[hun];exact mul_spec n (by omega)
 refine OC.of_ok Tryz.func46 rfl (Nat.le_of_ble_eq_true rfl) (ev_sound ctx (own:=[30,9999]) _ _ _ ?_)
 refine⟨fun h1=>?_,fun _=>?_⟩
 ·exfalso
  have:=of_decide_eq_true h1
  omega
 refine⟨mul_ent,.inl ⟨_,hmul,?_⟩⟩
 refine⟨fun h1=>?_,fun _=>?_⟩
 ·exfalso
  have h1:(decide ((0:Int)>0)||decide ((n:Int)>9223372036854775807))=true:=h1
  simp at h1
  omega
 have hz:(List.replicate (IntKind.i64.wrap (n:Int)).toNat [tB false])=List.replicate n [tB false]:=by rw[hwn];rfl
 refine⟨by rw[hwn];omega,Int.le_refl _,by rw[hwn];omega,by rw[hwn];show n*1≤_;omega,?_⟩
 refine Ok.loop (st:=fun m:Nat=>⟨[(8,vi m),(7,.sl 30)],[(30,.row 4 1 (List.replicate m [x]++List.replicate (n-m) [tB false]))]⟩) (R:=fun m=>m≤n∧(0<n→0<m)) (μ:=fun m=>n-m) (min 1 n)
  (Wk.sub ⟨slotI ?_,rfl,trivial⟩ ⟨congrArg (fun x=>some (AO.row 4 1 x)) ?_,trivial⟩) ⟨Nat.min_le_right _ _,fun h=>by omega⟩ ?_
 ·simp only[hwn,Int.toNat_natCast,List.length_replicate,List.length_take]
  rw[Nat.min_comm];rfl
 ·rw[hwn,Int.toNat_natCast]
  cases n with
  | zero=>rfl
  | succ n =>
   have:min 1 (n+1)=1:=by omega
   rw[this]
   simp
   exact .inr rfl
 ·rintro m ⟨hm,hm0⟩
  have hlen:(List.replicate m [x]++List.replicate (n-m) [tB false]).length=n:=by simp;omega
  refine ev_sound ctx (own:=[30,9999]) _ _ _ ?_
  refine⟨fun h1=>?_,fun h1=>?_⟩
  ·have hlt:m<n:=by
    have:=of_decide_eq_true h1
    rw[hlen] at this;omega
   have hm0:0<m:=hm0 (by omega)
   refine⟨by kernel_rfl,?_⟩
   refine⟨fun _=>⟨by omega,by rw[hlen];omega,Int.le_refl _⟩,?_⟩
   refine⟨fun _=>⟨Int.le_refl _,by omega,by rw[hlen];omega⟩,?_⟩
   refine⟨trivial,m+min m (n-m),Wk.sub ⟨slotI ?_,rfl,trivial⟩ ⟨congrArg (fun x=>some (AO.row 4 1 x)) ?_,trivial⟩,⟨by omega,fun _=>by omega⟩,by show n-(m+min m (n-m))<n-m;omega⟩
   ·simp only[hlen,Int.toNat_natCast,show Int.toNat 0=0 from rfl,Nat.sub_zero,Nat.zero_add,Nat.add_zero,List.drop_zero]
    rw[List.take_append_of_le_length (by simp),List.take_replicate,List.take_replicate,List.length_replicate,Nat.min_self,Nat.min_comm (n-m) m,←Int.natCast_add]
    exact wr (by omega) (by omega)
   ·have hc:=rep_copy [x] [tB false] m n (by omega)
    simp only[List.drop_zero] at hc
    simp only[hlen,Int.toNat_natCast,show Int.toNat 0=0 from rfl,Nat.sub_zero,Nat.zero_add,Nat.add_zero,List.drop_zero]
    exact hc
  ·have hge:n≤m:=by
    have:=of_decide_eq_false h1
    rw[hlen] at this;omega
   have:m=n:=Nat.le_antisymm hm hge
   subst this
   exact⟨rfl,rfl,by simp⟩
theorem repI_ent:Ent Tryz.prog 48:=fun a w=>Tryz.call48 a w
theorem repI_spec (x:TV) (n:Nat) (h:n≤1000000):OC Tryz.prog 48 [.sl 1 [[x]],tI n] 3 1 (List.replicate n [x]):=by
 have hwn:IntKind.i64.wrap (n:Int)=n:=wr (by omega) (by omega)
 have hun:IntKind.u64.wrap (n:Int)=n:=by
  unfold IntKind.wrap
  simp[IntKind.bits,IntKind.signed]
  omega
 have hmul:PC Tryz.prog 83 [tU (IntKind.u64.wrap ((1:Nat):Int)),tU (IntKind.u64.wrap (n:Int))] (.tup [tU 0,tU n]):=by
  rw[hun];exact mul_spec n (by omega)
 refine OC.of_ok Tryz.func48 rfl (Nat.le_of_ble_eq_true rfl) (ev_sound ctx (own:=[30,9999]) _ _ _ ?_)
 refine⟨fun h1=>?_,fun _=>?_⟩
 ·exfalso
  have:=of_decide_eq_true h1
  omega
 refine⟨mul_ent,.inl ⟨_,hmul,?_⟩⟩
 refine⟨fun h1=>?_,fun _=>?_⟩
 ·exfalso
  have h1:(decide ((0:Int)>0)||decide ((n:Int)>9223372036854775807))=true:=h1
  simp at h1
  omega
 have hz:(List.replicate (IntKind.i64.wrap (n:Int)).toNat [tI 0])=List.replicate n [tI 0]:=by rw[hwn];rfl
 refine⟨by rw[hwn];omega,Int.le_refl _,by rw[hwn];omega,by rw[hwn];show n*8≤_;omega,?_⟩
 refine Ok.loop (st:=fun m:Nat=>⟨[(8,vi m),(7,.sl 30)],[(30,.row 3 1 (List.replicate m [x]++List.replicate (n-m) [tI 0]))]⟩) (R:=fun m=>m≤n∧(0<n→0<m)) (μ:=fun m=>n-m) (min 1 n)
  (Wk.sub ⟨slotI ?_,rfl,trivial⟩ ⟨congrArg (fun x=>some (AO.row 3 1 x)) ?_,trivial⟩) ⟨Nat.min_le_right _ _,fun h=>by omega⟩ ?_
 ·simp only[hwn,Int.toNat_natCast,List.length_replicate,List.length_take]
  rw[Nat.min_comm];rfl
 ·rw[hwn,Int.toNat_natCast]
  cases n with
  | zero=>rfl
  | succ n =>
   have:min 1 (n+1)=1:=by omega
   rw[this]
   simp
   exact .inr rfl
 ·rintro m ⟨hm,hm0⟩
  have hlen:(List.replicate m [x]++List.replicate (n-m) [tI 0]).length=n:=by simp;omega
  refine ev_sound ctx (own:=[30,9999]) _ _ _ ?_
  refine⟨fun h1=>?_,fun h1=>?_⟩
  ·have hlt:m<n:=by
    have:=of_decide_eq_true h1
    rw[hlen] at this;omega
   have hm0:0<m:=hm0 (by omega)
   refine⟨by kernel_rfl,?_⟩
   refine⟨fun _=>⟨by omega,by rw[hlen];omega,Int.le_refl _⟩,?_⟩
   refine⟨fun _=>⟨Int.le_refl _,by omega,by rw[hlen];omega⟩,?_⟩
   refine⟨trivial,m+min m (n-m),Wk.sub ⟨slotI ?_,rfl,trivial⟩ ⟨congrArg (fun x=>some (AO.row 3 1 x)) ?_,trivial⟩,⟨by omega,fun _=>by omega⟩,by show n-(m+min m (n-m))<n-m;omega⟩
   ·simp only[hlen,Int.toNat_natCast,show Int.toNat 0=0 from rfl,Nat.sub_zero,Nat.zero_add,Nat.add_zero,List.drop_zero]
    rw[List.take_append_of_le_length (by simp),List.take_replicate,List.take_replicate,List.length_replicate,Nat.min_self,Nat.min_comm (n-m) m,←Int.natCast_add]
    exact wr (by omega) (by omega)
   ·have hc:=rep_copy [x] [tI 0] m n (by omega)
    simp only[List.drop_zero] at hc
    simp only[hlen,Int.toNat_natCast,show Int.toNat 0=0 from rfl,Nat.sub_zero,Nat.zero_add,Nat.add_zero,List.drop_zero]
    exact hc
  ·have hge:n≤m:=by
    have:=of_decide_eq_false h1
    rw[hlen] at this;omega
   have:m=n:=Nat.le_antisymm hm hge
   subst this
   exact⟨rfl,rfl,by simp⟩
end
section
def toL (g:Gr) (ks:List Nat):List Bool:=(List.range g.length).map fun n=>ks.contains n
def encB (l:List Bool):TV:=.sl 1 (l.map cB)
omit [Gm] in
theorem toL_len (g:Gr) (ks:List Nat):(toL g ks).length=g.length:=by simp[toL]
omit [Gm] in
theorem toL_get {g:Gr} {ks:List Nat} {i:Nat} (h:i<g.length):(toL g ks)[i]?=some (ks.contains i):=by simp[toL,h]
omit [Gm] in
theorem toL_getC {g:Gr} {ks:List Nat} {i:Nat} (h:i<g.length):((toL g ks).map cB)[((i:Nat):Int).toNat]?=some (cB (ks.contains i)):=by
 rw[Int.toNat_natCast,List.getElem?_map,toL_get h];rfl
omit [Gm] in
theorem toL_set {g:Gr} {ks:List Nat} {i:Nat} (h:i<g.length):(toL g ks).set i true=toL g (ks++[i]):=by
 apply List.ext_getElem?
 intro j
 rw[List.getElem?_set]
 by_cases hj:j<g.length
 ·rw[toL_get (ks:=ks++[i]) hj]
  by_cases e:i=j
  ·subst e
   rw[if_pos rfl,toL_len,if_pos h]
   simp
  ·rw[if_neg e,toL_get hj]
   have e':¬ j=i:=fun h=>e h.symm
   simp[e']
 ·have h1:(toL g (ks++[i]))[j]?=none:=by rw[List.getElem?_eq_none];rw[toL_len];omega
  have h2:(toL g ks)[j]?=none:=by rw[List.getElem?_eq_none];rw[toL_len];omega
  rw[h1,h2]
  have:¬ i=j:=by omega
  rw[if_neg this]
omit [Gm] in
theorem toL_nil (g:Gr):toL g []=List.replicate g.length false:=by
 simp[toL]
 apply List.ext_getElem?
 intro j
 by_cases hj:j<g.length
 ·simp[hj]
 ·simp[hj]
def g5Os (g:Gr) (wo:Int) (ks:List Nat):List AO:=goOs g wo (toL g ks)
theorem g5_spec (g:Gr) (hg:GrOK g) (wo:Int):∀ (f:Nat) (ks:List Nat) (i:Nat),i<g.length→unseen g ks<f →
  SC Tryz.prog 50 (g5Os g wo ks) (goArgs i) (fun x os'=>x=.ret (.tup [])∧os'=g5Os g wo (goK g wo f i ks)):=by
 intro f
 induction f with
 | zero=>intro ks i _ h;omega
 | succ f ih =>
 intro ks i hi hf
 have hgetB:((toL g ks).map cB)[((i:Nat):Int).toNat]?=some (cB (ks.contains i)):=toL_getC hi
 have hbnd:(0:Int)≤(i:Int)∧(i:Int)<((toL g ks).map cB).length:=⟨Int.natCast_nonneg i,by rw[List.length_map,toL_len];omega⟩
 refine SC.of_ok tok Tryz.func50 rfl (Nat.le_of_ble_eq_true rfl) (Nat.le_of_ble_eq_true rfl) (ev_sound ctx (own:=[]) _ _ _ ?_)
 refine⟨fun _=>hbnd,cB (ks.contains i),hgetB,?_⟩
 refine⟨fun h=>?_,fun h=>?_⟩
 ·have h:((i:Int)==wo||ks.contains i)=true:=h
  refine⟨g5Os g wo ks,⟨rfl,?_⟩,rfl,rfl,rfl,rfl,rfl,rfl,rfl,trivial⟩
  unfold goK
  rw[if_pos h]
 ·have h:((i:Int)==wo||ks.contains i)=false:=h
  have hgo:goK g wo (f+1) i ks=(g.getD i []).foldl (fun ks k=>goK g wo f k ks) (ks++[i]):=by
   conv=>lhs;unfold goK
   rw[if_neg (by rw[h];simp)]
  rw[hgo]
  rw[Bool.or_eq_false_iff] at h
  have hk:=h.2
  have hun:=unseen_add g hi hk
  have hgetG:(0:Int)≤(i:Int)∧(g.map fun l=>[encN l])[((i:Nat):Int).toNat]?=some [encN g[i]]:=⟨Int.natCast_nonneg i,by simp[List.getElem?_eq_getElem hi]⟩
  have hgi:g.getD i []=g[i]:=by simp[List.getD,List.getElem?_eq_getElem hi]
  have hlen:=hg.lenl _ (List.getElem_mem hi)
  have hltl:=hg.lt _ (List.getElem_mem hi)
  rw[hgi]
  generalize g[i]=l at hgetG hlen hltl
  refine⟨hbnd,?_⟩
  refine⟨cB (ks.contains i),hgetB,?_⟩
  refine⟨[encN l],hgetG,?_⟩
  have hset:(((toL g ks).map cB).set ((i:Nat):Int).toNat ((cB (ks.contains i)).take 0++[tB true]++(cB (ks.contains i)).drop (0+1)))=(toL g (ks++[i])).map cB:=by
   rw[←toL_set hi,List.map_set];rfl
  refine Ok.loop (st:=fun x:Nat=>⟨[(25,vi x),(24,vi l.length),(23,.t (encN l)),(4,.ptr 1003 0),(3,.ptr 1002 0),(2,.ptr 1001 0),(1,.ptr 1000 0)],lab 1000 (g5Os g wo ((l.take x).foldl (fun ks k=>goK g wo f k ks) (ks++[i])))⟩)
   (R:=fun x=>x≤l.length) (μ:=fun x=>l.length-x) 0
   (Wk.sub ⟨rfl,slotI (by simp),rfl,rfl,rfl,rfl,rfl,trivial⟩ ⟨rfl,rfl,rfl,rfl,congrArg (fun x=>some (AO.row 4 1 x)) hset,trivial⟩)
   (Nat.zero_le _) ?_
  intro j hj
  refine ev_sound ctx (own:=[]) _ _ _ ?_
  refine⟨fun h=>?_,fun h=>?_⟩
  ·have hlt:j<l.length:=ltOf h
   have hgetL:(0:Int)≤(j:Int)∧(l.map cI)[((j:Nat):Int).toNat]?=some (cI l[j]):=getM hlt
   have hk:=hltl _ (List.getElem_mem hlt)
   have htk:l.take (j+1)=l.take j++[l[j]]:=by rw[List.take_add_one,List.getElem?_eq_getElem hlt];rfl
   generalize l[j]=k at hgetL hk htk
   have hpre:∀ (m:List Nat) (ks:List Nat),ks <+: m.foldl (fun ks k=>goK g wo f k ks) ks:=by
    intro m
    induction m with
    | nil=>intro ks;exact List.prefix_refl ks
    | cons k m ih=>intro ks;exact (goK_pre g wo f k ks).trans (ih _)
   have hle:unseen g ((l.take j).foldl (fun ks k=>goK g wo f k ks) (ks++[i]))≤unseen g (ks++[i]):=unseen_le g (fun n hn=>(hpre _ _).subset hn)
   have hnext:(l.take (j+1)).foldl (fun ks k=>goK g wo f k ks) (ks++[i])=goK g wo f k ((l.take j).foldl (fun ks k=>goK g wo f k ks) (ks++[i])):=by
    rw[htk,List.foldl_append];rfl
   generalize hM:(l.take j).foldl (fun ks k=>goK g wo f k ks) (ks++[i])=M at hle hnext ⊢
   refine⟨cI k,hgetL,?_⟩
   refine⟨go_ent,[1000,1001,1002,1003,1004],g5Os g wo M,goArgs k,_,ih M k hk (by omega),rfl,rfl,⟨rfl,rfl,rfl,rfl,rfl,trivial⟩,fun r os' _ hR=>?_,fun r os' _ hR=>?_⟩
   ·obtain⟨h1,rfl⟩:=hR
    injection h1 with h1
    subst h1
    exact⟨trivial,j+1,Wk.sub ⟨slotI (wr1 hlt hlen),rfl,rfl,rfl,rfl,rfl,rfl,trivial⟩ ⟨rfl,rfl,rfl,rfl,congrArg (fun x=>some (AO.row 4 1 ((toL g x).map cB))) hnext.symm,trivial⟩,hlt,dec hlt⟩
   ·cases hR.1
  ·have hge:l.length≤j:=geOf h
   have:j=l.length:=Nat.le_antisymm hj hge
   subst this
   rw[List.take_length]
   exact⟨_,⟨rfl,rfl⟩,rfl,rfl,rfl,rfl,rfl,rfl,rfl,trivial⟩
def reachL (g:Gr) (wo:Int):List Bool:=toL g (reachK g 0 wo)
theorem reached_ent:Ent Tryz.prog 28:=fun a w=>Tryz.call28 a w
theorem reached_spec (g:Gr) (hg:GrOK g) (wo:Int):PC Tryz.prog 28 [encG g,tI wo] (encB (reachL g wo)):=by
 refine PC.of_ok tok Tryz.func28 rfl (Nat.le_of_ble_eq_true rfl) (ev_sound ctx (own:=[]) _ _ _ ?_)
 have hrep:=repB_spec (tB false) g.length hg.sm
 have hlen:((g.map fun l=>[encN l]).length:Int)=(g.length:Int):=by simp
 refine⟨repB_ent,.inr ⟨_,_,_,(by rw[hlen];exact hrep:OC Tryz.prog 46 [.sl 1 [[tB false]],tI ((g.map fun l=>[encN l]).length:Nat)] 4 1 (List.replicate g.length [tB false])),?_⟩⟩
 refine⟨fun h=>?_,fun h=>?_⟩
 ·have h0:0<g.length:=by have:=of_decide_eq_true h;omega
  refine⟨go_ent,[3,5,2,6,10],g5Os g wo [],goArgs 0,_,g5_spec g hg wo (g.length+1) [] 0 h0 (unseen_lt g []),rfl,rfl,⟨rfl,rfl,rfl,rfl,?_,trivial⟩,fun r os' _ hR=>?_,fun r os' _ hR=>?_⟩
  ·refine congrArg (fun x=>some (AO.row 4 1 x)) ?_
   rw[toL_nil];simp[cB]
  ·obtain⟨h1,rfl⟩:=hR
   injection h1 with h1
   subst h1
   exact rfl
  ·cases hR.1
 ·have h0:g.length=0:=by have:=of_decide_eq_false h;omega
  have hg0:g=[]:=List.eq_nil_of_length_eq_zero h0
  subst hg0
  exact rfl
end
section
omit [Gm] in
theorem getB {L:List Bool} {i:Nat} (h:i<L.length):(0:Int)≤(i:Int)∧(L.map cB)[((i:Nat):Int).toNat]?=some (cB (L.getD i false)):=by
 refine⟨Int.natCast_nonneg i,?_⟩
 rw[Int.toNat_natCast,List.getElem?_map,List.getElem?_eq_getElem h]
 simp[List.getD,List.getElem?_eq_getElem h]
def idxOf (L:List Bool):List Nat:=(List.range L.length).filter fun i=>L.getD i false
omit [Gm] in
theorem filRange (p:Nat→Bool) (i:Nat):(List.range (i+1)).filter p=(List.range i).filter p++(if p i=true then [i] else []):=by
 rw[List.range_succ,List.filter_append]
 congr 1
 cases hq:p i <;> simp[List.filter,hq]
omit [Gm] in
theorem filLen (p:Nat→Bool) (i:Nat):((List.range i).filter p).length≤i:=by
 have:=List.length_filter_le p (List.range i)
 simpa using this
theorem indices_ent:Ent Tryz.prog 27:=fun a w=>Tryz.call27 a w
theorem indices_spec (L:List Bool) (hL:L.length≤1000000):PC Tryz.prog 27 [encB L] (encN (idxOf L)):=by
 refine PC.of_okL tok Tryz.func27 rfl (Nat.le_of_ble_eq_true rfl) (ev_sound ctx (own:=[17]) _ _ _ ?_)
 refine Ok.loop (st:=fun i:Nat=>⟨[(8,vi i),(7,vi L.length),(6,.t (encB L)),(3,.sl 17)],[(17,.row 3 1 (((List.range i).filter fun i=>L.getD i false).map cI))]⟩)
  (R:=fun i=>i≤L.length) (μ:=fun i=>L.length-i) 0 ((Wk.nil 3 17 3 1 (by decide) rfl).trans (Wk.sub ⟨rfl,slotI (by simp),rfl,rfl,trivial⟩ ⟨rfl,trivial⟩)) (Nat.zero_le _) ?_
 intro i hi
 have hi:i≤L.length:=hi
 refine ev_sound ctx (own:=[17]) _ _ _ ?_
 refine⟨fun h=>?_,fun h=>?_⟩
 ·have hlt:i<L.length:=ltOf h
  have hmx:L.length≤maxLen:=by simp only[maxLen];omega
  have hfil:=filRange (fun i=>L.getD i false) i
  have hmi:=filLen (fun i=>L.getD i false) i
  refine⟨cB (L.getD i false),getB hlt,?_⟩
  refine⟨fun h2=>?_,fun h2=>?_⟩
  ·have h2:L.getD i false=true:=h2
   rw[if_pos h2] at hfil
   refine⟨?_,?_,trivial,i+1,Wk.sub ⟨slotI (wr1 hlt hmx),rfl,rfl,rfl,trivial⟩ ⟨congrArg (fun x=>some (AO.row 3 1 x)) ?_,trivial⟩,hlt,dec hlt⟩
   ·simp only[List.length_map];show (_+1)*8≤_;omega
   ·simp only[List.length_map,maxLen];show _+1≤_;omega
   ·rw[hfil,List.map_append];rfl
  ·have h2:L.getD i false=false:=h2
   rw[if_neg (by rw[h2];simp),List.append_nil] at hfil
   exact⟨trivial,i+1,Wk.sub ⟨slotI (wr1 hlt hmx),rfl,rfl,rfl,trivial⟩ ⟨congrArg (fun x:List Nat=>some (AO.row 3 1 (x.map cI))) hfil.symm,trivial⟩,hlt,dec hlt⟩
 ·have hge:L.length≤i:=geOf h
  have:i=L.length:=Nat.le_antisymm hi hge
  subst this
  exact TV.le_refl _
def hitJ (g:Gr) (i j:Nat):Bool:=(reachL g (-1)).getD j false&&!(reachL g i).getD j false&&(g.getD j []).any fun x:Nat=>(i:Int)==(x:Int)
def hitK (g:Gr) (i:Nat):Bool:=(reachL g (-1)).getD i false&&(List.range g.length).any (hitJ g i)
def headsK (g:Gr):List Nat:=(List.range g.length).filter (hitK g)
omit [Gm] in
theorem reachL_len (g:Gr) (wo:Int):(reachL g wo).length=g.length:=toL_len g _
omit [Gm] in
theorem anyRange (p:Nat→Bool) (j:Nat):(List.range (j+1)).any p=((List.range j).any p||p j):=by
 rw[List.range_succ,List.any_append];simp
def mk1 (g:Gr) (i:Nat):List Bool:=(List.range i).map (hitK g)++List.replicate (g.length-i) false
def mk2 (g:Gr) (i:Nat) (b:Bool):List Bool:=(List.range i).map (hitK g)++b::List.replicate (g.length-(i+1)) false
omit [Gm] in
theorem mk1_false {g:Gr} {i:Nat} (h:i<g.length):mk1 g i=mk2 g i false:=by
 unfold mk1 mk2
 rw[show g.length-i=(g.length-(i+1))+1 by omega,List.replicate_succ]
omit [Gm] in
theorem mk1_next {g:Gr} {i:Nat} (h:i<g.length):mk2 g i (hitK g i)=mk1 g (i+1):=by
 unfold mk1 mk2
 rw[List.range_succ,List.map_append,List.append_assoc];rfl
omit [Gm] in
theorem mk2_set {g:Gr} {i:Nat} (b c:Bool):(mk2 g i b).set i c=mk2 g i c:=by
 unfold mk2
 rw[List.set_append_right _ _ (by simp)]
 simp
omit [Gm] in
theorem mk2_len {g:Gr} {i:Nat} (h:i<g.length) (b:Bool):(mk2 g i b).length=g.length:=by
 unfold mk2;simp;omega
def hdSt (g:Gr) (i:Nat):St :=
 ⟨[(16,vi i),(15,vi g.length),(4,.sl 13),(3,.t (encB (reachL g (-1)))),(0,.t (encG g))],[(13,.row 4 1 ((mk1 g i).map cB))]⟩
def hdSt2 (g:Gr) (i:Nat) (j:Nat):St :=
 ⟨[(29,vi j),(28,vi g.length),(6,.t (encB (reachL g i))),(5,vi i),(16,vi i),(15,vi g.length),(4,.sl 13),(3,.t (encB (reachL g (-1)))),(0,.t (encG g))],[(13,.row 4 1 ((mk2 g i ((List.range j).any (hitJ g i))).map cB))]⟩
theorem heads_ent:Ent Tryz.prog 22:=fun a w=>Tryz.call22 a w
theorem heads_spec (g:Gr) (hg:GrOK g):PC Tryz.prog 22 [encG g] (encN (headsK g)):=by
 refine PC.of_okL tok Tryz.func22 rfl (Nat.le_of_ble_eq_true rfl) (ev_sound ctx (own:=[13]) _ _ _ ?_)
 have hrep:=repB_spec (tB false) g.length hg.sm
 have hlen:((g.map fun l=>[encN l]).length:Int)=(g.length:Int):=by simp
 refine⟨reached_ent,.inl ⟨_,reached_spec g hg (-1),?_⟩⟩
 refine⟨repB_ent,.inr ⟨_,_,_,(by rw[hlen];exact hrep:OC Tryz.prog 46 [.sl 1 [[tB false]],tI ((g.map fun l=>[encN l]).length:Nat)] 4 1 (List.replicate g.length [tB false])),?_⟩⟩
 refine Ok.loop (st:=hdSt g) (R:=fun i=>i≤g.length) (μ:=fun i=>g.length-i) 0
  (Wk.sub ⟨rfl,slotI (by simp),rfl,rfl,rfl,trivial⟩ ⟨congrArg (fun x=>some (AO.row 4 1 x)) (by simp[mk1,cB]),trivial⟩) (Nat.zero_le _) ?_
 intro i hi
 have hi:i≤g.length:=hi
 refine ev_sound ctx (own:=[13]) _ _ _ ?_
 refine⟨fun h=>?_,fun h=>?_⟩
 ·have hlt:i<g.length:=ltOf h
  have hL:i<(reachL g (-1)).length:=by rw[reachL_len];exact hlt
  refine⟨cB ((reachL g (-1)).getD i false),getB hL,?_⟩
  refine⟨fun h2=>?_,fun h2=>?_⟩
  ·have h2:(!(reachL g (-1)).getD i false)=true:=h2
   have hh:hitK g i=false:=by rw[Bool.not_eq_true'] at h2;unfold hitK;rw[h2];rfl
   refine⟨trivial,i+1,Wk.sub ⟨slotI (wr1 hlt hg.len),rfl,rfl,rfl,rfl,trivial⟩ ⟨congrArg (fun x:List Bool=>some (AO.row 4 1 (x.map cB))) ?_,trivial⟩,hlt,dec hlt⟩
   rw[mk1_false hlt,←hh];exact mk1_next hlt
  ·have h2:(!(reachL g (-1)).getD i false)=false:=h2
   have hri:(reachL g (-1)).getD i false=true:=by simpa using h2
   refine⟨reached_ent,.inl ⟨_,reached_spec g hg i,?_⟩⟩
   refine Ok.loop (st:=hdSt2 g i) (R:=fun j=>j≤g.length) (μ:=fun j=>g.length-j) 0
    (Wk.sub ⟨rfl,slotI (by simp),rfl,rfl,rfl,rfl,rfl,rfl,rfl,trivial⟩ ⟨congrArg (fun x:List Bool=>some (AO.row 4 1 (x.map cB))) (mk1_false hlt),trivial⟩) (Nat.zero_le _) ?_
   intro j hj
   have hj:j≤g.length:=hj
   refine ev_sound ctx (own:=[13]) _ _ _ ?_
   refine⟨fun h3=>?_,fun h3=>?_⟩
   ·have hjlt:j<g.length:=ltOf h3
    have hL1:j<(reachL g (-1)).length:=by rw[reachL_len];exact hjlt
    have hL2:j<(reachL g i).length:=by rw[reachL_len];exact hjlt
    have hgetG:(0:Int)≤(j:Int)∧(g.map fun l=>[encN l])[((j:Nat):Int).toNat]?=some [encN (g.getD j [])]:=⟨Int.natCast_nonneg j,by simp[List.getD,List.getElem?_eq_getElem hjlt]⟩
    refine⟨cB ((reachL g (-1)).getD j false),getB hL1,?_⟩
    refine⟨cB ((reachL g i).getD j false),fun _=>getB hL2,?_⟩
    refine⟨[encN (g.getD j [])],fun _=>hgetG,?_⟩
    refine⟨contains_ent,tB ((g.getD j []).any fun x:Nat=>(i:Int)==(x:Int)),fun _=>contains_spec _ _,?_⟩
    have hany:=anyRange (hitJ g i) j
    refine⟨fun h4=>?_,fun h4=>?_⟩
    ·have h4:hitJ g i j=true:=h4
     rw[h4,Bool.or_true] at hany
     have hil:i<(mk2 g i ((List.range j).any (hitJ g i))).length:=by rw[mk2_len hlt];exact hlt
     refine⟨⟨Int.natCast_nonneg i,by rw[List.length_map];omega⟩,cB ((mk2 g i ((List.range j).any (hitJ g i))).getD i false),(getB hil).2,?_⟩
     refine⟨trivial,j+1,Wk.sub ⟨slotI (wr1 hjlt hg.len),rfl,rfl,rfl,rfl,rfl,rfl,rfl,rfl,trivial⟩ ⟨congrArg (fun x=>some (AO.row 4 1 x)) ?_,trivial⟩,hjlt,dec hjlt⟩
     rw[hany,←mk2_set ((List.range j).any (hitJ g i)) true,List.map_set];rfl
    ·have h4:hitJ g i j=false:=h4
     rw[h4,Bool.or_false] at hany
     exact⟨trivial,j+1,Wk.sub ⟨slotI (wr1 hjlt hg.len),rfl,rfl,rfl,rfl,rfl,rfl,rfl,rfl,trivial⟩ ⟨congrArg (fun x:Bool=>some (AO.row 4 1 ((mk2 g i x).map cB))) hany.symm,trivial⟩,hjlt,dec hjlt⟩
   ·have hge:g.length≤j:=geOf h3
    have:j=g.length:=Nat.le_antisymm hj hge
    subst this
    have hh:hitK g i=(List.range g.length).any (hitJ g i):=by unfold hitK;rw[hri];rfl
    refine⟨trivial,i+1,Wk.sub ⟨slotI (wr1 hlt hg.len),rfl,rfl,rfl,rfl,trivial⟩ ⟨congrArg (fun x:List Bool=>some (AO.row 4 1 (x.map cB))) ?_,trivial⟩,hlt,dec hlt⟩
    rw[←hh];exact mk1_next hlt
 ·have hge:g.length≤i:=geOf h
  have:i=g.length:=Nat.le_antisymm hi hge
  subst this
  have hmk:mk1 g g.length=(List.range g.length).map (hitK g):=by unfold mk1;simp
  have hidx:idxOf (mk1 g g.length)=headsK g:=by
   unfold idxOf headsK
   rw[hmk,List.length_map,List.length_range]
   refine List.filter_congr fun x hx=>?_
   have hx:x<g.length:=by simpa using hx
   simp[List.getD,hx]
  have hsp:=indices_spec (mk1 g g.length) (by rw[hmk];simp;exact hg.sm)
  rw[hidx] at hsp
  refine .inl ⟨indices_ent,.inl ⟨_,hsp,?_⟩⟩
  exact TV.le_refl _
end
section
def isHd (hs:List Nat) (i:Nat):Bool:=hs.any fun x:Nat=>(i:Int)==(x:Int)
def cirF (g:Gr) (hs:List Nat):Nat→Nat→List Nat→Bool×List Nat
 | 0,_,C=>(false,C)
 | f+1,i,C=>if (isHd hs i||(C.getD i 0:Int)==2)=true then (false,C) else if ((C.getD i 0:Int)==1)=true then (true,C) else
   match anyK (cirF g hs f) (g.getD i []) (C.set i 1) with
   | (true,C')=>(true,C')
   | (false,C')=>(false,C'.set i 2)
def white (C:List Nat):Nat:=C.countP fun c=>!(c==1||c==2)
omit [Gm] in
theorem white_set (C:List Nat) (i c:Nat) (h:(c==1||c==2)=true):white (C.set i c)≤white C:=by
 unfold white
 by_cases hi:i<C.length
 ·rw[List.countP_set hi]
  simp only[h,Bool.not_true,Bool.false_eq_true,if_false,Nat.add_zero]
  omega
 ·rw[List.set_eq_of_length_le (by omega)];exact Nat.le_refl _
omit [Gm] in
theorem white_lt (C:List Nat) (i:Nat) (hi:i<C.length) (h1:C.getD i 0≠1) (h2:C.getD i 0≠2):white (C.set i 1)<white C:=by
 unfold white
 have hg:C.getD i 0=C[i]:=by simp[List.getD,hi]
 rw[hg] at h1 h2
 have hp:0<C.countP (fun c=>!(c==1||c==2)):=List.countP_pos_iff.2 ⟨C[i],List.getElem_mem hi,by simp[h1,h2]⟩
 rw[List.countP_set hi]
 have e1:(!(C[i]==1||C[i]==2))=true:=by simp[h1,h2]
 have e2:(!((1:Nat)==1||(1:Nat)==2))=false:=rfl
 simp only[e1,e2,if_true,Bool.false_eq_true,if_false]
 omega
omit [Gm] in
theorem anyK_inv {F:Nat→List Nat→Bool×List Nat} {n w:Nat} (hF:∀ k C,C.length=n→(F k C).2.length=n∧white (F k C).2≤white C):∀ (l C:List Nat),C.length=n→(anyK F l C).2.length=n∧white (anyK F l C).2≤white C
 | [],C,h=>⟨h,Nat.le_refl _⟩
 | k::l,C,h=>by
  have:=hF k C h
  unfold anyK
  split
  ·rename_i C' e;rw[e] at this;exact this
  ·rename_i C' e
   rw[e] at this
   have ih:=anyK_inv (w:=w) hF l C' this.1
   exact⟨ih.1,Nat.le_trans ih.2 this.2⟩
omit [Gm] in
theorem cirF_inv (g:Gr) (hs:List Nat) (n:Nat):∀ (f i:Nat) (C:List Nat),C.length=n→(cirF g hs f i C).2.length=n∧white (cirF g hs f i C).2≤white C
 | 0,i,C,h=>⟨h,Nat.le_refl _⟩
 | f+1,i,C,h=>by
  unfold cirF
  split
  ·exact⟨h,Nat.le_refl _⟩
  ·split
   ·exact⟨h,Nat.le_refl _⟩
   ·have h1:=white_set C i 1 (by decide)
    have h2:=anyK_inv (w:=0) (cirF_inv g hs n f) (g.getD i []) (C.set i 1) (by simpa using h)
    split
    ·rename_i C' e
     rw[e] at h2
     exact⟨h2.1,Nat.le_trans h2.2 h1⟩
    ·rename_i C' e
     rw[e] at h2
     refine⟨by simpa using h2.1,Nat.le_trans (white_set C' i 2 (by decide)) (Nat.le_trans h2.2 h1)⟩
def ciCaps:List AV:=[.ptr 1000 0,.ptr 1001 0,.ptr 1002 0,.ptr 1003 0]
def ciOs (g:Gr) (hs C:List Nat):List AO :=
 [.var [.t (encN hs)],.var [.sl 1004],.var [.t (encG g)],.var [.fn 49 ciCaps],.row 3 1 (C.map cI)]
def ciR (g:Gr) (hs:List Nat) (f i:Nat) (C:List Nat) (x:SE) (os':List AO):Prop :=
 x=.ret (tB (cirF g hs f i C).1)∧os'=ciOs g hs (cirF g hs f i C).2
omit [Gm] in
theorem getC {C:List Nat} {i:Nat} (h:i<C.length):(C.map cI)[((i:Nat):Int).toNat]?=some (cI (C.getD i 0)):=by
 rw[Int.toNat_natCast,List.getElem?_map,List.getElem?_eq_getElem h]
 simp[List.getD,List.getElem?_eq_getElem h]
theorem ci_ent:Ent Tryz.prog 49:=fun a w=>Tryz.call49 a w
theorem ci_spec (g:Gr) (hg:GrOK g) (hs:List Nat):∀ (f i:Nat) (C:List Nat),i<g.length→C.length=g.length→white C<f →
  SC Tryz.prog 49 (ciOs g hs C) (.t (tI i)::ciCaps) (ciR g hs f i C):=by
 intro f
 induction f with
 | zero=>intro i C _ _ h;omega
 | succ f ih =>
 intro i C hi hC hf
 have hiC:i<C.length:=by omega
 have hbnd:(0:Int)≤(i:Int)∧(i:Int)<(C.map cI).length:=⟨Int.natCast_nonneg i,by rw[List.length_map];omega⟩
 have hget:=getC hiC
 refine SC.of_ok tok Tryz.func49 rfl (Nat.le_of_ble_eq_true rfl) (Nat.le_of_ble_eq_true rfl) (ev_sound ctx (own:=[]) _ _ _ ?_)
 refine⟨contains_ent,.inl ⟨_,contains_spec hs i,?_⟩⟩
 refine⟨fun _=>hbnd,cI (C.getD i 0),hget,?_⟩
 refine⟨fun h=>?_,fun h=>?_⟩
 ·have h:(isHd hs i||((C.getD i 0:Nat):Int)==2)=true:=h
  refine⟨ciOs g hs C,⟨?_,?_⟩,rfl,rfl,rfl,rfl,rfl,rfl,rfl,trivial⟩
  ·unfold cirF;rw[if_pos h];rfl
  ·unfold cirF;rw[if_pos h]
 ·have h:(isHd hs i||((C.getD i 0:Nat):Int)==2)=false:=h
  refine⟨hbnd,cI (C.getD i 0),hget,?_⟩
  refine⟨fun h1=>?_,fun h1=>?_⟩
  ·have h1:(((C.getD i 0:Nat):Int)==1)=true:=h1
   refine⟨ciOs g hs C,⟨?_,?_⟩,rfl,rfl,rfl,rfl,rfl,rfl,rfl,trivial⟩
   ·unfold cirF;rw[if_neg (by rw[h];simp),if_pos h1];rfl
   ·unfold cirF;rw[if_neg (by rw[h];simp),if_pos h1]
  ·have h1:(((C.getD i 0:Nat):Int)==1)=false:=h1
   have hcir:cirF g hs (f+1) i C=(match anyK (cirF g hs f) (g.getD i []) (C.set i 1) with
    | (true,C')=>(true,C')
    | (false,C')=>(false,C'.set i 2)):=by
    conv=>lhs;unfold cirF
    rw[if_neg (by rw[h];simp),if_neg (by rw[h1];simp)]
   have hw:white (C.set i 1)<white C:=by
    refine white_lt C i hiC ?_ ?_
    ·intro e;rw[e] at h1;cases h1
    ·intro e;rw[Bool.or_eq_false_iff,e] at h;exact absurd h.2 (by simp)
   have hinv:=cirF_inv g hs g.length f
   unfold ciR
   rw[hcir]
   have hgetG:(0:Int)≤(i:Int)∧(g.map fun l=>[encN l])[((i:Nat):Int).toNat]?=some [encN g[i]]:=⟨Int.natCast_nonneg i,by simp[List.getElem?_eq_getElem hi]⟩
   have hgi:g.getD i []=g[i]:=by simp[List.getD,List.getElem?_eq_getElem hi]
   have hlen:=hg.lenl _ (List.getElem_mem hi)
   have hltl:=hg.lt _ (List.getElem_mem hi)
   rw[hgi]
   generalize g[i]=l at hgetG hlen hltl
   refine⟨hbnd,?_⟩
   refine⟨cI (C.getD i 0),hget,?_⟩
   refine⟨[encN l],hgetG,?_⟩
   have hset:((C.map cI).set ((i:Nat):Int).toNat ((cI (C.getD i 0)).take 0++[tI 1]++(cI (C.getD i 0)).drop (0+1)))=(C.set i 1).map cI:=by
    rw[List.map_set];rfl
   refine Ok.loop (st:=fun x:Nat×List Nat=>⟨[(32,vi x.1),(31,vi l.length),(30,.t (encN l)),(4,.ptr 1003 0),(3,.ptr 1002 0),(2,.ptr 1001 0),(1,.ptr 1000 0),(0,.t (tI i))],lab 1000 (ciOs g hs x.2)⟩)
    (R:=fun x=>x.1≤l.length∧anyK (cirF g hs f) l (C.set i 1)=anyK (cirF g hs f) (l.drop x.1) x.2∧x.2.length=g.length∧white x.2≤white (C.set i 1)) (μ:=fun x=>l.length-x.1) (0,C.set i 1)
    (Wk.sub ⟨rfl,slotI (by simp),rfl,rfl,rfl,rfl,rfl,rfl,trivial⟩ ⟨rfl,rfl,rfl,rfl,congrArg (fun x=>some (AO.row 3 1 x)) hset,trivial⟩)
    ⟨Nat.zero_le _,rfl,by simpa using hC,Nat.le_refl _⟩ ?_
   rintro⟨j,M⟩ ⟨hj,hM,hML,hMw⟩
   have hj:j≤l.length:=hj
   have hM:anyK (cirF g hs f) l (C.set i 1)=anyK (cirF g hs f) (l.drop j) M:=hM
   have hML:M.length=g.length:=hML
   have hMw:white M≤white (C.set i 1):=hMw
   refine ev_sound ctx (own:=[]) _ _ _ ?_
   refine⟨fun h2=>?_,fun h2=>?_⟩
   ·have hlt:j<l.length:=ltOf h2
    have hgetL:(0:Int)≤(j:Int)∧(l.map cI)[((j:Nat):Int).toNat]?=some (cI l[j]):=getM hlt
    have hk:=hltl _ (List.getElem_mem hlt)
    rw[List.drop_eq_getElem_cons hlt] at hM
    generalize l[j]=k at hgetL hk hM
    simp only[anyK] at hM
    refine⟨cI k,hgetL,?_⟩
    refine⟨ci_ent,[1000,1001,1002,1003,1004],ciOs g hs M,.t (tI k)::ciCaps,_,ih k M hk hML (by omega),rfl,rfl,⟨rfl,rfl,rfl,rfl,rfl,trivial⟩,fun r os' _ hR=>?_,fun r os' _ hR=>?_⟩
    ·obtain⟨h3,rfl⟩:=hR
     injection h3 with h3
     subst h3
     have hiv:=hinv k M hML
     generalize cirF g hs f k M=q at hM hiv ⊢
     obtain⟨b,M'⟩:=q
     refine⟨fun h4=>?_,fun h4=>?_⟩
     ·have h4:b=true:=h4
      subst h4
      refine⟨ciOs g hs M',⟨?_,?_⟩,rfl,rfl,rfl,rfl,rfl,rfl,rfl,trivial⟩
      ·rw[hM];rfl
      ·rw[hM]
     ·have h4:b=false:=h4
      subst h4
      exact⟨trivial,(j+1,M'),Wk.sub ⟨slotI (wr1 hlt hlen),rfl,rfl,rfl,rfl,rfl,rfl,rfl,trivial⟩ ⟨rfl,rfl,rfl,rfl,rfl,trivial⟩,⟨hlt,hM,hiv.1,Nat.le_trans hiv.2 hMw⟩,dec hlt⟩
    ·cases hR.1
   ·have hge:l.length≤j:=geOf h2
    rw[List.drop_eq_nil_of_le hge] at hM
    have hiM:i<M.length:=by omega
    refine⟨⟨Int.natCast_nonneg i,by rw[List.length_map];omega⟩,cI (M.getD i 0),getC hiM,?_⟩
    refine⟨ciOs g hs (M.set i 2),⟨?_,?_⟩,rfl,rfl,rfl,rfl,rfl,rfl,?_,trivial⟩
    ·rw[hM];rfl
    ·rw[hM];rfl
    ·refine congrArg (fun x=>some (AO.row 3 1 x)) ?_
     rw[List.map_set];rfl
def circ (g:Gr) (hs:List Nat):Bool:=(anyK (fun k C=>if (reachL g (-1)).getD k false=true then cirF g hs (g.length+1) k C else (false,C)) (List.range g.length) (List.replicate g.length 0)).1
theorem circle_ent:Ent Tryz.prog 23:=fun a w=>Tryz.call23 a w
theorem circle_spec (g:Gr) (hg:GrOK g) (hs:List Nat):PC Tryz.prog 23 [encG g,encN hs] (tB (circ g hs)):=by
 refine PC.of_ok tok Tryz.func23 rfl (Nat.le_of_ble_eq_true rfl) (ev_sound ctx (own:=[30049]) _ _ _ ?_)
 have hrep:=repI_spec (tI 0) g.length hg.sm
 have hlen:((g.map fun l=>[encN l]).length:Int)=(g.length:Int):=by simp
 refine⟨reached_ent,.inl ⟨_,reached_spec g hg (-1),?_⟩⟩
 refine⟨repI_ent,.inr ⟨_,_,_,(by rw[hlen];exact hrep:OC Tryz.prog 48 [.sl 1 [[tI 0]],tI ((g.map fun l=>[encN l]).length:Nat)] 3 1 (List.replicate g.length [tI 0])),?_⟩⟩
 let F:Nat→List Nat→Bool×List Nat:=fun k C=>if (reachL g (-1)).getD k false=true then cirF g hs (g.length+1) k C else (false,C)
 refine Ok.loop (st:=fun x:Nat×List Nat=>⟨[(18,vi x.1),(17,vi g.length),(7,.ptr 7 0),(6,.ptr 6 0),(5,.t (encB (reachL g (-1)))),(3,.ptr 3 0),(2,.ptr 2 0)],
   [(3,.var [.t (encN hs)]),(6,.var [.sl 14]),(2,.var [.t (encG g)]),(7,.var [.fn 49 [.ptr 3 0,.ptr 6 0,.ptr 2 0,.ptr 7 0]]),(14,.row 3 1 (x.2.map cI))]⟩)
  (R:=fun x=>x.1≤g.length∧anyK F (List.range g.length) (List.replicate g.length 0)=anyK F ((List.range g.length).drop x.1) x.2∧x.2.length=g.length) (μ:=fun x=>g.length-x.1) (0,List.replicate g.length 0)
  (Wk.sub ⟨rfl,slotI (by simp),rfl,rfl,rfl,rfl,rfl,trivial⟩ ⟨rfl,rfl,rfl,rfl,congrArg (fun x=>some (AO.row 3 1 x)) (by simp[cI,tI]),trivial⟩) ⟨Nat.zero_le _,rfl,by simp⟩ ?_
 rintro⟨i,M⟩ ⟨hi,hM,hML⟩
 have hi:i≤g.length:=hi
 have hM:anyK F (List.range g.length) (List.replicate g.length 0)=anyK F ((List.range g.length).drop i) M:=hM
 have hML:M.length=g.length:=hML
 have hcirc:circ g hs=(anyK F (List.range g.length) (List.replicate g.length 0)).1:=rfl
 refine ev_sound ctx (own:=[30049]) _ _ _ ?_
 refine⟨fun h=>?_,fun h=>?_⟩
 ·have hlt:i<g.length:=ltOf h
  have hL:i<(reachL g (-1)).length:=by rw[reachL_len];exact hlt
  have hdr:(List.range g.length).drop i=i::(List.range g.length).drop (i+1):=by
   rw[List.drop_eq_getElem_cons (by simpa using hlt)];simp
  rw[hdr] at hM
  simp only[anyK] at hM
  refine⟨cB ((reachL g (-1)).getD i false),getB hL,?_⟩
  refine⟨fun hb=>?_,fun hb=>?_⟩
  ·have hb:(reachL g (-1)).getD i false=true:=hb
   have hF:F i M=cirF g hs (g.length+1) i M:=if_pos hb
   rw[hF] at hM
   have hwM:white M<g.length+1:=by
    have:white M≤M.length:=List.countP_le_length
    omega
   have hiv:=cirF_inv g hs g.length (g.length+1) i M hML
   refine⟨ci_ent,[3,6,2,7,14],ciOs g hs M,.t (tI i)::ciCaps,_,ci_spec g hg hs (g.length+1) i M hlt hML hwM,rfl,rfl,⟨rfl,rfl,rfl,rfl,rfl,trivial⟩,fun r os' _ hR=>?_,fun r os' _ hR=>?_⟩
   ·obtain⟨h3,rfl⟩:=hR
    injection h3 with h3
    subst h3
    generalize cirF g hs (g.length+1) i M=q at hM hiv ⊢
    obtain⟨b,M'⟩:=q
    refine⟨fun h4=>?_,fun h4=>?_⟩
    ·have h4:((reachL g (-1)).getD i false&&b)=true:=h4
     rw[hb,Bool.true_and] at h4
     subst h4
     refine toEq ?_
     rw[hcirc,hM];rfl
    ·have h4:((reachL g (-1)).getD i false&&b)=false:=h4
     rw[hb,Bool.true_and] at h4
     subst h4
     exact⟨trivial,(i+1,M'),Wk.sub ⟨slotI (wr1 hlt hg.len),rfl,rfl,rfl,rfl,rfl,rfl,trivial⟩ ⟨rfl,rfl,rfl,rfl,rfl,trivial⟩,⟨hlt,hM,hiv.1⟩,dec hlt⟩
   ·cases hR.1
  ·have hb:(reachL g (-1)).getD i false=false:=hb
   have hF:F i M=(false,M):=if_neg (by rw[hb];simp)
   rw[hF] at hM
   refine⟨fun h4=>?_,fun _=>?_⟩
   ·have h4:((reachL g (-1)).getD i false&&false)=true:=h4
    simp at h4
   ·exact⟨trivial,(i+1,M),Wk.sub ⟨slotI (wr1 hlt hg.len),rfl,rfl,rfl,rfl,rfl,rfl,trivial⟩ ⟨rfl,rfl,rfl,rfl,rfl,trivial⟩,⟨hlt,hM,hML⟩,dec hlt⟩
 ·have hge:g.length≤i:=geOf h
  rw[List.drop_eq_nil_of_le (by simpa using hge)] at hM
  refine toEq ?_
  rw[hcirc,hM];rfl
end
end Go.Proofs.YtihbimigddlbaaaGreatDoor.L
end
