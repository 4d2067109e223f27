/- A part of the proof: PlTv PlEv PlRel PlYield PlYield2 PlYield3 PlYield4 PlMap PlYield5 PlHeap PlReg PlSeal PlSC. -/
import Derived.WalkKit
import Derived.Below
import Derived.Maps.AppendAt
noncomputable section
set_option linter.all false
namespace Go.Proofs.YtihbimigddlbaaaGreatDoor.Pl
open Go.RowKit
section
inductive TV where
 | v (x:Value)
 | sl (k:Nat) (es:List (List TV))
 | ptr (cs:List TV)
 | agg (cs:List TV)
 | tup (vs:List TV)
 | fn (f:FuncId) (caps:List TV)
 | iface (t:TypeId) (x:TV)
 | mp (str:Bool) (es:List (Value×TV))
 deriving Inhabited
def scal:Value→Bool
 | .bool _ | .int _ _ | .string _ | .pointer none | .slice none 0 0 | .map none | .nilFunc | .nilIface=>true
 | _=>false
def CellsAt (w:World) (a:Addr) (us:List Value):Prop:=∀ j u,us[j]?=some u→w.cell? (a.add j)=some u
def OneAll (us:List Value):Prop:=∀ u∈us,u.oneCell'=true
def keyIs (str:Bool):Value→Bool
 | .int .i64 _=>!str
 | .string _=>str
 | _=>false
mutual
def TV.rel (w:World) (F:Nat→Prop):TV→Value→Prop
 | .v x,y=>y=x∧scal x=true
 | .sl k es,y=>∃ A c us,y=.slice A es.length c∧es.length≤c∧c≤maxLen∧0<k∧TV.relR w F k es us∧OneAll us∧(us=[]∨∃ a,A=some a∧F a.block∧CellsAt w a us)
 | .ptr cs,y=>∃ a us,y=.pointer (some a)∧TV.relL w F cs us∧OneAll us∧(us=[]∨F a.block∧CellsAt w a us)
 | .agg cs,y=>∃ us,y=.agg us.toArray∧TV.relL w F cs us∧OneAll us
 | .tup vs,y=>∃ us,y=.tuple us.toArray∧TV.relL w F vs us
 | .fn f caps,y=>∃ us,y=.func (.func f) #[] us.toArray∧TV.relL w F caps us
 | .iface t x,y=>∃ u,y=.iface t u∧x.rel w F u
 | .mp str es,y=>∃ g l',y=.map (some g)∧F g∧w.heap[g]?=some (.map l'.toArray es.length)∧MR w F str 0 es l'
def MR (w:World) (F:Nat→Prop) (str:Bool):Nat→List (Value×TV)→List MapEntry→Prop
 | _,[],l=>l=[]
 | i,(k,v)::es,l=>∃ e l',l=e::l'∧e.key=k∧keyIs str k=true∧v.rel w F e.val∧e.born=i∧MR w F str (i+1) es l'
def TV.relL (w:World) (F:Nat→Prop):List TV→List Value→Prop
 | [],us=>us=[]
 | c::cs,us=>∃ u us',us=u::us'∧c.rel w F u∧TV.relL w F cs us'
def TV.relR (w:World) (F:Nat→Prop) (k:Nat):List (List TV)→List Value→Prop
 | [],us=>us=[]
 | e::es,us=>∃ u1 u2,us=u1++u2∧e.length=k∧TV.relL w F e u1∧TV.relR w F k es u2
end
def Keeps (w:World) (F:Nat→Prop) (w':World) (F':Nat→Prop):Prop :=
 ∀ b,F b→b<w.heap.size→F' b∧w'.heap[b]?=w.heap[b]?
theorem CellsAt.keep {w w':World} {a:Addr} {us:List Value} (h:CellsAt w a us) (hb:us=[]∨w'.heap[a.block]?=w.heap[a.block]?):CellsAt w' a us:=by
 intro j u hj
 rcases hb with rfl | hb
 ·simp at hj
 ·have:=h j u hj
  rw[World.cell?_of_block (w:=w) (w':=w')]
  ·exact this
  ·have:(a.add j).block=a.block:=by unfold Addr.add;split <;> rfl
   rw[this];exact hb
theorem add_block (a:Addr) (j:Nat):(a.add j).block=a.block:=by unfold Addr.add;split <;> rfl
theorem CellsAt.lt {w:World} {a:Addr} {us:List Value} (h:CellsAt w a us) (hne:us≠[]):a.block<w.heap.size:=by
 cases us with
 | nil=>exact absurd rfl hne
 | cons u us=>have:=World.block_lt_of_cell? w _ (h 0 u rfl);rwa [add_block] at this
mutual
theorem TV.rel_keep {w w':World} {F F':Nat→Prop} (hk:Keeps w F w' F'):∀ (x:TV) (y:Value),x.rel w F y→x.rel w' F' y
 | .v x,y,h=>by simpa only[TV.rel] using h
 | .sl k es,y,h=>by
  simp only[TV.rel] at h ⊢
  obtain⟨A,c,us,h1,h2,h3,h4,h5,h6,h7⟩:=h
  refine⟨A,c,us,h1,h2,h3,h4,TV.relR_keep hk k es us h5,h6,?_⟩
  rcases h7 with h7 | ⟨a,ha,hF,hc⟩
  ·exact .inl h7
  ·by_cases he:us=[]
   ·exact .inl he
   ·have:=hk a.block hF (hc.lt he)
    exact .inr ⟨a,ha,this.1,hc.keep (.inr this.2)⟩
 | .ptr cs,y,h=>by
  simp only[TV.rel] at h ⊢
  obtain⟨a,us,h1,h2,h3,h4⟩:=h
  refine⟨a,us,h1,TV.relL_keep hk cs _ h2,h3,?_⟩
  rcases h4 with h4 | ⟨hF,hc⟩
  ·exact .inl h4
  ·by_cases he:us=[]
   ·exact .inl he
   ·have:=hk a.block hF (hc.lt he)
    exact .inr ⟨this.1,hc.keep (.inr this.2)⟩
 | .agg cs,y,h=>by
  simp only[TV.rel] at h ⊢
  obtain⟨us,h1,h2,h3⟩:=h
  exact⟨us,h1,TV.relL_keep hk cs _ h2,h3⟩
 | .tup vs,y,h=>by
  simp only[TV.rel] at h ⊢
  obtain⟨us,h1,h2⟩:=h
  exact⟨us,h1,TV.relL_keep hk vs _ h2⟩
 | .fn f caps,y,h=>by
  simp only[TV.rel] at h ⊢
  obtain⟨us,h1,h2⟩:=h
  exact⟨us,h1,TV.relL_keep hk caps _ h2⟩
 | .iface t x,y,h=>by
  simp only[TV.rel] at h ⊢
  obtain⟨u,h1,h2⟩:=h
  exact⟨u,h1,TV.rel_keep hk x u h2⟩
 | .mp str es,y,h=>by
  simp only[TV.rel] at h ⊢
  obtain⟨g,l',h1,h2,h3,h4⟩:=h
  have:=hk g h2 (Array.getElem?_eq_some_iff.1 h3).1
  exact⟨g,l',h1,this.1,by rw[this.2];exact h3,MR_keepX hk es l' h4⟩
theorem MR_keepX {w w':World} {F F':Nat→Prop} (hk:Keeps w F w' F') {str:Bool}:∀ {i:Nat} (es:List (Value×TV)) (l:List MapEntry),MR w F str i es l→MR w' F' str i es l
 | _,[],l,h=>by simpa only[MR] using h
 | i,(k,v)::es,l,h=>by
  simp only[MR] at h ⊢
  obtain⟨e,l',h1,h2,h3,h4,h5,h6⟩:=h
  exact⟨e,l',h1,h2,h3,TV.rel_keep hk _ _ h4,h5,MR_keepX hk es l' h6⟩
theorem TV.relL_keep {w w':World} {F F':Nat→Prop} (hk:Keeps w F w' F'):∀ (xs:List TV) (us:List Value),TV.relL w F xs us→TV.relL w' F' xs us
 | [],us,h=>by simpa only[TV.relL] using h
 | c::cs,us,h=>by
  simp only[TV.relL] at h ⊢
  obtain⟨u,us',h1,h2,h3⟩:=h
  exact⟨u,us',h1,TV.rel_keep hk c u h2,TV.relL_keep hk cs us' h3⟩
theorem TV.relR_keep {w w':World} {F F':Nat→Prop} (hk:Keeps w F w' F') (k:Nat):∀ (xs:List (List TV)) (us:List Value),TV.relR w F k xs us→TV.relR w' F' k xs us
 | [],us,h=>by simpa only[TV.relR] using h
 | e::es,us,h=>by
  simp only[TV.relR] at h ⊢
  obtain⟨u1,u2,h1,h2,h3,h4⟩:=h
  exact⟨u1,u2,h1,h2,TV.relL_keep hk e u1 h3,TV.relR_keep hk k es u2 h4⟩
end
theorem MR_keep {w w':World} {F F':Nat→Prop} (hk:Keeps w F w' F') {str:Bool} {i:Nat} {es:List (Value×TV)} {l:List MapEntry} (h:MR w F str i es l):MR w' F' str i es l:=MR_keepX hk es l h
end
end Go.Proofs.YtihbimigddlbaaaGreatDoor.Pl
end
noncomputable section
set_option linter.all false
namespace Go.Proofs.YtihbimigddlbaaaGreatDoor.Pl
open Go.RowKit
inductive AV where
 | t (x:TV)
 | ptr (l off:Nat)
 | rp (l i j:Nat)
 | sl (l:Nat)
 | sb (l i n:Nat)
 | agg (cs:List AV)
 | tup (vs:List AV)
 | fn (f:FuncId) (caps:List AV)
 | junk
 deriving Inhabited
inductive MO where
 | map (str:Bool) (es:List (Value×TV))
 | it (q:Nat) (seen:List Nat) (n:Nat)
 | sit (s:ByteArray) (pos:Nat)
 | dead
inductive AO where
 | var (cs:List AV)
 | row (e:TypeId) (k:Nat) (es:List (List TV))
 | mo (x:MO)
structure St where
 φ:List (Nat×AV)
 σ:List (Nat×AO)
def look {α:Type} (t:Nat):List (Nat×α)→Option α
 | []=>none
 | (k,v)::r=>bif Nat.beq t k then some v else look t r
inductive Ty where
 | bool | int (k:IntKind) | string | ptr | slice (e:TypeId) | array (n:Nat) (e:TypeId)
 | struct (fs:List (Nat×TypeId)) | map (k e:TypeId) | func | iface
structure TI where
 d:Ty
 size:Nat
 bytes:Nat
 zero:List TV
 eqs:List Nat:=[]
abbrev TyTab:=TypeId→Option TI
def Ty.agg:Ty→Bool
 | .struct _ | .array _ _=>true
 | _=>false
def vi (n:Int):AV:=.t (.v (.int .i64 n))
def vb (b:Bool):AV:=.t (.v (.bool b))
def allT:List AV→Option (List TV)
 | []=>some []
 | .t x::r=>match allT r with | some xs=>some (x::xs) | none=>none
 | _::_=>none
def mkAgg (cs:List AV):AV:=match allT cs with | some xs=>.t (.agg xs) | none=>.agg cs
def cellsOf:AV→Option (List AV)
 | .t (.agg xs)=>some (xs.map .t)
 | .t (.tup _) | .tup _ | .junk=>none
 | .agg cs=>some cs
 | x=>some [x]
def aggCells:AV→Option (List AV)
 | .t (.agg xs)=>some (xs.map .t)
 | .agg cs=>some cs
 | _=>none
def headT:List TV→Option TV
 | []=>none
 | x::_=>some x
def nth {α:Type}:List α→Nat→Option α
 | [],_=>none
 | x::_,0=>some x
 | _::r,n+1=>nth r n
def loadK (ti:TI) (σ:List (Nat×AO)) (K:AV→Prop):AV→Prop
 | .t (.ptr cs)=>bif ti.d.agg then (bif Nat.ble ti.size cs.length then K (.t (.agg (cs.take ti.size))) else False)
   else match headT cs with | some x=>K (.t x) | none=>False
 | .ptr l off=>match look l σ with
  | some (.var cs)=>bif ti.d.agg then (bif Nat.ble (off+ti.size) cs.length then K (mkAgg ((cs.drop off).take ti.size)) else False)
    else match nth cs off with | some x=>K x | none=>False
  | _=>False
 | .rp l i j=>match look l σ with
  | some (.row _ k es)=>∃ c,es[i]?=some c∧(bif ti.d.agg then (bif Nat.ble (j+ti.size) k then K (.t (.agg ((c.drop j).take ti.size))) else False)
    else match nth c j with | some x=>K (.t x) | none=>False)
  | _=>False
 | _=>False
def fieldAddrK (T:TyTab) (s:TypeId) (f:Nat) (K:AV→Prop) (p:AV):Prop :=
 match T s with
 | some { d:=.struct fs,.. }=>match nth fs f with
  | some (off,ft)=>match T ft with
   | some fi=>bif Nat.beq fi.size 0 then False else match p with
    | .t (.ptr cs)=>K (.t (.ptr (cs.drop off)))
    | .ptr l o=>K (.ptr l (o+off))
    | .rp l i j=>K (.rp l i (j+off))
    | _=>False
   | none=>False
  | none=>False
 | _=>False
def fieldK (T:TyTab) (s:TypeId) (f:Nat) (K:AV→Prop) (x:AV):Prop :=
 match T s with
 | some { d:=.struct fs,.. }=>match nth fs f with
  | some (off,ft)=>match T ft with
   | some fi=>match aggCells x with
    | some cs=>bif fi.d.agg then (bif Nat.ble (off+fi.size) cs.length then K (mkAgg ((cs.drop off).take fi.size)) else False)
     else match nth cs off with | some y=>K y | none=>False
    | none=>False
   | none=>False
  | none=>False
 | _=>False
def indexAddrK (T:TyTab) (σ:List (Nat×AO)) (W:Prop→Prop) (t:TypeId) (K:AV→Prop) (x:AV):AV→Prop
 | .t (.v (.int _ i))=>match T t,x with
  | some { d:=.slice e,.. },.t (.sl k es)=>match T e with
   | some ei=>bif Nat.beq ei.size k then ∃ c,W (0≤i∧es[i.toNat]?=some c)∧K (.t (.ptr c)) else False
   | none=>False
  | some { d:=.slice e,.. },.sl l=>match look l σ,T e with
   | some (.row _ k es),some ei=>bif Nat.beq ei.size k then W (0≤i∧i<es.length)∧K (.rp l i.toNat 0) else False
   | _,_=>False
  | some { d:=.slice e,.. },.sb l o n=>match look l σ,T e with
   | some (.row _ k _),some ei=>bif Nat.beq ei.size k then W (0≤i∧i<n)∧K (.rp l (o+i.toNat) 0) else False
   | _,_=>False
  | some { d:=.array n e,.. },.ptr l off=>match T e with
   | some ei=>bif Nat.ble 2 n then W (0≤i∧i<n)∧K (.ptr l (off+i.toNat*ei.size)) else False
   | none=>False
  | some { d:=.array n e,.. },.t (.ptr cs)=>match T e with
   | some ei=>bif Nat.ble 2 n then W (0≤i∧i<n)∧K (.t (.ptr (cs.drop (i.toNat*ei.size)))) else False
   | none=>False
  | _,_=>False
 | _=>False
def byteAt (s:ByteArray) (i:Int):Int:=(s.data.toList.getD i.toNat 0).toNat
def indexK (T:TyTab) (W:Prop→Prop) (t:TypeId) (K:AV→Prop) (x:AV):AV→Prop
 | .t (.v (.int _ i))=>match T t,x with
  | some { d:=.string,.. },.t (.v (.string s))=>W (0≤i∧i<s.size)∧K (.t (.v (.int .u8 (byteAt s i))))
  | _,_=>False
 | _=>False
def cmpI (op:BinOp) (x y:Int):Option Bool :=
 match op with
 | .eql=>some (x==y) | .neq=>some (x != y) | .lss=>some (decide (x<y)) | .leq=>some (decide (x≤y))
 | .gtr=>some (decide (x>y)) | .geq=>some (decide (x≥y)) | _=>none
def arI (op:BinOp) (k:IntKind) (x y:Int):Option (Int×Prop) :=
 match op with
 | .add=>some (k.wrap (x+y),True) | .sub=>some (k.wrap (x-y),True) | .mul=>some (k.wrap (x*y),True)
 | .quo=>some (k.wrap (x.tdiv y),y≠0) | .rem=>some (x.tmod y,y≠0)
 | .and=>some (k.wrap (BitVec.ofInt k.bits x &&& BitVec.ofInt k.bits y).toNat,True)
 | .or=>some (k.wrap (BitVec.ofInt k.bits x ||| BitVec.ofInt k.bits y).toNat,True)
 | .xor=>some (k.wrap (BitVec.ofInt k.bits x ^^^ BitVec.ofInt k.bits y).toNat,True)
 | .andNot=>some (k.wrap (BitVec.ofInt k.bits x &&& ~~~ BitVec.ofInt k.bits y).toNat,True)
 | _=>none
def cmpS (op:BinOp) (x y:ByteArray):Option Bool :=
 match op with
 | .eql=>some (x.toList==y.toList) | .neq=>some (!(x.toList==y.toList))
 | .lss=>some (Op.bytesLess x.toList y.toList) | .leq=>some (Op.bytesLess x.toList y.toList||x.toList==y.toList)
 | .gtr=>some (!(Op.bytesLess x.toList y.toList||x.toList==y.toList)) | .geq=>some (!(Op.bytesLess x.toList y.toList)) | _=>none
def isEq:BinOp→Option Bool
 | .eql=>some true | .neq=>some false | _=>none
def flip (pos:Bool) (b:Bool):Bool:=bif pos then b else !b
def sameKind:IntKind→IntKind→Bool
 | .i8,.i8 | .i16,.i16 | .i32,.i32 | .i64,.i64 | .u8,.u8 | .u16,.u16 | .u32,.u32 | .u64,.u64=>true
 | _,_=>false
def eqCells:List Nat→List TV→List TV→Option Bool
 | [],[],[]=>some true
 | 0::ls,.v (.int k a)::xs,.v (.int k' b)::ys=>match eqCells ls xs ys with | some r=>bif sameKind k k' then some (a==b&&r) else none | none=>none
 | 1::ls,.v (.bool a)::xs,.v (.bool b)::ys=>match eqCells ls xs ys with | some r=>some (a==b&&r) | none=>none
 | 2::ls,.v (.string a)::xs,.v (.string b)::ys=>match eqCells ls xs ys with | some r=>some (a.toList==b.toList&&r) | none=>none
 | _,_,_=>none
def isShift:BinOp→Bool
 | .shl | .shr=>true
 | _=>false
def binK (T:TyTab) (σ:List (Nat×AO)) (W:Prop→Prop) (op:BinOp) (t:TypeId) (K:AV→Prop) (x y:AV):Prop :=
 match x,y with
 | .t (.v (.int k a)),.t (.v (.int k' b)) =>
  bif isShift op then W (0≤b)∧(match op with
   | .shl=>K (.t (.v (.int k (k.wrap (a*2 ^ (min b.toNat k.bits))))))
   | .shr=>K (.t (.v (.int k (a.fdiv (2 ^ (min b.toNat k.bits))))))
   | _=>False)
  else bif sameKind k k' then (match cmpI op a b with
   | some r=>K (vb r)
   | none=>match arI op k a b with
    | some (r,side)=>W side∧K (.t (.v (.int k r)))
    | none=>False)
  else False
 | .t (.v (.string a)),.t (.v (.string b))=>match cmpS op a b with
  | some r=>K (vb r)
  | none=>match op with
   | .add=>W (a.size+b.size≤9223372036854775807)∧K (.t (.v (.string (a++b))))
   | _=>False
 | .t (.v (.bool a)),.t (.v (.bool b))=>match T t,isEq op with
  | some { d:=.bool,.. },some pos=>K (vb (flip pos (a==b)))
  | _,_=>False
 | .t (.agg xs),.t (.agg ys)=>match T t,isEq op with
  | some { eqs:=l::ls,.. },some pos=>match eqCells (l::ls) xs ys with
   | some r=>K (vb (flip pos r))
   | none=>False
  | _,_=>False
 | .t (.sl _ es),.t (.v (.slice none 0 0))=>match T t,isEq op with
  | some { d:=.slice _,.. },some pos=>∀ b:Bool,(b=true→es=[])→K (vb (flip pos b))
  | _,_=>False
 | .t (.v (.slice none 0 0)),.t (.v (.slice none 0 0))=>match T t,isEq op with
  | some { d:=.slice _,.. },some pos=>K (vb (flip pos true))
  | _,_=>False
 | .sl l,.t (.v (.slice none 0 0))=>match T t,isEq op,look l σ with
  | some { d:=.slice _,.. },some pos,some (.row _ _ es)=>∀ b:Bool,(b=true→es=[])→K (vb (flip pos b))
  | _,_,_=>False
 | _,_=>False
def unK (op:UnOp) (K:AV→Prop) (x:AV):Prop :=
 match op,x with
 | .not,.t (.v (.bool b))=>K (vb (!b))
 | .neg,.t (.v (.int k n))=>K (.t (.v (.int k (k.wrap (0-n)))))
 | _,_=>False
def extractK (i:Nat) (K:AV→Prop) (x:AV):Prop :=
 match x with
 | .t (.tup vs)=>match nth vs i with | some y=>K (.t y) | none=>False
 | .tup vs=>match nth vs i with | some y=>K y | none=>False
 | _=>False
def putAt (off:Nat) (new:List AV) (cs:List AV):List AV:=cs.take off++new++cs.drop (off+new.length)
def fillK (fs:List (Nat×TypeId)) (T:TyTab) (lk:Operand→Option AV):List (Nat×Operand)→List AV→Option (List AV)
 | [],cs=>some cs
 | (i,x)::r,cs=>match nth fs i,lk x with
  | some (off,ft),some v=>match T ft,cellsOf v with
   | some fi,some new=>bif Nat.beq new.length fi.size&&Nat.ble (off+fi.size) cs.length then fillK fs T lk r (putAt off new cs) else none
   | _,_=>none
  | _,_=>none
def buildK (T:TyTab) (lk:Operand→Option AV) (t:TypeId) (parts:Array (Nat×Operand)) (K:AV→Prop):Prop :=
 match T t with
 | some { d:=.struct fs,zero:=z,.. }=>match fillK fs T lk parts.toList (z.map .t) with
  | some cs=>K (mkAgg cs)
  | none=>False
 | _=>False
def constA:Value→Option AV
 | .func (.func f) first caps=>bif Nat.beq first.size 0&&Nat.beq caps.size 0 then some (.t (.fn f [])) else none
 | x=>bif scal x then some (.t (.v x)) else none
end Go.Proofs.YtihbimigddlbaaaGreatDoor.Pl
namespace Go.Proofs.YtihbimigddlbaaaGreatDoor.Pl
open Go.RowKit
def mkFn (f:FuncId) (cs:List AV):AV:=match allT cs with | some xs=>.t (.fn f xs) | none=>.fn f cs
def lkAll (lk:Operand→Option AV):List Operand→Option (List AV)
 | []=>some []
 | x::r=>match lk x,lkAll lk r with | some v,some vs=>some (v::vs) | _,_=>none
def endsOf (lk:Operand→Option AV) (n:Nat) (lo hi:Option Operand):Option (Int×Int) :=
 match (match lo with | none=>some (0:Int) | some x=>match lk x with | some (.t (.v (.int _ i)))=>some i | _=>none),
    (match hi with | none=>some (n:Int) | some x=>match lk x with | some (.t (.v (.int _ i)))=>some i | _=>none) with
 | some a,some b=>some (a,b)
 | _,_=>none
def sliceK (T:TyTab) (lk:Operand→Option AV) (σ:List (Nat×AO)) (W:Prop→Prop) (t:TypeId) (lo hi mx:Option Operand) (K:AV→Prop) (x:AV):Prop :=
 match T t,x with
 | some { d:=.string,.. },.t (.v (.string s))=>match mx with
  | none=>match endsOf lk s.size lo hi with
   | some (a,b)=>W (0≤a∧a≤b∧b≤s.size)∧K (.t (.v (.string (s.extract a.toNat b.toNat))))
   | none=>False
  | some _=>False
 | some { d:=.slice e,.. },.t (.sl k es)=>match mx,T e with
  | none,some ei=>bif Nat.beq ei.size k then (match endsOf lk es.length lo hi with
   | some (a,b)=>W (0≤a∧a≤b∧b≤es.length)∧K (.t (.sl k ((es.take b.toNat).drop a.toNat)))
   | none=>False) else False
  | _,_=>False
 | some { d:=.slice e,.. },.sl l=>match mx,T e,look l σ with
  | none,some ei,some (.row _ k es)=>bif Nat.beq ei.size k then (match endsOf lk es.length lo hi with
   | some (a,b)=>W (0≤a∧a≤b∧b≤es.length)∧K (.sb l (0+a.toNat) (b.toNat-a.toNat))
   | none=>False) else False
  | _,_,_=>False
 | some { d:=.slice e,.. },.sb l o n=>match mx,T e,look l σ with
  | none,some ei,some (.row _ k _)=>bif Nat.beq ei.size k then (match endsOf lk n lo hi with
   | some (a,b)=>W (0≤a∧a≤b∧b≤n)∧K (.sb l (o+a.toNat) (b.toNat-a.toNat))
   | none=>False) else False
  | _,_,_=>False
 | _,_=>False
def lenK (T:TyTab) (σ:List (Nat×AO)) (t:TypeId) (K:AV→Prop) (x:AV):Prop :=
 match T t,x with
 | some { d:=.string,.. },.t (.v (.string s))=>K (vi s.size)
 | some { d:=.slice _,.. },.t (.sl _ es)=>K (vi es.length)
 | some { d:=.slice _,.. },.t (.v (.slice none 0 0))=>K (vi 0)
 | some { d:=.slice _,.. },.sl l=>match look l σ with
  | some (.row _ _ es)=>K (vi es.length)
  | _=>False
 | some { d:=.slice _,.. },.sb _ _ n=>K (vi n)
 | some { d:=.array n _,.. },_=>K (vi n)
 | _,_=>False
def maxMinK (mx:Bool) (K:AV→Prop):List AV→Prop
 | [.t (.v (.int k a)),.t (.v (.int k' b))]=>bif sameKind k k' then K (.t (.v (.int k (if mx then (if b>a then b else a) else (if b<a then b else a))))) else False
 | _=>False
def keyEq:Value→Value→Bool
 | .int _ a,.int _ b=>a==b
 | .string a,.string b=>a==b
 | _,_=>false
def findE (kv:Value):List (Value×TV)→Option TV
 | []=>none
 | (k,v)::r=>bif keyEq kv k then some v else findE kv r
def setE (kv:Value) (x:TV):List (Value×TV)→List (Value×TV)
 | []=>[(kv,x)]
 | (k,v)::r=>bif keyEq kv k then (kv,x)::r else (k,v)::setE kv x r
def keyTyB (T:TyTab) (kt:TypeId) (str:Bool):Bool :=
 match T kt with
 | some { d:=.string,.. }=>str
 | some { d:=.int .i64,.. }=>!str
 | _=>false
def zeroT (ti:TI):Option TV :=
 bif ti.d.agg then some (.agg ti.zero) else match ti.zero with
  | [x]=>some x
  | _=>none
def lookupK (T:TyTab) (σ:List (Nat×AO)) (W:Prop→Prop) (t:TypeId) (ok:Bool) (K:AV→Prop) (x k:AV):Prop :=
 match T t,x,k with
 | some { d:=.map kt e,.. },.t (.mp str es),.t (.v kv)=>match T e with
  | some ei=>match zeroT ei with
   | some z=>bif keyIs str kv&&keyTyB T kt str then
     (bif ok then ∃ (b:Bool) (v:TV),W ((findE kv es).isSome=b∧(findE kv es).getD z=v)∧K (.t (.tup [v,.v (.bool b)]))
     else ∃ v,W ((findE kv es).getD z=v)∧K (.t v)) else False
   | none=>False
  | none=>False
 | some { d:=.map kt e,.. },.sl l,.t (.v kv)=>match look l σ,T e with
  | some (.mo (.map str es)),some ei=>match zeroT ei with
   | some z=>bif keyIs str kv&&keyTyB T kt str then
     (bif ok then ∃ (b:Bool) (v:TV),W ((findE kv es).isSome=b∧(findE kv es).getD z=v)∧K (.t (.tup [v,.v (.bool b)]))
     else ∃ v,W ((findE kv es).getD z=v)∧K (.t v)) else False
   | none=>False
  | _,_=>False
 | _,_,_=>False
def yieldK (T:TyTab) (lk:Operand→Option AV) (σ:List (Nat×AO)) (W:Prop→Prop) (op:Op) (K:AV→Prop):Prop :=
 match op with
 | .move x=>match lk x with | some v=>K v | none=>False
 | .assign x=>match lk x with | some v=>K v | none=>False
 | .load t a=>match T t,lk a with | some ti,some p=>loadK ti σ K p | _,_=>False
 | .fieldAddr s x f=>match lk x with | some p=>fieldAddrK T s f K p | none=>False
 | .field s x f=>match lk x with | some v=>fieldK T s f K v | none=>False
 | .indexAddr t x i=>match lk x,lk i with | some v,some j=>indexAddrK T σ W t K v j | _,_=>False
 | .index t x i=>match lk x,lk i with | some v,some j=>indexK T W t K v j | _,_=>False
 | .binOp op t x y _=>match lk x,lk y with | some a,some b=>binK T σ W op t K a b | _,_=>False
 | .unOp op _ x=>match lk x with | some v=>unK op K v | none=>False
 | .lookup t x k ok=>match lk x,lk k with | some v,some j=>lookupK T σ W t ok K v j | _,_=>False
 | .convert src dst x=>match T src,T dst,lk x with
  | some _,some { d:=.int k,.. },some (.t (.v (.int _ n)))=>K (.t (.v (.int k (k.wrap n))))
  | _,_,_=>False
 | .extract x i=>match lk x with | some v=>extractK i K v | none=>False
 | .build t parts=>buildK T lk t parts K
 | .nilCheck x=>match lk x with
  | some (.ptr l o)=>K (.ptr l o)
  | some (.rp l i j)=>K (.rp l i j)
  | some (.t (.ptr cs))=>K (.t (.ptr cs))
  | some (.t (.fn f cs))=>K (.t (.fn f cs))
  | some (.fn f cs)=>K (.fn f cs)
  | _=>False
 | .makeFunc (.func f) first caps=>match first.toList,lkAll lk caps.toList with
  | [],some cs=>K (mkFn f cs)
  | _,_=>False
 | .makeInterface t x=>match T t,lk x with
  | some { d:=.iface,.. },_=>False
  | some _,some (.t v)=>K (.t (.iface t v))
  | _,_=>False
 | .slice t x lo hi mx=>match lk x with | some v=>sliceK T lk σ W t lo hi mx K v | none=>False
 | .call { callee:=.builtin .len,args:=as,argTypes:=ts }=>match lkAll lk as.toList,ts.toList with
  | some [x],[t]=>lenK T σ t K x
  | _,_=>False
 | .call { callee:=.builtin .max,args:=as,.. }=>match lkAll lk as.toList with | some xs=>maxMinK true K xs | none=>False
 | .call { callee:=.builtin .min,args:=as,.. }=>match lkAll lk as.toList with | some xs=>maxMinK false K xs | none=>False
 | _=>False
end Go.Proofs.YtihbimigddlbaaaGreatDoor.Pl
end
noncomputable section
set_option linter.all false
namespace Go.Proofs.YtihbimigddlbaaaGreatDoor.Pl
open Go.RowKit
section
def slH (v:Value):Prop:=(∃ A n c,v=.slice A n c)∨∃ g,v=.map (some g)
mutual
def AV.rel (w:World) (F:Nat→Prop) (m:Nat→Value) (kk:Nat→Nat):AV→Value→Prop
 | .t x,y=>x.rel w F y
 | .ptr l off,y=>∃ g,m l=.pointer (some ⟨g,0,none⟩)∧y=.pointer (some ((⟨g,0,none⟩:Addr).add off))
 | .rp l i j,y=>∃ g n c,m l=.slice (some ⟨g,0,none⟩) n c∧y=.pointer (some ((⟨g,0,none⟩:Addr).add (i*kk l+j)))
 | .sl l,y=>y=m l∧slH (m l)
 | .sb l i n,y=>(∃ g N c A,m l=.slice (some ⟨g,0,none⟩) N c∧y=.slice (some A) n (c-i)∧A.block=g∧(n≠0∨i<c→A=(⟨g,0,none⟩:Addr).add (i*kk l))∧(i=0→A=⟨g,0,none⟩)∧i+n≤N)∨(m l=.slice none 0 0∧y=.slice none 0 0∧i=0∧n=0)
 | .agg cs,y=>∃ us,y=.agg us.toArray∧AV.relL w F m kk cs us∧OneAll us
 | .tup vs,y=>∃ us,y=.tuple us.toArray∧AV.relL w F m kk vs us
 | .fn f caps,y=>∃ us,y=.func (.func f) #[] us.toArray∧AV.relL w F m kk caps us
 | .junk,_=>True
def AV.relL (w:World) (F:Nat→Prop) (m:Nat→Value) (kk:Nat→Nat):List AV→List Value→Prop
 | [],us=>us=[]
 | c::cs,us=>∃ u us',us=u::us'∧c.rel w F m kk u∧AV.relL w F m kk cs us'
end
def obk:Value→Option Nat
 | .pointer (some a)=>some a.block
 | .slice (some a) _ _=>some a.block
 | .map (some g)=>some g
 | _=>none
def ownAt (w:World) (O:Nat→Prop) (e:TypeId) (k:Nat) (v:Value) (n:Nat) (xs:List Value):Prop:=w.ownsRow 0 e k v n xs∧∀ g,obk v=some g→O g
structure Kept (O:Nat→Prop) (w0 w:World):Prop where
 os:w.os=w0.os
 tape:w.tape=w0.tape
 output:w.output=w0.output
 size:w0.heap.size≤w.heap.size
 block:∀ b,b<w0.heap.size→¬ O b→w.heap[b]?=w0.heap[b]?
structure PW extends World where
 pin:Nat→Value
 pk:Nat→Nat
instance:Coe PW World:=⟨PW.toWorld⟩
def PW.of (w:World):PW:={ w with pin:=fun _=>.nilFunc,pk:=fun _=>0 }
class Gm where
 g:World→Prop
 keep:∀ w w',Kept (fun b=>w.heap.size≤b) w w'→g w→g w'
@[reducible] def Gm.triv:Gm:=⟨fun _=>True,fun _ _ _ _=>trivial⟩
variable [Gm]
def MO.rel (w:World) (F:Nat→Prop) (m:Nat→Value) (B0:Nat→Prop) (l:Nat):MO→Prop
 | .map str es=>∃ g l',m l=.map (some g)∧B0 g∧w.heap[g]?=some (.map l'.toArray es.length)∧MR w F str 0 es l'
 | .it q seen n=>∃ g g',m l=.pointer (some ⟨g,0,none⟩)∧B0 g∧m q=.map (some g')∧w.heap[g]?=some (.mapIter (some g') n seen.toArray n)
 | .sit s pos=>∃ g,m l=.pointer (some ⟨g,0,none⟩)∧B0 g∧w.heap[g]?=some (.stringIter s pos)
 | .dead=>∀ g,obk (m l)=some g→B0 g∧g<w.heap.size
def AO.rel (w:World) (F:Nat→Prop) (m:Nat→Value) (kk:Nat→Nat) (B0:Nat→Prop) (l:Nat):AO→Prop
 | .var cs=>∃ g us t,m l=.pointer (some ⟨g,0,none⟩)∧B0 g∧w.heap[g]?=some (.cells us.toArray t (0,0))∧AV.relL w F m kk cs us∧OneAll us
 | .row e k es=>∃ us,ownAt w B0 e k (m l) es.length us∧TV.relR w F k es us∧OneAll us∧0<k∧kk l=k
 | .mo x=>x.rel w F m B0 l
def Fc (F0:Nat→Prop) (B0:Nat→Prop) (σ:List (Nat×AO)) (m:Nat→Value) (b:Nat):Prop :=
 (F0 b∨B0 b)∧∀ l o,look l σ=some o→obk (m l)≠some b
structure Heap (B0:Nat→Prop) (F0:Nat→Prop) (w0:World) (σ:List (Nat×AO)) (m:Nat→Value) (kk:Nat→Nat) (w:World):Prop where
 base:∀ g,w0.heap.size≤g→B0 g
 below:Kept B0 w0 w
 gm:∀ w',Kept B0 w0 w'→Gm.g w'
 ob:∀ l o,look l σ=some o→o.rel w (Fc F0 B0 σ m) m kk B0 l
 dj:∀ l l' o o',look l σ=some o→look l' σ=some o'→l≠l'→obk (m l)=none∨obk (m l)≠obk (m l')
structure Sim (N:Nat) (B0:Nat→Prop) (F0:Nat→Prop) (w0:PW) (s:St) (m:Nat→Value) (kk:Nat→Nat) (a:Act) (w:World):Prop extends Heap B0 F0 w0.toWorld s.σ m kk w where
 fr:∀ t v,look t s.φ=some v→v.rel w (Fc F0 B0 s.σ m) m kk (a.tmps.getD t undef)
 df:a.defers=[]
 sz:a.tmps.size=N
 pn:∀ l,N≤l→1000≤l→m l=w0.pin l∧kk l=w0.pk l
omit [Gm] in
theorem look_cons {α:Type} (t k:Nat) (v:α) (r:List (Nat×α)):look t ((k,v)::r)=if t=k then some v else look t r:=by
 show cond (Nat.beq t k) _ _=_
 by_cases h:t=k
 ·subst h;simp
 ·have:Nat.beq t k=false:=by
   cases hb:Nat.beq t k with
   | true=>exact absurd (Nat.eq_of_beq_eq_true hb) h
   | false=>rfl
  simp[this,h]
def Ty.fits:Ty→TypeDesc→Prop
 | .bool,d=>d=.bool
 | .int k,d=>d=.int k
 | .string,d=>d=.string
 | .ptr,d=>∃ e,d=.pointer e
 | .slice e,d=>d=.slice e
 | .array n e,d=>d=.array n e
 | .struct fs,d=>∃ a,d=.struct a∧fs=a.toList.map (fun f=>(f.offset,f.type))
 | .map k e,d=>d=.map k e
 | .func,d=>∃ a b c,d=.func a b c
 | .iface,d=>∃ a,d=.interface a
def aggV:Value→Bool
 | .agg _=>true
 | _=>false
def TOK (P:Program) (T:TyTab):Prop :=
 ∀ t i,T t=some i→∃ info d,P.info? t=some info∧P.underlying t=some d∧i.d.fits d∧info.size=i.size∧info.bytes=i.bytes ∧
  (∃ z,info.zero=some z∧(∀ w F,TV.relL w F i.zero z.cells.toList)∧OneAll z.cells.toList∧z.cells.size=i.size) ∧
  (∀ fs,i.d=.struct fs→∀ p∈fs,∃ fi,T p.2=some fi)∧(∀ z,info.zero=some z→aggV z=i.d.agg)
def EqFact (P:Program) (t:TypeId) (ls:List Nat):Prop :=
 P.eqGuardType P.depth t=false∧∀ (w:World) (F:Nat→Prop) (xs ys:List TV) (us vs:List Value) (r:Bool),TV.relL w F xs us→TV.relL w F ys vs →
  eqCells ls xs ys=some r→(Op.equalIn 10000 t (.agg us.toArray) (.agg vs.toArray)).run P w=.ok r w
structure Ctx (P:Program) (T:TyTab):Prop where
 tok:TOK P T
 eqk:∀ t i l ls,T t=some i→i.eqs=l::ls→EqFact P t (l::ls)
 mixed:P.follows .mixedOrders=true
section
variable {P:Program} {T:TyTab} {w:World}
omit [Gm] in
theorem TOK.under (h:TOK P T) {t:TypeId} {i:TI} (ht:T t=some i):∃ d,i.d.fits d∧(underlying t).run P w=.ok d w:=by
 obtain⟨info,d,h1,h2,h3,_⟩:=h t i ht
 exact⟨d,h3,run_underlying h2 w⟩
omit [Gm] in
theorem TOK.size (h:TOK P T) {t:TypeId} {i:TI} (ht:T t=some i):(sizeOf t).run P w=.ok i.size w:=by
 obtain⟨info,d,h1,h2,h3,h4,_⟩:=h t i ht
 simp[sizeOf,typeInfo,h1,h4]
omit [Gm] in
theorem fits_agg {d:Ty} {u:TypeDesc} (h:d.fits u):(match u with | .struct _ | .array _ _=>true | _=>false)=d.agg:=by
 cases d <;> simp only[Ty.fits] at h
 case bool=>subst h;rfl
 case int=>subst h;rfl
 case string=>subst h;rfl
 case ptr=>obtain⟨e,rfl⟩:=h;rfl
 case slice=>subst h;rfl
 case array=>subst h;rfl
 case struct=>obtain⟨a,rfl,_⟩:=h;rfl
 case map=>subst h;rfl
 case func=>obtain⟨a,b,c,rfl⟩:=h;rfl
 case iface=>obtain⟨a,rfl⟩:=h;rfl
omit [Gm] in
theorem TOK.agg (h:TOK P T) {t:TypeId} {i:TI} (ht:T t=some i):(isAgg t).run P w=.ok i.d.agg w:=by
 obtain⟨d,h1,h2⟩:=h.under (w:=w) ht
 have:=fits_agg h1
 simp only[isAgg,Sem.run_bind,h2,Result.andThen_ok]
 rw[←this]
 cases d <;> rfl
end
section
variable {w:World} {F:Nat→Prop} {m:Nat→Value} {kk:Nat→Nat}
omit [Gm] in
theorem TV.relL_length:∀ {xs:List TV} {us:List Value},TV.relL w F xs us→us.length=xs.length
 | [],us,h=>by simp only[TV.relL] at h;subst h;rfl
 | x::xs,us,h=>by
  simp only[TV.relL] at h
  obtain⟨u,us',rfl,_,h'⟩:=h
  simp[TV.relL_length h']
omit [Gm] in
theorem AV.relL_length:∀ {xs:List AV} {us:List Value},AV.relL w F m kk xs us→us.length=xs.length
 | [],us,h=>by simp only[AV.relL] at h;subst h;rfl
 | x::xs,us,h=>by
  simp only[AV.relL] at h
  obtain⟨u,us',rfl,_,h'⟩:=h
  simp[AV.relL_length h']
omit [Gm] in
theorem TV.relL_drop:∀ (n:Nat) {xs:List TV} {us:List Value},TV.relL w F xs us→TV.relL w F (xs.drop n) (us.drop n)
 | 0,xs,us,h=>by simpa using h
 | n+1,[],us,h=>by simp only[TV.relL] at h;subst h;simp[TV.relL]
 | n+1,x::xs,us,h=>by
  simp only[TV.relL] at h
  obtain⟨u,us',rfl,_,h'⟩:=h
  simpa using TV.relL_drop n h'
omit [Gm] in
theorem TV.relL_take:∀ (n:Nat) {xs:List TV} {us:List Value},TV.relL w F xs us→TV.relL w F (xs.take n) (us.take n)
 | 0,xs,us,h=>by simp[TV.relL]
 | n+1,[],us,h=>by simp only[TV.relL] at h;subst h;simp[TV.relL]
 | n+1,x::xs,us,h=>by
  simp only[TV.relL] at h
  obtain⟨u,us',rfl,h0,h'⟩:=h
  simp only[List.take_succ_cons,TV.relL]
  exact⟨u,_,rfl,h0,TV.relL_take n h'⟩
omit [Gm] in
theorem AV.relL_drop:∀ (n:Nat) {xs:List AV} {us:List Value},AV.relL w F m kk xs us→AV.relL w F m kk (xs.drop n) (us.drop n)
 | 0,xs,us,h=>by simpa using h
 | n+1,[],us,h=>by simp only[AV.relL] at h;subst h;simp[AV.relL]
 | n+1,x::xs,us,h=>by
  simp only[AV.relL] at h
  obtain⟨u,us',rfl,_,h'⟩:=h
  simpa using AV.relL_drop n h'
omit [Gm] in
theorem AV.relL_take:∀ (n:Nat) {xs:List AV} {us:List Value},AV.relL w F m kk xs us→AV.relL w F m kk (xs.take n) (us.take n)
 | 0,xs,us,h=>by simp[AV.relL]
 | n+1,[],us,h=>by simp only[AV.relL] at h;subst h;simp[AV.relL]
 | n+1,x::xs,us,h=>by
  simp only[AV.relL] at h
  obtain⟨u,us',rfl,h0,h'⟩:=h
  simp only[List.take_succ_cons,AV.relL]
  exact⟨u,_,rfl,h0,AV.relL_take n h'⟩
omit [Gm] in
theorem AV.relL_append:∀ {xs ys:List AV} {us vs:List Value},AV.relL w F m kk xs us→AV.relL w F m kk ys vs→AV.relL w F m kk (xs++ys) (us++vs)
 | [],ys,us,vs,h,h'=>by simp only[AV.relL] at h;subst h;simpa using h'
 | x::xs,ys,us,vs,h,h'=>by
  simp only[AV.relL] at h
  obtain⟨u,us',rfl,h0,h1⟩:=h
  simp only[List.cons_append,AV.relL]
  exact⟨u,_,rfl,h0,AV.relL_append h1 h'⟩
omit [Gm] in
theorem TV.relL_append:∀ {xs ys:List TV} {us vs:List Value},TV.relL w F xs us→TV.relL w F ys vs→TV.relL w F (xs++ys) (us++vs)
 | [],ys,us,vs,h,h'=>by simp only[TV.relL] at h;subst h;simpa using h'
 | x::xs,ys,us,vs,h,h'=>by
  simp only[TV.relL] at h
  obtain⟨u,us',rfl,h0,h1⟩:=h
  simp only[List.cons_append,TV.relL]
  exact⟨u,_,rfl,h0,TV.relL_append h1 h'⟩
omit [Gm] in
theorem relL_map:∀ {xs:List TV} {us:List Value},TV.relL w F xs us↔AV.relL w F m kk (xs.map .t) us
 | [],us=>by simp[TV.relL,AV.relL]
 | x::xs,us=>by simp only[List.map_cons,TV.relL,AV.relL,AV.rel];simp only[relL_map (xs:=xs)]
omit [Gm] in
theorem relL_allT:∀ {cs:List AV} {us:List Value} {xs:List TV},AV.relL w F m kk cs us→allT cs=some xs→TV.relL w F xs us
 | [],us,xs,h,e=>by simp only[allT] at e;injection e with e;subst e;simpa [TV.relL,AV.relL] using h
 | c::cs,us,xs,h,e=>by
  cases c <;> simp only[allT] at e <;> try (cases e;done)
  rename_i x
  split at e
  ·rename_i ys hy
   injection e with e;subst e
   simp only[AV.relL,AV.rel] at h
   obtain⟨u,us',rfl,h0,h1⟩:=h
   simp only[TV.relL]
   exact⟨u,us',rfl,h0,relL_allT h1 hy⟩
  ·cases e
omit [Gm] in
theorem rel_mkAgg {cs:List AV} {us:List Value} (h:AV.relL w F m kk cs us) (h1:OneAll us):(mkAgg cs).rel w F m kk (.agg us.toArray):=by
 unfold mkAgg
 split
 ·rename_i xs hx
  simp only[AV.rel,TV.rel]
  exact⟨us,rfl,relL_allT h hx,h1⟩
 ·simp only[AV.rel];exact⟨us,rfl,h,h1⟩
omit [Gm] in
theorem TV.relL_nth:∀ {n:Nat} {xs:List TV} {us:List Value} {x:TV},TV.relL w F xs us→nth xs n=some x→∃ u,us[n]?=some u∧x.rel w F u
 | _,[],us,x,h,e=>by simp[nth] at e
 | 0,y::xs,us,x,h,e=>by
  simp only[nth] at e;injection e with e;subst e
  simp only[TV.relL] at h
  obtain⟨u,us',rfl,h0,_⟩:=h
  exact⟨u,rfl,h0⟩
 | n+1,y::xs,us,x,h,e=>by
  simp only[nth] at e
  simp only[TV.relL] at h
  obtain⟨u,us',rfl,_,h1⟩:=h
  obtain⟨u',h2,h3⟩:=TV.relL_nth h1 e
  exact⟨u',by simpa using h2,h3⟩
omit [Gm] in
theorem AV.relL_nth:∀ {n:Nat} {xs:List AV} {us:List Value} {x:AV},AV.relL w F m kk xs us→nth xs n=some x→∃ u,us[n]?=some u∧x.rel w F m kk u
 | _,[],us,x,h,e=>by simp[nth] at e
 | 0,y::xs,us,x,h,e=>by
  simp only[nth] at e;injection e with e;subst e
  simp only[AV.relL] at h
  obtain⟨u,us',rfl,h0,_⟩:=h
  exact⟨u,rfl,h0⟩
 | n+1,y::xs,us,x,h,e=>by
  simp only[nth] at e
  simp only[AV.relL] at h
  obtain⟨u,us',rfl,_,h1⟩:=h
  obtain⟨u',h2,h3⟩:=AV.relL_nth h1 e
  exact⟨u',by simpa using h2,h3⟩
omit [Gm] in
theorem TV.relR_get {k:Nat}:∀ {n:Nat} {es:List (List TV)} {us:List Value} {c:List TV},TV.relR w F k es us→es[n]?=some c →
  c.length=k∧TV.relL w F c ((us.drop (n*k)).take k)
 | _,[],us,c,h,e=>by simp at e
 | 0,y::xs,us,c,h,e=>by
  simp at e;subst e
  simp only[TV.relR] at h
  obtain⟨u1,u2,rfl,hk,h0,_⟩:=h
  have:=TV.relL_length h0
  subst hk
  refine⟨rfl,?_⟩
  simp only[Nat.zero_mul,List.drop_zero]
  rw[←this,List.take_left];exact h0
 | n+1,y::xs,us,c,h,e=>by
  simp only[TV.relR] at h
  obtain⟨u1,u2,rfl,hk,h0,h1⟩:=h
  have hl:=TV.relL_length h0
  obtain⟨h2,h3⟩:=TV.relR_get h1 (by simpa using e)
  refine⟨h2,?_⟩
  have:(n+1)*k=u1.length+n*k:=by rw[hl,hk,Nat.add_mul];omega
  rw[this,←List.drop_drop,List.drop_left]
  exact h3
omit [Gm] in
theorem TV.relR_length {k:Nat}:∀ {es:List (List TV)} {us:List Value},TV.relR w F k es us→us.length=es.length*k
 | [],us,h=>by simp only[TV.relR] at h;subst h;simp
 | y::xs,us,h=>by
  simp only[TV.relR] at h
  obtain⟨u1,u2,rfl,hk,h0,h1⟩:=h
  have hl:=TV.relL_length h0
  have:=TV.relR_length h1
  simp[hl,hk,this,Nat.add_mul];omega
omit [Gm] in
theorem TV.relR_append {k:Nat}:∀ {xs ys:List (List TV)} {us vs:List Value},TV.relR w F k xs us→TV.relR w F k ys vs→TV.relR w F k (xs++ys) (us++vs)
 | [],ys,us,vs,h,h'=>by simp only[TV.relR] at h;subst h;simpa using h'
 | x::xs,ys,us,vs,h,h'=>by
  simp only[TV.relR] at h
  obtain⟨u1,u2,rfl,hk,h0,h1⟩:=h
  simp only[List.cons_append,TV.relR]
  exact⟨u1,u2++vs,by simp,hk,h0,TV.relR_append h1 h'⟩
omit [Gm] in
theorem rel_cellsOf {x:AV} {y:Value} {cs:List AV} (h:x.rel w F m kk y) (hx:cellsOf x=some cs):AV.relL w F m kk cs y.cells.toList∧OneAll y.cells.toList:=by
 cases x with
 | t x =>
  cases x with
  | agg xs =>
   simp only[AV.rel,TV.rel] at h
   obtain⟨us,rfl,h1,h2⟩:=h
   simp only[cellsOf,Option.some.injEq] at hx;subst hx
   exact⟨by simpa [Value.cells] using relL_map.1 h1,by simpa [Value.cells] using h2⟩
  | tup vs=>simp[cellsOf] at hx
  | v x =>
   have h':=h
   simp only[AV.rel,TV.rel] at h
   obtain⟨rfl,hs⟩:=h
   cases y <;> simp[scal] at hs <;> exact⟨by simp only[cellsOf,Option.some.injEq] at hx;subst hx;simp only[Value.cells,AV.relL];exact⟨_,_,rfl,h',rfl⟩,by simp[OneAll,Value.cells,Value.oneCell']⟩
  | sl k es =>
   have h':=h
   simp only[AV.rel,TV.rel] at h
   obtain⟨A,c,us,rfl,_⟩:=h
   exact⟨by simp only[cellsOf,Option.some.injEq] at hx;subst hx;simp only[Value.cells,AV.relL];exact⟨_,_,rfl,h',rfl⟩,by simp[OneAll,Value.cells,Value.oneCell']⟩
  | ptr cs =>
   have h':=h
   simp only[AV.rel,TV.rel] at h
   obtain⟨a,us,rfl,_⟩:=h
   exact⟨by simp only[cellsOf,Option.some.injEq] at hx;subst hx;simp only[Value.cells,AV.relL];exact⟨_,_,rfl,h',rfl⟩,by simp[OneAll,Value.cells,Value.oneCell']⟩
  | fn f caps =>
   have h':=h
   simp only[AV.rel,TV.rel] at h
   obtain⟨us,rfl,_⟩:=h
   exact⟨by simp only[cellsOf,Option.some.injEq] at hx;subst hx;simp only[Value.cells,AV.relL];exact⟨_,_,rfl,h',rfl⟩,by simp[OneAll,Value.cells,Value.oneCell']⟩
  | mp str es =>
   have h':=h
   simp only[AV.rel,TV.rel] at h
   obtain⟨us,l',rfl,_⟩:=h
   exact⟨by simp only[cellsOf,Option.some.injEq] at hx;subst hx;simp only[Value.cells,AV.relL];exact⟨_,_,rfl,h',rfl⟩,by simp[OneAll,Value.cells,Value.oneCell']⟩
  | iface t x =>
   have h':=h
   simp only[AV.rel,TV.rel] at h
   obtain⟨us,rfl,_⟩:=h
   exact⟨by simp only[cellsOf,Option.some.injEq] at hx;subst hx;simp only[Value.cells,AV.relL];exact⟨_,_,rfl,h',rfl⟩,by simp[OneAll,Value.cells,Value.oneCell']⟩
 | ptr l off =>
  have h':=h
  simp only[AV.rel] at h
  obtain⟨g,_,rfl⟩:=h
  exact⟨by simp only[cellsOf,Option.some.injEq] at hx;subst hx;simp only[Value.cells,AV.relL];exact⟨_,_,rfl,h',rfl⟩,by simp[OneAll,Value.cells,Value.oneCell']⟩
 | rp l i j =>
  have h':=h
  simp only[AV.rel] at h
  obtain⟨g,n,c,_,rfl⟩:=h
  exact⟨by simp only[cellsOf,Option.some.injEq] at hx;subst hx;simp only[Value.cells,AV.relL];exact⟨_,_,rfl,h',rfl⟩,by simp[OneAll,Value.cells,Value.oneCell']⟩
 | sl l =>
  have h':=h
  simp only[AV.rel] at h
  obtain⟨rfl,⟨A,n,c,hm⟩ | ⟨g,hm⟩⟩:=h
  ·rw[hm] at h' ⊢
   exact⟨by simp only[cellsOf,Option.some.injEq] at hx;subst hx;simp only[Value.cells,AV.relL];exact⟨_,_,rfl,h',rfl⟩,by simp[OneAll,Value.cells,Value.oneCell']⟩
  ·rw[hm] at h' ⊢
   exact⟨by simp only[cellsOf,Option.some.injEq] at hx;subst hx;simp only[Value.cells,AV.relL];exact⟨_,_,rfl,h',rfl⟩,by simp[OneAll,Value.cells,Value.oneCell']⟩
 | sb l i n =>
  have h':=h
  simp only[AV.rel] at h
  obtain⟨A,c,rfl⟩:∃ A c,y=.slice A n c:=by
   rcases h with⟨g,N,c,_,_,hy,_⟩ | ⟨_,hy,_,hn⟩
   ·exact⟨_,_,hy⟩
   ·exact⟨none,0,by rw[hy,hn]⟩
  exact⟨by simp only[cellsOf,Option.some.injEq] at hx;subst hx;simp only[Value.cells,AV.relL];exact⟨_,_,rfl,h',rfl⟩,by simp[OneAll,Value.cells,Value.oneCell']⟩
 | agg cs =>
  simp only[AV.rel] at h
  obtain⟨us,rfl,h1,h2⟩:=h
  simp only[cellsOf,Option.some.injEq] at hx;subst hx
  exact⟨by simpa [Value.cells] using h1,by simpa [Value.cells] using h2⟩
 | tup vs=>simp[cellsOf] at hx
 | fn f caps =>
  have h':=h
  simp only[AV.rel] at h
  obtain⟨us,rfl,_⟩:=h
  exact⟨by simp only[cellsOf,Option.some.injEq] at hx;subst hx;simp only[Value.cells,AV.relL];exact⟨_,_,rfl,h',rfl⟩,by simp[OneAll,Value.cells,Value.oneCell']⟩
 | junk=>simp[cellsOf] at hx
end
end
end Go.Proofs.YtihbimigddlbaaaGreatDoor.Pl
end
noncomputable section
set_option linter.all false
namespace Go.Proofs.YtihbimigddlbaaaGreatDoor.Pl
open Go.RowKit
variable [Gm]
section
omit [Gm] in
theorem add_add (a:Addr) (i j:Nat):(a.add i).add j=a.add (i+j):=by
 unfold Addr.add
 by_cases hi:i=0
 ·subst hi;simp
 ·by_cases hj:j=0
  ·subst hj;simp[hi]
  ·simp[hi,hj,Nat.add_assoc]
omit [Gm] in
theorem CellsAt.drop {w:World} {a:Addr} {us:List Value} (h:CellsAt w a us) (n:Nat):CellsAt w (a.add n) (us.drop n):=by
 intro j u hj
 rw[add_add]
 exact h _ _ (by simpa using hj)
omit [Gm] in
theorem CellsAt.take {w:World} {a:Addr} {us:List Value} (h:CellsAt w a us) (n:Nat):CellsAt w a (us.take n):=by
 intro j u hj
 rw[List.getElem?_take] at hj
 split at hj
 ·exact h _ _ hj
 ·cases hj
omit [Gm] in
theorem cellsAt_block {w:World} {g:Nat} {us:List Value} {t:TypeId} {fz:Nat×Nat} (h:w.heap[g]?=some (.cells us.toArray t fz)):CellsAt w ⟨g,0,none⟩ us:=by
 intro j u hj
 have hadd:(⟨g,0,none⟩:Addr).add j=⟨g,j,none⟩:=by unfold Addr.add;split <;> simp_all
 rw[hadd,cell_of_row w g j _ t fz h]
 simpa using hj
section
variable {P:Program} {T:TyTab} {w:World}
omit [Gm] in
theorem load_agg (hT:TOK P T) {t:TypeId} {ti:TI} (ht:T t=some ti) (ha:ti.d.agg=true) {a:Addr} {us:List Value} (h:CellsAt w a us) (hl:ti.size≤us.length) :
  (Instr.loadAt t (.pointer (some a))).run P w=.ok (.agg (us.take ti.size).toArray) w:=by
 have hc:(loadCells a ti.size).run P w=.ok (us.take ti.size).toArray w:=by
  have:=run_loadCells_list (P:=P) (w:=w) a (us.take ti.size) (h.take _)
  simpa [Nat.min_eq_left hl] using this
 simp[Instr.loadAt,Instr.sureAddr,loadVar,hT.agg ht,ha,hT.size ht,hc]
omit [Gm] in
theorem load_one (hT:TOK P T) {t:TypeId} {ti:TI} (ht:T t=some ti) (ha:ti.d.agg=false) {a:Addr} {us:List Value} (h:CellsAt w a us) {y:Value} (hy:us[0]?=some y) :
  (Instr.loadAt t (.pointer (some a))).run P w=.ok y w:=by
 have hc:w.cell? a=some y:=by have:=h 0 y hy;simpa [Addr.add] using this
 simp[Instr.loadAt,Instr.sureAddr,loadVar,hT.agg ht,ha,hc]
variable {B0:Nat→Prop} {F0:Nat→Prop} {w0:World} {σ:List (Nat×AO)} {m:Nat→Value} {kk:Nat→Nat}
theorem loadK_sound (hT:TOK P T) (H:Heap B0 F0 w0 σ m kk w) {t:TypeId} {ti:TI} (ht:T t=some ti) {K:AV→Prop} {p:AV} {u:Value}
  (h:loadK ti σ K p) (hp:p.rel w (Fc F0 B0 σ m) m kk u):∃ v y,K v∧v.rel w (Fc F0 B0 σ m) m kk y∧(Instr.loadAt t u).run P w=.ok y w:=by
 unfold loadK at h
 split at h
 ·rename_i cs
  simp only[AV.rel,TV.rel] at hp
  obtain⟨a,us,rfl,hr,h1,hc⟩:=hp
  have hc':CellsAt w a us:=by rcases hc with rfl | hc;(· intro j u hj;simp at hj);exact hc.2
  cases ha:ti.d.agg with
  | true =>
   simp only[ha,cond_true] at h
   cases hb:Nat.ble ti.size cs.length with
   | false=>simp[hb] at h
   | true =>
    simp only[hb,cond_true] at h
    have hl:ti.size≤us.length:=by rw[TV.relL_length hr];exact Nat.le_of_ble_eq_true hb
    refine⟨_,_,h,?_,load_agg hT ht ha hc' hl⟩
    simp only[AV.rel,TV.rel]
    exact⟨_,rfl,TV.relL_take _ hr,fun u hu=>h1 u (List.mem_of_mem_take hu)⟩
  | false =>
   simp only[ha,cond_false] at h
   cases cs with
   | nil=>simp[headT] at h
   | cons x cs =>
    simp only[headT] at h
    simp only[TV.relL] at hr
    obtain⟨u,us',rfl,h0,_⟩:=hr
    exact⟨_,u,h,h0,load_one hT ht ha hc' rfl⟩
 ·rename_i l off
  simp only[AV.rel] at hp
  obtain⟨g,hm,rfl⟩:=hp
  split at h
  ·rename_i cs hl
   obtain⟨g',us,t',hm',hB,hg,hr,h1⟩:=H.ob l _ hl
   rw[hm] at hm';simp at hm';subst hm'
   have hc':=(cellsAt_block hg).drop off
   cases ha:ti.d.agg with
   | true =>
    simp only[ha,cond_true] at h
    cases hb:Nat.ble (off+ti.size) cs.length with
    | false=>simp[hb] at h
    | true =>
     simp only[hb,cond_true] at h
     have hl:ti.size≤(us.drop off).length:=by
      have:=Nat.le_of_ble_eq_true hb
      rw[List.length_drop,AV.relL_length hr];omega
     exact⟨_,_,h,rel_mkAgg (AV.relL_take _ (AV.relL_drop _ hr)) (fun u hu=>h1 u (List.mem_of_mem_drop (List.mem_of_mem_take hu))),load_agg hT ht ha hc' hl⟩
   | false =>
    simp only[ha,cond_false] at h
    split at h
    ·rename_i x hx
     obtain⟨y,hy,hxy⟩:=AV.relL_nth hr hx
     exact⟨_,y,h,hxy,load_one hT ht ha hc' (by simpa using hy)⟩
    ·exact h.elim
  ·exact h.elim
 ·rename_i l i j
  simp only[AV.rel] at hp
  obtain⟨g,n,c,hm,rfl⟩:=hp
  split at h
  ·rename_i e k es hl
   obtain⟨c',hc',h⟩:=h
   obtain⟨us,ho,hr,h1,hk,hkk⟩:=H.ob l _ hl
   obtain⟨hck,hrel⟩:=TV.relR_get hr hc'
   have hcell:CellsAt w ⟨g,0,none⟩ us:=ho.1.cells (g:=g) (by rw[hm];rfl)
   have hat:CellsAt w ((⟨g,0,none⟩:Addr).add (i*kk l+j)) (((us.drop (i*k)).take k).drop j):=by
    rw[hkk,←add_add]
    exact ((hcell.drop _).take _).drop _
   have h1':OneAll (((us.drop (i*k)).take k).drop j):=fun u hu=>h1 u (List.mem_of_mem_drop (List.mem_of_mem_take (List.mem_of_mem_drop hu)))
   cases ha:ti.d.agg with
   | true =>
    simp only[ha,cond_true] at h
    cases hb:Nat.ble (j+ti.size) k with
    | false=>simp[hb] at h
    | true =>
     simp only[hb,cond_true] at h
     have hlen:=TV.relL_length (TV.relL_drop j hrel)
     have hl:ti.size≤(((us.drop (i*k)).take k).drop j).length:=by
      have:=Nat.le_of_ble_eq_true hb
      rw[hlen,List.length_drop,hck];omega
     refine⟨_,_,h,?_,load_agg hT ht ha hat hl⟩
     simp only[AV.rel,TV.rel]
     exact⟨_,rfl,TV.relL_take _ (TV.relL_drop _ hrel),fun u hu=>h1' u (List.mem_of_mem_take hu)⟩
   | false =>
    simp only[ha,cond_false] at h
    split at h
    ·rename_i x hx
     obtain⟨y,hy,hxy⟩:=TV.relL_nth hrel hx
     exact⟨_,y,h,hxy,load_one hT ht ha hat (by simpa using hy)⟩
    ·exact h.elim
  ·exact h.elim
 ·exact h.elim
end
end
section
omit [Gm] in
theorem nth_get {α:Type}:∀ {xs:List α} {n:Nat} {x:α},nth xs n=some x→xs[n]?=some x
 | [],_,_,h=>by simp[nth] at h
 | y::_,0,x,h=>by simpa [nth] using h
 | _::r,n+1,x,h=>by simpa [nth] using nth_get (xs:=r) h
section
variable {P:Program} {T:TyTab} {w:World} {F:Nat→Prop} {m:Nat→Value} {kk:Nat→Nat}
omit [Gm] in
theorem field_at {fs:List (Nat×TypeId)} {d:TypeDesc} (h:(Ty.struct fs).fits d) {f:Nat} {off ft:Nat} (hf:nth fs f=some (off,ft)) :
  ∃ a fd,d=.struct a∧a[f]?=some fd∧fd.offset=off∧fd.type=ft:=by
 obtain⟨a,rfl,rfl⟩:=h
 have:=nth_get hf
 simp at this
 obtain⟨fd,h1,h2,h3⟩:=this
 exact⟨a,fd,rfl,h1,h2,h3⟩
omit [Gm] in
theorem fieldAddrK_sound (hT:TOK P T) {s:TypeId} {f:Nat} {K:AV→Prop} {p:AV} {u:Value} (h:fieldAddrK T s f K p) (hp:p.rel w F m kk u) :
  ∃ v y,K v∧v.rel w F m kk y∧(Instr.fieldAt s u f).run P w=.ok y w:=by
 unfold fieldAddrK at h
 split at h
 ·rename_i fs sz by' z q hs
  split at h
  ·rename_i off ft hf
   split at h
   ·rename_i fi hfi
    obtain⟨d,hd,hu⟩:=hT.under (w:=w) hs
    obtain⟨a,fd,rfl,hfd,h1,h2⟩:=field_at hd hf
    cases hz:Nat.beq fi.size 0 with
    | true=>simp[hz] at h
    | false =>
     have hz':fi.size≠0:=by intro e;rw[e] at hz;simp at hz
     have run:∀ ad,(Instr.fieldAt s (.pointer (some ad)) f).run P w=.ok (.pointer (some (ad.add off))) w:=by
      intro ad
      have:=hT.size (w:=w) hfi
      simp[Instr.fieldAt,hu,hfd,Instr.sureAddr,fieldPlace,h2,this,hz',h1]
     simp only[hz,cond_false] at h
     split at h
     ·rename_i cs
      simp only[AV.rel,TV.rel] at hp
      obtain⟨ad,us,rfl,hr,ho,hc⟩:=hp
      refine⟨_,_,h,?_,run ad⟩
      simp only[AV.rel,TV.rel]
      refine⟨_,us.drop off,rfl,TV.relL_drop _ hr,fun u hu=>ho u (List.mem_of_mem_drop hu),?_⟩
      rcases hc with rfl | ⟨hF,hc⟩
      ·exact .inl (by simp)
      ·exact .inr ⟨by rw[add_block];exact hF,hc.drop _⟩
     ·simp only[AV.rel] at hp
      obtain⟨g,hm,rfl⟩:=hp
      refine⟨_,_,h,?_,run _⟩
      simp only[AV.rel]
      exact⟨g,hm,by rw[add_add]⟩
     ·simp only[AV.rel] at hp
      obtain⟨g,n,c,hm,rfl⟩:=hp
      refine⟨_,_,h,?_,run _⟩
      simp only[AV.rel]
      exact⟨g,n,c,hm,by rw[add_add,Nat.add_assoc]⟩
     ·exact h.elim
   ·exact h.elim
  ·exact h.elim
 ·exact h.elim
omit [Gm] in
theorem part_agg (hT:TOK P T) {t:TypeId} {ti:TI} (ht:T t=some ti) (ha:ti.d.agg=true) (us:List Value) (off:Nat) :
  (part t us.toArray off).run P w=.ok (.agg ((us.drop off).take ti.size).toArray) w:=by
 simp[part,hT.agg ht,ha,hT.size ht,List.extract_eq_take_drop]
omit [Gm] in
theorem part_one (hT:TOK P T) {t:TypeId} {ti:TI} (ht:T t=some ti) (ha:ti.d.agg=false) {us:List Value} {off:Nat} {y:Value} (hy:us[off]?=some y) :
  (part t us.toArray off).run P w=.ok y w:=by
 simp[part,hT.agg ht,ha,hy]
omit [Gm] in
theorem rel_aggCells {x:AV} {y:Value} {cs:List AV} (h:x.rel w F m kk y) (hx:aggCells x=some cs):∃ us,y=.agg us∧AV.relL w F m kk cs us.toList∧OneAll us.toList:=by
 unfold aggCells at hx
 split at hx
 ·injection hx with hx;subst hx
  simp only[AV.rel,TV.rel] at h
  obtain⟨us,rfl,h1,h2⟩:=h
  exact⟨_,rfl,by simpa using relL_map.1 h1,by simpa using h2⟩
 ·injection hx with hx;subst hx
  simp only[AV.rel] at h
  obtain⟨us,rfl,h1,h2⟩:=h
  exact⟨_,rfl,by simpa using h1,by simpa using h2⟩
 ·cases hx
omit [Gm] in
theorem fieldK_sound (hT:TOK P T) {s:TypeId} {f:Nat} {K:AV→Prop} {x:AV} {u:Value} (h:fieldK T s f K x) (hp:x.rel w F m kk u) :
  ∃ v y,K v∧v.rel w F m kk y∧(Instr.field s u f).run P w=.ok y w:=by
 unfold fieldK at h
 split at h
 ·rename_i fs sz by' z q hs
  split at h
  ·rename_i off ft hf
   split at h
   ·rename_i fi hfi
    obtain⟨d,hd,hun⟩:=hT.under (w:=w) hs
    obtain⟨a,fd,rfl,hfd,h1,h2⟩:=field_at hd hf
    split at h
    ·rename_i cs hcs
     obtain⟨us,rfl,hr,ho⟩:=rel_aggCells hp hcs
     have run:(Instr.field s (.agg us) f).run P w=(part ft us off).run P w:=by
      simp[Instr.field,hun,hfd,asAgg,h1,h2]
     have hus:us=us.toList.toArray:=by simp
     rw[run]
     generalize us.toList=ul at *
     subst hus
     cases ha:fi.d.agg with
     | true =>
      simp only[ha,cond_true] at h
      cases hb:Nat.ble (off+fi.size) cs.length with
      | false=>simp[hb] at h
      | true =>
       simp only[hb,cond_true] at h
       exact⟨_,_,h,rel_mkAgg (AV.relL_take _ (AV.relL_drop _ hr)) (fun u hu=>ho u (List.mem_of_mem_drop (List.mem_of_mem_take hu))),part_agg hT hfi ha _ _⟩
     | false =>
      simp only[ha,cond_false] at h
      split at h
      ·rename_i y hy
       obtain⟨v,hv,hr'⟩:=AV.relL_nth hr hy
       exact⟨_,_,h,hr',part_one hT hfi ha hv⟩
      ·exact h.elim
    ·exact h.elim
   ·exact h.elim
  ·exact h.elim
 ·exact h.elim
variable {B0:Nat→Prop} {F0:Nat→Prop} {w0:World} {σ:List (Nat×AO)}
theorem indexAddrK_sound (hT:TOK P T) (H:Heap B0 F0 w0 σ m kk w) {W:Prop→Prop} (hW:∀ p,W p→p) {t:TypeId} {K:AV→Prop} {x j:AV} {u i:Value}
  (h:indexAddrK T σ W t K x j) (hp:x.rel w (Fc F0 B0 σ m) m kk u) (hj:j.rel w (Fc F0 B0 σ m) m kk i) :
  ∃ v y,K v∧v.rel w (Fc F0 B0 σ m) m kk y∧(Instr.indexAt t u i).run P w=.ok y w:=by
 unfold indexAddrK at h
 split at h
 ·rename_i ik n
  simp only[AV.rel,TV.rel] at hj
  obtain⟨rfl,_⟩:=hj
  split at h
  ·rename_i e sz by' z q k es ht
   split at h
   ·rename_i ei hei
    obtain⟨d,hd,hun⟩:=hT.under (w:=w) ht
    simp only[Ty.fits] at hd;subst hd
    cases hb:Nat.beq ei.size k with
    | false=>simp[hb] at h
    | true =>
     simp only[hb,cond_true] at h
     have hk:=Nat.eq_of_beq_eq_true hb
     obtain⟨c,hw,h⟩:=h
     obtain⟨h0,hc⟩:=hW _ hw
     simp only[AV.rel,TV.rel] at hp
     obtain⟨A,cap,us,rfl,hle,hml,hk0,hr,ho,hm⟩:=hp
     obtain⟨hck,hrel⟩:=TV.relR_get hr hc
     have hlt:n.toNat<es.length:=(List.getElem?_eq_some_iff.1 hc).1
     have hus:us≠[]:=by
      have h1:=TV.relR_length hr
      have h2:0<es.length*k:=Nat.mul_pos (by omega) hk0
      intro e;rw[e,List.length_nil] at h1;omega
     obtain⟨a,rfl,hF,hcell⟩:=hm.resolve_left hus
     have hlt':n<(es.length:Int):=by omega
     refine⟨_,.pointer (some (a.add (n.toNat*k))),h,?_,?_⟩
     ·simp only[AV.rel,TV.rel]
      exact⟨_,_,rfl,hrel,fun u hu=>ho u (List.mem_of_mem_drop (List.mem_of_mem_take hu)),.inr ⟨by rw[add_block];exact hF,(hcell.drop _).take _⟩⟩
     ·simp[Instr.indexAt,asIntOf,hun,h0,hlt',hT.size hei,hk]
   ·exact h.elim
  ·rename_i e sz by' z q l ht
   split at h
   ·rename_i e' k es ei hl hei
    obtain⟨d,hd,hun⟩:=hT.under (w:=w) ht
    simp only[Ty.fits] at hd;subst hd
    cases hb:Nat.beq ei.size k with
    | false=>simp[hb] at h
    | true =>
     simp only[hb,cond_true] at h
     have hk:=Nat.eq_of_beq_eq_true hb
     obtain⟨hw,h⟩:=h
     obtain⟨h0,hlt⟩:=hW _ hw
     simp only[AV.rel] at hp
     obtain⟨rfl,_⟩:=hp
     obtain⟨us,hown,hr,ho,hk0,hkk⟩:=H.ob l _ hl
     rcases hown.1.2 with⟨hnil,hn0⟩ | ⟨g,cap,cur,hm,_⟩
     ·omega
     ·refine⟨_,.pointer (some ((⟨g,0,none⟩:Addr).add (n.toNat*k))),h,?_,?_⟩
      ·simp only[AV.rel]
       exact⟨g,_,_,hm,by rw[hkk,Nat.add_zero]⟩
      ·rw[hm]
       simp[Instr.indexAt,asIntOf,hun,h0,hlt,hT.size hei,hk]
   ·exact h.elim
  ·rename_i e sz by' z q l off cnt ht
   split at h
   ·rename_i e' k es ei hl hei
    obtain⟨d,hd,hun⟩:=hT.under (w:=w) ht
    simp only[Ty.fits] at hd;subst hd
    cases hb:Nat.beq ei.size k with
    | false=>simp[hb] at h
    | true =>
     simp only[hb,cond_true] at h
     have hk:=Nat.eq_of_beq_eq_true hb
     obtain⟨hw,h⟩:=h
     obtain⟨h0,hlt⟩:=hW _ hw
     obtain⟨us,hown,hr,ho,hk0,hkk⟩:=H.ob l _ hl
     simp only[AV.rel] at hp
     rcases hp with⟨g,N,c,A,hm,rfl,_,hA,_,hle⟩ | ⟨_,_,_,rfl⟩
     ·have hAe:=hA (by omega)
      subst hAe
      refine⟨_,.pointer (some (((⟨g,0,none⟩:Addr).add (off*kk l)).add (n.toNat*k))),h,?_,?_⟩
      ·simp only[AV.rel]
       exact⟨g,_,_,hm,by rw[add_add,hkk,Nat.add_zero,Nat.add_mul]⟩
      ·simp[Instr.indexAt,asIntOf,hun,h0,hlt,hT.size hei,hk]
     ·omega
   ·exact h.elim
  ·rename_i nn e sz by' z q l off ht
   split at h
   ·rename_i ei hei
    obtain⟨d,hd,hun⟩:=hT.under (w:=w) ht
    simp only[Ty.fits] at hd;subst hd
    cases hb:Nat.ble 2 nn with
    | false=>simp[hb] at h
    | true =>
     simp only[hb,cond_true] at h
     obtain⟨hw,h⟩:=h
     obtain⟨h0,hlt⟩:=hW _ hw
     simp only[AV.rel] at hp
     obtain⟨g,hm,rfl⟩:=hp
     refine⟨_,.pointer (some (((⟨g,0,none⟩:Addr).add off).add (n.toNat*ei.size))),h,?_,?_⟩
     ·simp only[AV.rel]
      exact⟨g,hm,by rw[add_add]⟩
     ·simp[Instr.indexAt,asIntOf,hun,h0,hlt,hT.size hei,Instr.sureAddr]
   ·exact h.elim
  ·rename_i nn e sz by' z q cs ht
   split at h
   ·rename_i ei hei
    obtain⟨d,hd,hun⟩:=hT.under (w:=w) ht
    simp only[Ty.fits] at hd;subst hd
    cases hb:Nat.ble 2 nn with
    | false=>simp[hb] at h
    | true =>
     simp only[hb,cond_true] at h
     obtain⟨hw,h⟩:=h
     obtain⟨h0,hlt⟩:=hW _ hw
     simp only[AV.rel,TV.rel] at hp
     obtain⟨ad,us,rfl,hr,ho,hc⟩:=hp
     refine⟨_,.pointer (some (ad.add (n.toNat*ei.size))),h,?_,?_⟩
     rotate_left
     ·simp[Instr.indexAt,asIntOf,hun,h0,hlt,hT.size hei,Instr.sureAddr]
     ·simp only[AV.rel,TV.rel]
      refine⟨_,us.drop (n.toNat*ei.size),rfl,TV.relL_drop _ hr,fun u hu=>ho u (List.mem_of_mem_drop hu),?_⟩
      rcases hc with rfl | ⟨hF,hc⟩
      ·exact .inl (by simp)
      ·exact .inr ⟨by rw[add_block];exact hF,hc.drop _⟩
   ·exact h.elim
  ·exact h.elim
 ·exact h.elim
omit [Gm] in
theorem indexK_sound (hT:TOK P T) {W:Prop→Prop} (hW:∀ p,W p→p) {t:TypeId} {K:AV→Prop} {x j:AV} {u i:Value}
  (h:indexK T W t K x j) (hp:x.rel w F m kk u) (hj:j.rel w F m kk i) :
  ∃ v y,K v∧v.rel w F m kk y∧(Instr.index t u i).run P w=.ok y w:=by
 unfold indexK at h
 split at h
 ·rename_i ik n
  simp only[AV.rel,TV.rel] at hj
  obtain⟨rfl,_⟩:=hj
  split at h
  ·rename_i sz by' z q s ht
   obtain⟨d,hd,hun⟩:=hT.under (w:=w) ht
   simp only[Ty.fits] at hd;subst hd
   obtain⟨hw,h⟩:=h
   obtain⟨h0,hlt⟩:=hW _ hw
   simp only[AV.rel,TV.rel] at hp
   obtain⟨rfl,_⟩:=hp
   refine⟨_,.int .u8 (byteAt s n),h,by simp[AV.rel,TV.rel,scal],?_⟩
   have hs:n.toNat<s.size:=by omega
   have hs':n.toNat<s.data.toList.length:=by simpa using hs
   have:s[n.toNat]?=some (s.data.toList.getD n.toNat 0):=by
    rw[getElem?_pos s n.toNat hs]
    simp only[List.getD_eq_getElem?_getD,List.getElem?_eq_getElem hs',Option.getD_some]
    rfl
   simp[Instr.index,asIntOf,hun,h0,this,byteAt]
  ·exact h.elim
 ·exact h.elim
end
end
section
omit [Gm] in
theorem owns_slice {w:World} {base:Nat} {e:TypeId} {size n:Nat} {v:Value} {xs:List Value} (h:w.ownsRow base e size v n xs):∃ A n' c,v=.slice A n' c:=by
 rcases h.2 with⟨rfl,rfl⟩ | ⟨g,cap,cur,rfl,_⟩
 ·exact⟨none,0,0,rfl⟩
 ·exact⟨_,_,_,rfl⟩
section
variable {P:Program} {T:TyTab} {w:World} {F:Nat→Prop} {m:Nat→Value} {kk:Nat→Nat}
omit [Gm] in
theorem rel_vb {b:Bool}:(vb b).rel w F m kk (.bool b):=by simp[vb,AV.rel,TV.rel,scal]
omit [Gm] in
theorem rel_vi {n:Int}:(vi n).rel w F m kk (.int .i64 n):=by simp[vi,AV.rel,TV.rel,scal]
omit [Gm] in
theorem rel_v {x:Value} (h:scal x=true):(AV.t (.v x)).rel w F m kk x:=by simp[AV.rel,TV.rel,h]
omit [Gm] in
theorem sameKind_eq {k k':IntKind} (h:sameKind k k'=true):k=k':=by cases k <;> cases k' <;> simp_all [sameKind]
omit [Gm] in
theorem eqGuard_ii (op:BinOp) (t:TypeId) (x y:Operand) (k k':IntKind) (a b:Int):(eqGuard op t x y (.int k a) (.int k' b)).run P w=.ok () w:=by cases op <;> rfl
omit [Gm] in
theorem eqGuard_bb (op:BinOp) (t:TypeId) (x y:Operand) (a b:Bool):(eqGuard op t x y (.bool a) (.bool b)).run P w=.ok () w:=by cases op <;> rfl
omit [Gm] in
theorem eqGuard_ss (op:BinOp) (t:TypeId) (x y:Operand) (a b:ByteArray):(eqGuard op t x y (.string a) (.string b)).run P w=.ok () w:=by cases op <;> rfl
omit [Gm] in
theorem eqGuard_ll (op:BinOp) (t:TypeId) (x y:Operand) (A B:Option Addr) (n c n' c':Nat):(eqGuard op t x y (.slice A n c) (.slice B n' c')).run P w=.ok () w:=by cases op <;> rfl
omit [Gm] in
theorem equal_bool {t:TypeId} {op:BinOp} {pos:Bool} (hp:isEq op=some pos) (h:(underlying t).run P w=.ok .bool w) (a b:Bool) :
  (binOp op t (.bool a) (.bool b)).run P w=.ok (.bool (flip pos (a==b))) w:=by
 have e:∀ d,(Op.equalIn (d+1) t (.bool a) (.bool b)).run P w=.ok (a==b) w:=fun d=>by simp only[Op.equalIn,Sem.run_bind,h,Result.andThen_ok,Sem.run_pure]
 have e':(Op.equal t (.bool a) (.bool b)).run P w=.ok (a==b) w:=e 9999
 cases op <;> simp only[isEq,Option.some.injEq] at hp <;> first | (cases hp;done) | (subst hp;simp only[binOp,Sem.run_bind,e',Result.andThen_ok,Sem.run_pure,flip,cond_true,cond_false])
omit [Gm] in
theorem equal_slice {t e:TypeId} {op:BinOp} {pos:Bool} (hp:isEq op=some pos) (h:(underlying t).run P w=.ok (.slice e) w) (A:Option Addr) (n c:Nat) :
  (binOp op t (.slice A n c) (.slice none 0 0)).run P w=.ok (.bool (flip pos A.isNone)) w:=by
 have e:∀ d,(Op.equalIn (d+1) t (.slice A n c) (.slice none 0 0)).run P w=.ok A.isNone w:=by
  intro d
  cases A <;> simp only[Op.equalIn,Sem.run_bind,h,Result.andThen_ok,Sem.run_pure,Option.isNone]
 have e':(Op.equal t (.slice A n c) (.slice none 0 0)).run P w=.ok A.isNone w:=e 9999
 cases op <;> simp only[isEq,Option.some.injEq] at hp <;> first | (cases hp;done) | (subst hp;simp only[binOp,Sem.run_bind,e',Result.andThen_ok,Sem.run_pure,flip,cond_true,cond_false])
omit [Gm] in
theorem cmpI_run {op:BinOp} {a b:Int} {r:Bool} (h:cmpI op a b=some r):(Op.intCmp op a b).run P w=.ok (.bool r) w∧(op≠.shl∧op≠.shr∧op≠.add∧op≠.sub∧op≠.mul∧op≠.quo∧op≠.rem∧op≠.and∧op≠.or∧op≠.xor∧op≠.andNot):=by
 cases op <;> simp[cmpI] at h <;> subst h <;> simp[Op.intCmp]
omit [Gm] in
theorem cmpS_run {op:BinOp} {a b:ByteArray} {r:Bool} (h:cmpS op a b=some r):(Op.stringOp op a b).run P w=.ok (.bool r) w:=by
 cases op <;> simp only[cmpS,Option.some.injEq] at h <;> first | (cases h;done) | (subst h;simp[Op.stringOp])
theorem binK_sound (C:Ctx P T) {B0:Nat→Prop} {F0:Nat→Prop} {w0:World} {σ:List (Nat×AO)} (H:Heap B0 F0 w0 σ m kk w) {W:Prop→Prop} (hW:∀ p,W p→p) {op:BinOp} {t:TypeId} {K:AV→Prop} {x y:AV} {u v:Value} (ox oy:Operand)
  (h:binK T σ W op t K x y) (hx:x.rel w (Fc F0 B0 σ m) m kk u) (hy:y.rel w (Fc F0 B0 σ m) m kk v) :
  ∃ r z,K r∧r.rel w (Fc F0 B0 σ m) m kk z∧(do eqGuard op t ox oy u v;binOp op t u v:Sem Value).run P w=.ok z w:=by
 unfold binK at h
 split at h
 ·rename_i k a k' b
  simp only[AV.rel,TV.rel] at hx hy
  obtain⟨rfl,_⟩:=hx
  obtain⟨rfl,_⟩:=hy
  have hg:=eqGuard_ii (P:=P) (w:=w) op t ox oy k k' a b
  cases hs:isShift op with
  | true =>
   simp only[hs,cond_true] at h
   obtain⟨hb,h⟩:=h
   have hb:=hW _ hb
   cases op <;> simp[isShift] at hs <;> simp only at h
   ·exact⟨_,_,h,rel_v rfl,by simp[hg,binOp,Op.shift,Int.not_lt.2 hb]⟩
   ·exact⟨_,_,h,rel_v rfl,by simp[hg,binOp,Op.shift,Int.not_lt.2 hb]⟩
  | false =>
   simp only[hs,cond_false] at h
   cases hk:sameKind k k' with
   | false=>simp[hk] at h
   | true =>
    simp only[hk,cond_true] at h
    have:=sameKind_eq hk;subst this
    split at h
    ·rename_i r hr
     refine⟨_,.bool r,h,rel_vb,?_⟩
     have:=cmpI_run (P:=P) (w:=w) hr
     simp only[Sem.run_bind,hg,Result.andThen_ok]
     have h2:=this.1
     cases op <;> simp[cmpI] at hr <;> simpa [binOp] using h2
    ·split at h
     ·rename_i q side hq
      obtain⟨hw,h⟩:=h
      have hw:=hW _ hw
      refine⟨_,.int k q,h,rel_v rfl,?_⟩
      simp only[Sem.run_bind,hg,Result.andThen_ok]
      cases op <;> simp only[arI,Option.some.injEq,Prod.mk.injEq] at hq <;> first | (cases hq;done) | (obtain⟨rfl,rfl⟩:=hq;simp[binOp,Op.intArith,Op.intDiv,Op.intBits,hw];done) | (obtain⟨rfl,rfl⟩:=hq;simp[binOp,Op.intArith,Op.intDiv,Op.intBits])
     ·exact h.elim
 ·rename_i a b
  simp only[AV.rel,TV.rel] at hx hy
  obtain⟨rfl,_⟩:=hx
  obtain⟨rfl,_⟩:=hy
  have hg:=eqGuard_ss (P:=P) (w:=w) op t ox oy a b
  split at h
  ·rename_i r hr
   refine⟨_,.bool r,h,rel_vb,?_⟩
   have:=cmpS_run (P:=P) (w:=w) hr
   simp only[Sem.run_bind,hg,Result.andThen_ok]
   cases op <;> simp[cmpS] at hr <;> simpa [binOp] using this
  ·split at h
   ·obtain⟨hw,h⟩:=h
    have hw:=hW _ hw
    refine⟨_,_,h,rel_v rfl,?_⟩
    have:¬ ((a.size+b.size:Nat):Int)>IntKind.i64.max:=by
     have:IntKind.i64.max=9223372036854775807:=rfl
     rw[this];omega
    simp only[Sem.run_bind,hg,Result.andThen_ok]
    simp only[binOp,Op.stringOp,this,if_false,Sem.run_pure]
   ·exact h.elim
 ·rename_i a b
  simp only[AV.rel,TV.rel] at hx hy
  obtain⟨rfl,_⟩:=hx
  obtain⟨rfl,_⟩:=hy
  have hg:=eqGuard_bb (P:=P) (w:=w) op t ox oy a b
  split at h
  ·rename_i sz by' z q pos hT' hp
   obtain⟨d,hd,hun⟩:=C.tok.under (w:=w) hT'
   simp only[Ty.fits] at hd;subst hd
   refine⟨_,_,h,rel_vb,?_⟩
   simp only[Sem.run_bind,hg,Result.andThen_ok,equal_bool hp hun]
  ·exact h.elim
 ·rename_i xs ys
  simp only[AV.rel,TV.rel] at hx hy
  obtain⟨us,rfl,hus,_⟩:=hx
  obtain⟨vs,rfl,hvs,_⟩:=hy
  split at h
  ·rename_i d sz by' z l ls pos hT' hp
   split at h
   ·rename_i r hr
    obtain⟨h1,h2⟩:=C.eqk _ _ _ _ hT' rfl
    have h2:=h2 w _ xs ys us vs r hus hvs hr
    refine⟨_,_,h,rel_vb,?_⟩
    simp only[Sem.run_bind,run_eqGuard_agg w op t ox oy _ _ h1,Result.andThen_ok]
    cases op <;> simp[isEq] at hp <;> subst hp <;> simp only[run_eql_struct,run_neq_struct,h2,Result.andThen_ok,flip,cond_true,cond_false]
   ·exact h.elim
  ·exact h.elim
 ·rename_i k es
  simp only[AV.rel,TV.rel] at hx hy
  obtain⟨A,c,us,rfl,_,_,hk0,hr,_,hm⟩:=hx
  obtain⟨rfl,_⟩:=hy
  split at h
  ·rename_i e sz by' z q pos hT' hp
   obtain⟨d,hd,hun⟩:=C.tok.under (w:=w) hT'
   simp only[Ty.fits] at hd;subst hd
   have hg:=eqGuard_ll (P:=P) (w:=w) op t ox oy A none es.length c 0 0
   refine⟨_,_,h A.isNone ?_,rel_vb,?_⟩
   ·intro hA
    rcases hm with hm | ⟨a,rfl,_⟩
    ·have hl:=TV.relR_length hr
     rw[hm,List.length_nil] at hl
     cases es with
     | nil=>rfl
     | cons e es=>have:0<(es.length+1)*k:=Nat.mul_pos (by omega) hk0;simp at hl;omega
    ·simp at hA
   ·simp only[Sem.run_bind,hg,Result.andThen_ok,equal_slice hp hun]
  ·exact h.elim
 ·simp only[AV.rel,TV.rel] at hx hy
  obtain⟨rfl,_⟩:=hx
  obtain⟨rfl,_⟩:=hy
  split at h
  ·rename_i e sz by' z q pos hT' hp
   obtain⟨d,hd,hun⟩:=C.tok.under (w:=w) hT'
   simp only[Ty.fits] at hd;subst hd
   have hg:=eqGuard_ll (P:=P) (w:=w) op t ox oy none none 0 0 0 0
   refine⟨_,_,h,rel_vb,?_⟩
   simp only[Sem.run_bind,hg,Result.andThen_ok,equal_slice hp hun,Option.isNone]
  ·exact h.elim
 ·rename_i l
  simp only[AV.rel,TV.rel] at hx hy
  obtain⟨rfl,_⟩:=hx
  obtain⟨rfl,_⟩:=hy
  split at h
  ·rename_i e sz by' z q pos e' k es hT' hp hl
   obtain⟨d,hd,hun⟩:=C.tok.under (w:=w) hT'
   simp only[Ty.fits] at hd;subst hd
   obtain⟨us,ho,hr,_,hk0,_⟩:=H.ob l _ hl
   obtain⟨A,n,c,hm⟩:=owns_slice ho.1
   have hg:=eqGuard_ll (P:=P) (w:=w) op t ox oy A none n c 0 0
   rw[hm] at ho ⊢
   refine⟨_,_,h A.isNone ?_,rel_vb,?_⟩
   ·intro hA
    rcases ho.1.2 with⟨hnil,hn⟩ | ⟨g,cap,cur,hv,_⟩
    ·exact List.eq_nil_of_length_eq_zero hn
    ·injection hv with h1;rw[h1] at hA;simp at hA
   ·simp only[Sem.run_bind,hg,Result.andThen_ok,equal_slice hp hun]
  ·exact h.elim
 ·exact h.elim
end
end
section
section
variable {P:Program} {T:TyTab} {w:World} {F:Nat→Prop} {m:Nat→Value} {kk:Nat→Nat}
omit [Gm] in
theorem unK_sound {op:UnOp} {K:AV→Prop} {x:AV} {u:Value} (h:unK op K x) (hx:x.rel w F m kk u):∃ r z,K r∧r.rel w F m kk z∧(Op.unary op u).run P w=.ok z w:=by
 unfold unK at h
 split at h
 ·simp only[AV.rel,TV.rel] at hx
  obtain⟨rfl,_⟩:=hx
  exact⟨_,_,h,rel_vb,by simp[Op.unary]⟩
 ·simp only[AV.rel,TV.rel] at hx
  obtain⟨rfl,_⟩:=hx
  exact⟨_,_,h,rel_v rfl,by simp[Op.unary,Op.intArith]⟩
 ·exact h.elim
omit [Gm] in
theorem extractK_sound {i:Nat} {K:AV→Prop} {x:AV} {u:Value} (h:extractK i K x) (hx:x.rel w F m kk u):∃ r z,K r∧r.rel w F m kk z∧(Instr.extract u i).run P w=.ok z w:=by
 unfold extractK at h
 split at h
 ·simp only[AV.rel,TV.rel] at hx
  obtain⟨us,rfl,hr⟩:=hx
  split at h
  ·rename_i y hy
   obtain⟨z,hz,hzr⟩:=TV.relL_nth hr hy
   exact⟨_,z,h,hzr,by simp[Instr.extract,hz]⟩
  ·exact h.elim
 ·simp only[AV.rel] at hx
  obtain⟨us,rfl,hr⟩:=hx
  split at h
  ·rename_i y hy
   obtain⟨z,hz,hzr⟩:=AV.relL_nth hr hy
   exact⟨_,z,h,hzr,by simp[Instr.extract,hz]⟩
  ·exact h.elim
 ·exact h.elim
omit [Gm] in
theorem foldl_put (off:Nat):∀ (l:List Value) (j0:Nat) (cells:Array Value),off+j0+l.length≤cells.size →
  ((l.zipIdx j0).foldl (fun (cs:Array Value) (p:Value×Nat)=>cs.setIfInBounds (off+p.2) p.1) cells).toList=cells.toList.take (off+j0)++l++cells.toList.drop (off+j0+l.length)
 | [],j0,cells,h=>by simp
 | c::l,j0,cells,h=>by
  simp only[List.zipIdx_cons,List.foldl_cons,List.length_cons] at h ⊢
  rw[foldl_put off l (j0+1) _ (by simp;omega)]
  have hlt:off+j0<cells.toList.length:=by simp;omega
  simp only[Array.toList_setIfInBounds]
  rw[List.take_set,List.drop_set_of_lt (by omega)]
  have e1:off+(j0+1)=off+j0+1:=by omega
  have e2:off+j0+1+l.length=off+j0+(l.length+1):=by omega
  rw[e1,e2,List.take_succ_eq_append_getElem hlt,List.set_append_right _ _ (by simp;omega)]
  simp only[List.length_take]
  rw[Nat.min_eq_left (by omega),Nat.sub_self]
  simp
omit [Gm] in
theorem fillK_sound {fs:List (Nat×TypeId)} {lk:Operand→Option AV} {ρ:Operand→Value} (hT:TOK P T) (hl:∀ x v,lk x=some v→v.rel w F m kk (ρ x)) (places:List (Nat×Nat))
  (hp:∀ (i off ft:Nat) (fi:TI),fs[i]?=some (off,ft)→T ft=some fi→places[i]?=some (off,fi.size)) :
  ∀ (parts:List (Nat×Operand)) (cs cs':List AV) (cells:Array Value),fillK fs T lk parts cs=some cs'→AV.relL w F m kk cs cells.toList→OneAll cells.toList →
   ∃ cells',Instr.fill (fun i=>places[i]?) cells (parts.map fun p=>(p.1,ρ p.2))=some cells'∧AV.relL w F m kk cs' cells'.toList∧OneAll cells'.toList
 | [],cs,cs',cells,h,hr,ho=>by
  simp only[fillK,Option.some.injEq] at h;subst h
  exact⟨cells,rfl,hr,ho⟩
 | (i,x)::r,cs,cs',cells,h,hr,ho=>by
  simp only[fillK] at h
  split at h
  ·rename_i off ft v hf hv
   split at h
   ·rename_i fi new hfi hnew
    cases hb:Nat.beq new.length fi.size&&Nat.ble (off+fi.size) cs.length with
    | false=>simp[hb] at h
    | true =>
     simp only[hb,cond_true] at h
     simp only[Bool.and_eq_true] at hb
     have h1:=Nat.eq_of_beq_eq_true hb.1
     have h2:=Nat.le_of_ble_eq_true hb.2
     obtain⟨hvr,hvo⟩:=rel_cellsOf (hl x v hv) hnew
     have hvl:=AV.relL_length hvr
     have hcl:=AV.relL_length hr
     have hpl:=hp i off ft fi (nth_get hf) hfi
     simp only[Array.length_toList] at hvl hcl
     have hput:=foldl_put off (ρ x).cells.toList 0 cells (by simp;omega)
     have hfold:((ρ x).cells.zipIdx.foldl (fun (cs:Array Value) (p:Value×Nat)=>cs.setIfInBounds (off+p.2) p.1) cells).toList=cells.toList.take off++(ρ x).cells.toList++cells.toList.drop (off+(ρ x).cells.toList.length):=by
      rw[←Array.foldl_toList,Array.toList_zipIdx];simpa using hput
     have hrel':AV.relL w F m kk (putAt off new cs) ((ρ x).cells.zipIdx.foldl (fun (cs:Array Value) (p:Value×Nat)=>cs.setIfInBounds (off+p.2) p.1) cells).toList:=by
      rw[hfold,putAt]
      refine AV.relL_append (AV.relL_append (AV.relL_take _ hr) hvr) ?_
      have:(ρ x).cells.toList.length=new.length:=by simpa using hvl
      rw[this];exact AV.relL_drop _ hr
     have hone:OneAll ((ρ x).cells.zipIdx.foldl (fun (cs:Array Value) (p:Value×Nat)=>cs.setIfInBounds (off+p.2) p.1) cells).toList:=by
      rw[hfold]
      intro u hu
      simp only[List.mem_append] at hu
      rcases hu with (hu | hu) | hu
      ·exact ho u (List.mem_of_mem_take hu)
      ·exact hvo u hu
      ·exact ho u (List.mem_of_mem_drop hu)
     obtain⟨cells',hf',hr',ho'⟩:=fillK_sound hT hl places hp r _ cs' _ h hrel' hone
     refine⟨cells',?_,hr',ho'⟩
     simp only[List.map_cons,Instr.fill,hpl]
     rw[if_neg (by simp;omega)]
     exact hf'
   ·cases h
  ·cases h
omit [Gm] in
theorem buildK_sound (hT:TOK P T) {lk:Operand→Option AV} {ρ:Operand→Value} (hl:∀ x v,lk x=some v→v.rel w F m kk (ρ x)) {t:TypeId} {parts:Array (Nat×Operand)} {K:AV→Prop}
  (h:buildK T lk t parts K):∃ r z,K r∧r.rel w F m kk z∧(Instr.build t (parts.map fun (i,x)=>(i,ρ x))).run P w=.ok z w:=by
 unfold buildK at h
 split at h
 ·rename_i fs sz by' z q ht
  split at h
  ·rename_i cs hcs
   obtain⟨info,d,h1,h2,h3,h4,h5,⟨zv,hz1,hz2,hz3,hz4⟩,hfs⟩:=hT _ _ ht
   obtain⟨a,rfl,hfa⟩:=h3
   have hall:∀ l:List Field,(∀ f∈l,∃ fi,T f.type=some fi)→∃ places,l.mapM (fun f=>(P.info? f.type).map fun i=>(f.offset,i.size))=some places ∧
     ∀ (i off ft:Nat) (fi:TI),(l.map (fun f=>(f.offset,f.type)))[i]?=some (off,ft)→T ft=some fi→places[i]?=some (off,fi.size):=by
    intro l
    induction l with
    | nil=>intro _;exact⟨[],rfl,fun i off ft fi h=>by simp at h⟩
    | cons f l ih =>
     intro hl
     obtain⟨places,hp,hq⟩:=ih (fun f hf=>hl f (List.mem_cons_of_mem _ hf))
     obtain⟨fi,hfi⟩:=hl f (List.mem_cons_self ..)
     obtain⟨inf,_,hinf,_,_,hsz,_⟩:=hT _ _ hfi
     refine⟨(f.offset,inf.size)::places,by simp[List.mapM_cons,hinf,hp],?_⟩
     intro i off ft fi' hi hfi'
     cases i with
     | zero =>
      simp at hi
      obtain⟨rfl,rfl⟩:=hi
      rw[hfi] at hfi';injection hfi' with e;subst e
      simp[hsz]
     | succ i=>simpa using hq i off ft fi' (by simpa using hi) hfi'
   obtain⟨places,hp,hq⟩:=hall a.toList (fun f hf=>hfs.1 fs rfl (f.offset,f.type) (by rw[hfa];exact List.mem_map.2 ⟨f,hf,rfl⟩))
   obtain⟨cells',hf',hr',ho'⟩:=fillK_sound hT hl places (by rw[hfa];exact hq) parts.toList _ cs zv.cells hcs (relL_map.1 (hz2 w F)) hz3
   refine⟨_,.agg cells',h,?_,?_⟩
   ·have:=rel_mkAgg hr' ho'
    simpa using this
   ·refine run_build w t _ cells' ?_
    unfold Program.built
    simp only[h1,h2,hz1,hp]
    simpa using hf'
  ·exact h.elim
 ·exact h.elim
omit [Gm] in
theorem lkAll_rel {lk:Operand→Option AV} {ρ:Operand→Value} (hl:∀ x v,lk x=some v→v.rel w F m kk (ρ x)):∀ (xs:List Operand) (vs:List AV),lkAll lk xs=some vs→AV.relL w F m kk vs (xs.map ρ)
 | [],vs,h=>by simp only[lkAll,Option.some.injEq] at h;subst h;simp[AV.relL]
 | x::xs,vs,h=>by
  simp only[lkAll] at h
  split at h
  ·rename_i v vs' hv hvs
   injection h with h;subst h
   simp only[List.map_cons,AV.relL]
   exact⟨_,_,rfl,hl x v hv,lkAll_rel hl xs vs' hvs⟩
  ·cases h
omit [Gm] in
theorem rel_mkFn {f:FuncId} {cs:List AV} {us:List Value} (h:AV.relL w F m kk cs us):(mkFn f cs).rel w F m kk (.func (.func f) #[] us.toArray):=by
 unfold mkFn
 split
 ·rename_i xs hx
  simp only[AV.rel,TV.rel]
  exact⟨us,rfl,relL_allT h hx⟩
 ·simp only[AV.rel];exact⟨us,rfl,h⟩
omit [Gm] in
theorem endsOf_run {lk:Operand→Option AV} {ρ:Operand→Value} (hl:∀ x v,lk x=some v→v.rel w F m kk (ρ x)) {n cap:Nat} {lo hi:Option Operand} {a b:Int} (h:endsOf lk n lo hi=some (a,b)) (h0:0≤a) (h1:a≤b) (h2:b≤n) (hc:n≤cap) (s:Bool) :
  (Instr.sliceBounds s n cap (lo.map ρ) (hi.map ρ) none).run P w=.ok (a.toNat,b.toNat,cap) w:=by
 unfold endsOf at h
 have hint:∀ x i k,lk x=some (.t (.v (.int k i)))→ρ x=.int k i:=fun x i k hx=>by
  have:=hl x _ hx;simp only[AV.rel,TV.rel] at this;exact this.1
 split at h
 ·rename_i a' b' ha hb
  simp only[Option.some.injEq,Prod.mk.injEq] at h
  obtain⟨rfl,rfl⟩:=h
  have hlo:(lo=none∧a'=0)∨∃ x k,lo=some x∧ρ x=.int k a':=by
   cases lo with
   | none=>simp only[Option.some.injEq] at ha;exact .inl ⟨rfl,ha.symm⟩
   | some x =>
    simp only at ha
    split at ha
    ·rename_i k i hx;injection ha with ha;subst ha;exact .inr ⟨x,k,rfl,hint x i k hx⟩
    ·cases ha
  have hhi:(hi=none∧b'=n)∨∃ x k,hi=some x∧ρ x=.int k b':=by
   cases hi with
   | none=>simp only[Option.some.injEq] at hb;exact .inl ⟨rfl,hb.symm⟩
   | some x =>
    simp only at hb
    split at hb
    ·rename_i k i hx;injection hb with hb;subst hb;exact .inr ⟨x,k,rfl,hint x i k hx⟩
    ·cases hb
  have hb0:0≤b':=by omega
  obtain⟨bn,rfl⟩:=Int.eq_ofNat_of_zero_le hb0
  obtain⟨an,rfl⟩:=Int.eq_ofNat_of_zero_le h0
  have hb2:bn≤cap:=by omega
  have hab:an≤bn:=by omega
  have hbn:bn≤n:=by omega
  rcases hlo with⟨rfl,ea⟩ | ⟨x,k,rfl,hx⟩ <;> rcases hhi with⟨rfl,eb⟩ | ⟨y,k',rfl,hy⟩
  ·have ea':an=0:=by omega
   have eb':bn=n:=by omega
   subst ea';subst eb'
   simp[Instr.sliceBounds]
  ·have ea':an=0:=by omega
   subst ea'
   simp[Instr.sliceBounds,hy,Instr.sliceBound,asIntOf,hb2]
  ·have eb':bn=n:=by omega
   subst eb'
   simp[Instr.sliceBounds,hx,Instr.sliceBound,asIntOf,hab]
  ·simp[Instr.sliceBounds,hx,hy,Instr.sliceBound,asIntOf,hab,hb2]
 ·cases h
omit [Gm] in
theorem TV.relR_take {k:Nat}:∀ (n:Nat) {es:List (List TV)} {us:List Value},TV.relR w F k es us→TV.relR w F k (es.take n) (us.take (n*k))
 | 0,es,us,h=>by simp[TV.relR]
 | n+1,[],us,h=>by simp only[TV.relR] at h;subst h;simp[TV.relR]
 | n+1,e::es,us,h=>by
  simp only[TV.relR] at h
  obtain⟨u1,u2,rfl,hk,h0,h1⟩:=h
  have hl:=TV.relL_length h0
  simp only[List.take_succ_cons,TV.relR]
  refine⟨u1,u2.take (n*k),?_,hk,h0,TV.relR_take n h1⟩
  have:(n+1)*k=u1.length+n*k:=by rw[hl,hk,Nat.add_mul];omega
  rw[this,List.take_length_add_append]
omit [Gm] in
theorem TV.relR_drop {k:Nat}:∀ (n:Nat) {es:List (List TV)} {us:List Value},TV.relR w F k es us→TV.relR w F k (es.drop n) (us.drop (n*k))
 | 0,es,us,h=>by simpa using h
 | n+1,[],us,h=>by simp only[TV.relR] at h;subst h;simp[TV.relR]
 | n+1,e::es,us,h=>by
  simp only[TV.relR] at h
  obtain⟨u1,u2,rfl,hk,h0,h1⟩:=h
  have hl:=TV.relL_length h0
  have:(n+1)*k=u1.length+n*k:=by rw[hl,hk,Nat.add_mul];omega
  simp only[List.drop_succ_cons]
  rw[this,←List.drop_drop,List.drop_left]
  exact TV.relR_drop n h1
variable {B0:Nat→Prop} {F0:Nat→Prop} {w0:World} {σ:List (Nat×AO)}
theorem sl_sb (H:Heap B0 F0 w0 σ m kk w) {l:Nat} {e:TypeId} {k:Nat} {es:List (List TV)} (hl:look l σ=some (.row e k es)) {y:Value} (h:(AV.sl l).rel w (Fc F0 B0 σ m) m kk y) :
  (AV.sb l 0 es.length).rel w (Fc F0 B0 σ m) m kk y:=by
 simp only[AV.rel] at h ⊢
 obtain⟨rfl,_⟩:=h
 obtain⟨us,ho,_⟩:=H.ob l _ hl
 rcases ho.1.2 with⟨hn,h0⟩ | ⟨g,cap,cur,hv,_⟩
 ·exact .inr ⟨hn,hn,trivial,h0⟩
 ·exact .inl ⟨g,_,cap,⟨g,0,none⟩,hv,by rw[hv];rfl,rfl,fun _=>by rw[Nat.zero_mul];rfl,fun _=>rfl,by omega⟩
theorem sb_slice (H:Heap B0 F0 w0 σ m kk w) {l o n:Nat} {e:TypeId} {k:Nat} {es:List (List TV)} (hl:look l σ=some (.row e k es)) {y:Value} (h:(AV.sb l o n).rel w (Fc F0 B0 σ m) m kk y)
  {a b:Int} (h0:0≤a) (h1:a≤b) (h2:b≤n):∃ A c z,y=.slice A n c∧n≤c∧(AV.sb l (o+a.toNat) (b.toNat-a.toNat)).rel w (Fc F0 B0 σ m) m kk z ∧
   z=.slice (if c=a.toNat then A else A.map (·.add (a.toNat*k))) (b.toNat-a.toNat) (c-a.toNat):=by
 obtain⟨us,ho,_,_,_,hkk⟩:=H.ob l _ hl
 simp only[AV.rel] at h ⊢
 rcases h with⟨g,N,c,A,hm,rfl,hA,hA1,hA0,hin⟩ | ⟨hm,rfl,rfl,rfl⟩
 ·have hNc:N≤c:=by
   rcases ho.1.2 with⟨hn,_⟩ | ⟨g',cap,cur,hv,_,_,hnc,_⟩
   ·rw[hm] at hn;simp at hn
   ·rw[hm] at hv;simp at hv;omega
  refine⟨some A,c-o,_,rfl,by omega,.inl ⟨g,N,c,if c-o=a.toNat then A else A.add (a.toNat*k),hm,?_,?_,?_,?_,by omega⟩,rfl⟩
  ·split <;> simp <;> omega
  ·split
   ·exact hA
   ·rw[add_block];exact hA
  ·intro hne
   rw[if_neg (by omega),hA1 (by omega),add_add,hkk,Nat.add_mul]
  ·intro hz
   split
   ·exact hA0 (by omega)
   ·rw[hA0 (by omega),show a.toNat=0 by omega,Nat.zero_mul];rfl
 ·have ha:a=0:=by omega
  have hb:b=0:=by omega
  subst ha;subst hb
  exact⟨none,0,_,rfl,Nat.le_refl _,.inr ⟨hm,rfl,rfl,rfl⟩,rfl⟩
theorem sliceK_sound (hT:TOK P T) (H:Heap B0 F0 w0 σ m kk w) {lk:Operand→Option AV} {ρ:Operand→Value} (hl:∀ x v,lk x=some v→v.rel w (Fc F0 B0 σ m) m kk (ρ x)) {W:Prop→Prop} (hW:∀ p,W p→p) {t:TypeId} {lo hi mx:Option Operand} {K:AV→Prop} {x:AV} {u:Value}
  (h:sliceK T lk σ W t lo hi mx K x) (hx:x.rel w (Fc F0 B0 σ m) m kk u):∃ r z,K r∧r.rel w (Fc F0 B0 σ m) m kk z∧(Instr.sliceAt t u (lo.map ρ) (hi.map ρ) (mx.map ρ)).run P w=.ok z w:=by
 unfold sliceK at h
 split at h
 ·rename_i sz by' z q s ht
  obtain⟨d,hd,hun⟩:=hT.under (w:=w) ht
  simp only[Ty.fits] at hd;subst hd
  simp only[AV.rel,TV.rel] at hx
  obtain⟨rfl,_⟩:=hx
  split at h
  ·split at h
   ·rename_i a b hab
    obtain⟨hw,h⟩:=h
    obtain⟨h0,h1,h2⟩:=hW _ hw
    refine⟨_,_,h,rel_v rfl,?_⟩
    have:=endsOf_run (P:=P) hl hab h0 h1 h2 (Nat.le_refl s.size) false
    simp[Instr.sliceAt,hun,Instr.slice,this]
   ·exact h.elim
  ·exact h.elim
 ·rename_i e sz by' z q k es ht
  obtain⟨d,hd,hun⟩:=hT.under (w:=w) ht
  simp only[Ty.fits] at hd;subst hd
  simp only[AV.rel,TV.rel] at hx
  obtain⟨A,c,us,rfl,hle,hml,hk0,hr,ho,hm⟩:=hx
  split at h
  ·rename_i ei hei
   cases hb:Nat.beq ei.size k with
   | false=>simp[hb] at h
   | true =>
    simp only[hb,cond_true] at h
    have hk:=Nat.eq_of_beq_eq_true hb
    split at h
    ·rename_i a b hab
     obtain⟨hw,h⟩:=h
     obtain⟨h0,h1,h2⟩:=hW _ hw
     have hrun:=endsOf_run (P:=P) hl hab h0 h1 h2 hle true
     refine⟨_,.slice (if c=a.toNat then A else A.map (·.add (a.toNat*k))) (b.toNat-a.toNat) (c-a.toNat),h,?_,?_⟩
     ·simp only[AV.rel,TV.rel]
      have hlen:((es.take b.toNat).drop a.toNat).length=b.toNat-a.toNat:=by simp;omega
      refine⟨_,_,((us.take (b.toNat*k)).drop (a.toNat*k)),by rw[hlen],by rw[hlen];omega,by omega,hk0,TV.relR_drop _ (TV.relR_take _ hr),fun u hu=>ho u (List.mem_of_mem_take (List.mem_of_mem_drop hu)),?_⟩
      rcases hm with rfl | ⟨ad,rfl,hF,hc⟩
      ·exact .inl (by simp)
      ·by_cases hca:c=a.toNat
       ·refine .inl ?_
        have:es.length≤a.toNat:=by omega
        have hl':=TV.relR_length hr
        apply List.drop_eq_nil_of_le
        rw[List.length_take,hl']
        exact Nat.le_trans (Nat.min_le_right _ _) (Nat.mul_le_mul_right k this)
       ·refine .inr ⟨ad.add (a.toNat*k),by simp[hca],by rw[add_block];exact hF,?_⟩
        exact (hc.take _).drop _
     ·have hnb:∀ (x:Option Operand),(Option.map ρ none)=(none:Option Value):=fun _=>rfl
      simp[Instr.sliceAt,hun,Instr.slice,hrun,hT.size hei,hk]
    ·exact h.elim
  ·exact h.elim
 ·rename_i e sz by' z q l ht
  obtain⟨d,hd,hun⟩:=hT.under (w:=w) ht
  simp only[Ty.fits] at hd;subst hd
  split at h
  ·rename_i ei e' k es hei hlk
   cases hb:Nat.beq ei.size k with
   | false=>simp[hb] at h
   | true =>
    simp only[hb,cond_true] at h
    have hk:=Nat.eq_of_beq_eq_true hb
    split at h
    ·rename_i a b hab
     obtain⟨hw,h⟩:=h
     obtain⟨h0,h1,h2⟩:=hW _ hw
     obtain⟨A,c,z,rfl,hle,hrz,hrun⟩:=sb_slice H hlk (sl_sb H hlk hx) h0 h1 h2
     have hrun1:=endsOf_run (P:=P) (w:=w) hl hab h0 h1 h2 hle true
     refine⟨_,_,h,hrz,?_⟩
     simp[Instr.sliceAt,hun,Instr.slice,hrun1,hT.size hei,hk,hrun]
    ·exact h.elim
  ·exact h.elim
 ·rename_i e sz by' z q l o n ht
  obtain⟨d,hd,hun⟩:=hT.under (w:=w) ht
  simp only[Ty.fits] at hd;subst hd
  split at h
  ·rename_i ei e' k es hei hlk
   cases hb:Nat.beq ei.size k with
   | false=>simp[hb] at h
   | true =>
    simp only[hb,cond_true] at h
    have hk:=Nat.eq_of_beq_eq_true hb
    split at h
    ·rename_i a b hab
     obtain⟨hw,h⟩:=h
     obtain⟨h0,h1,h2⟩:=hW _ hw
     obtain⟨A,c,z,rfl,hle,hrz,hrun⟩:=sb_slice H hlk (hx) h0 h1 h2
     have hrun1:=endsOf_run (P:=P) (w:=w) hl hab h0 h1 h2 hle true
     refine⟨_,_,h,hrz,?_⟩
     simp[Instr.sliceAt,hun,Instr.slice,hrun1,hT.size hei,hk,hrun]
    ·exact h.elim
  ·exact h.elim
 ·exact h.elim
theorem lenK_sound (hT:TOK P T) (H:Heap B0 F0 w0 σ m kk w) {t ty:TypeId} {K:AV→Prop} {x:AV} {u:Value} (h:lenK T σ t K x) (hx:x.rel w (Fc F0 B0 σ m) m kk u) :
  ∃ r z,K r∧r.rel w (Fc F0 B0 σ m) m kk z∧(Builtin.len_ #[t] ty #[u]).run P w=.ok z w:=by
 unfold lenK at h
 split at h
 ·rename_i sz by' z q s ht
  obtain⟨d,hd,hun⟩:=hT.under (w:=w) ht
  simp only[Ty.fits] at hd;subst hd
  simp only[AV.rel,TV.rel] at hx
  obtain⟨rfl,_⟩:=hx
  exact⟨_,_,h,rel_vi,by simp[Builtin.len_,hun,goInt]⟩
 ·rename_i e sz by' z q k es ht
  obtain⟨d,hd,hun⟩:=hT.under (w:=w) ht
  simp only[Ty.fits] at hd;subst hd
  simp only[AV.rel,TV.rel] at hx
  obtain⟨A,c,us,rfl,_⟩:=hx
  exact⟨_,_,h,rel_vi,by simp[Builtin.len_,hun,goInt]⟩
 ·rename_i e sz by' z q ht
  obtain⟨d,hd,hun⟩:=hT.under (w:=w) ht
  simp only[Ty.fits] at hd;subst hd
  simp only[AV.rel,TV.rel] at hx
  obtain⟨rfl,_⟩:=hx
  exact⟨_,_,h,rel_vi,by simp[Builtin.len_,hun,goInt]⟩
 ·rename_i e sz by' z q l ht
  obtain⟨d,hd,hun⟩:=hT.under (w:=w) ht
  simp only[Ty.fits] at hd;subst hd
  simp only[AV.rel] at hx
  obtain⟨rfl,_⟩:=hx
  split at h
  ·rename_i e' k es hl
   obtain⟨us,ho,_⟩:=H.ob l _ hl
   obtain⟨A,n,c,hm⟩:=owns_slice ho.1
   have hn:n=es.length:=by
    rw[hm] at ho
    rcases ho.1.2 with⟨hnil,hn⟩ | ⟨g,cap,cur,hv,_⟩
    ·injection hnil with _ h2 _;omega
    ·injection hv
   subst hn
   exact⟨_,_,h,rel_vi,by simp[Builtin.len_,hm,hun,goInt]⟩
  ·exact h.elim
 ·rename_i e sz by' z q l o n ht
  obtain⟨d,hd,hun⟩:=hT.under (w:=w) ht
  simp only[Ty.fits] at hd;subst hd
  simp only[AV.rel] at hx
  rcases hx with⟨g,N,c,A,_,rfl,_⟩ | ⟨_,rfl,_,rfl⟩
  ·exact⟨_,_,h,rel_vi,by simp[Builtin.len_,hun,goInt]⟩
  ·exact⟨_,_,h,rel_vi,by simp[Builtin.len_,hun,goInt]⟩
 ·rename_i n e sz by' z q _ ht
  obtain⟨d,hd,hun⟩:=hT.under (w:=w) ht
  simp only[Ty.fits] at hd;subst hd
  exact⟨_,_,h,rel_vi,by simp[Builtin.len_,hun,goInt]⟩
 ·exact h.elim
omit [Gm] in
theorem maxMinK_sound {K:AV→Prop} {mx:Bool} {xs:List AV} {us:List Value} (h:maxMinK mx K xs) (hx:AV.relL w F m kk xs us) (ts:Array TypeId) (ty:TypeId) :
  ∃ r z,K r∧r.rel w F m kk z∧((if mx then Builtin.max_ ts ty us.toArray else Builtin.min_ ts ty us.toArray):Sem Value).run P w=.ok z w:=by
 unfold maxMinK at h
 split at h
 ·rename_i k a k' b
  cases hk:sameKind k k' with
  | false=>simp[hk] at h
  | true =>
   simp only[hk,cond_true] at h
   have:=sameKind_eq hk;subst this
   simp only[AV.relL,AV.rel,TV.rel] at hx
   obtain⟨_,_,rfl,⟨rfl,_⟩,_,_,rfl,⟨rfl,_⟩,rfl⟩:=hx
   refine⟨_,_,h,rel_v rfl,?_⟩
   cases mx <;> simp[Builtin.max_,Builtin.min_,Builtin.max2,Builtin.min2]
 ·exact h.elim
end
end
section
section
variable {w w':World} {F F':Nat→Prop}
omit [Gm] in
theorem MR_length {str:Bool}:∀ {i:Nat} {es:List (Value×TV)} {l:List MapEntry},MR w F str i es l→l.length=es.length
 | _,[],l,h=>by simp only[MR] at h;subst h;rfl
 | i,(k,v)::es,l,h=>by
  simp only[MR] at h
  obtain⟨e,l',rfl,_,_,_,_,h6⟩:=h
  simp[MR_length h6]
omit [Gm] in
theorem MR_get {str:Bool}:∀ {i:Nat} {es:List (Value×TV)} {l:List MapEntry},MR w F str i es l→∀ {e:MapEntry},e∈l→∃ j k v,es[j]?=some (k,v)∧e.born=i+j∧e.key=k∧keyIs str k=true∧v.rel w F e.val
 | _,[],l,h,e,he=>by simp only[MR] at h;subst h;cases he
 | i,(k,v)::es,l,h,e,he=>by
  simp only[MR] at h
  obtain⟨e',l',rfl,h2,h3,h4,h5,h6⟩:=h
  rcases List.mem_cons.1 he with rfl | he
  ·exact⟨0,k,v,rfl,h5,h2,h3,h4⟩
  ·obtain⟨j,k',v',g1,g2,g3⟩:=MR_get h6 he
   exact⟨j+1,k',v',by simpa using g1,by omega,g3⟩
omit [Gm] in
theorem keyIs_of_get {str:Bool}:∀ {i:Nat} {es:List (Value×TV)} {l:List MapEntry},MR w F str i es l→∀ {j:Nat} {k:Value} {v:TV},es[j]?=some (k,v)→keyIs str k=true
 | _,[],l,h,j,k,v,he=>by simp at he
 | i,(k0,v0)::es,l,h,j,k,v,he=>by
  simp only[MR] at h
  obtain⟨e',l',rfl,h2,h3,h4,h5,h6⟩:=h
  cases j with
  | zero=>simp at he;rw[←he.1];exact h3
  | succ j=>exact keyIs_of_get h6 (by simpa using he)
omit [Gm] in
theorem MR_born {str:Bool}:∀ {i:Nat} {es:List (Value×TV)} {l:List MapEntry},MR w F str i es l→∀ j,j<es.length→∃ e∈l,e.born=i+j
 | _,[],l,h,j,hj=>by simp at hj
 | i,(k,v)::es,l,h,j,hj=>by
  simp only[MR] at h
  obtain⟨e',l',rfl,h2,h3,h4,h5,h6⟩:=h
  cases j with
  | zero=>exact⟨e',List.mem_cons_self ..,h5⟩
  | succ j =>
   obtain⟨e,he,hb⟩:=MR_born h6 j (by simpa using hj)
   exact⟨e,List.mem_cons_of_mem _ he,by omega⟩
omit [Gm] in
theorem keyIs_str {a:Value} (h:keyIs true a=true):∃ s,a=.string s:=by
 unfold keyIs at h
 split at h
 ·cases h
 ·exact⟨_,rfl⟩
 ·cases h
omit [Gm] in
theorem keyIs_int {a:Value} (h:keyIs false a=true):∃ n,a=.int .i64 n:=by
 unfold keyIs at h
 split at h
 ·exact⟨_,rfl⟩
 ·cases h
 ·cases h
omit [Gm] in
theorem sameNow_m {P:Program} {T:TyTab} (hT:TOK P T) {kt:TypeId} {str:Bool} (hkt:keyTyB T kt str=true):∃ td,(underlying kt).run P w=.ok td w∧(∀ a b,keyIs str a=true→keyIs str b=true→Instr.sameNow td a b=some (keyEq a b)) ∧
  ∀ e v,(Instr.checkKey e 10000 kt v).run P w=.ok () w:=by
 unfold keyTyB at hkt
 split at hkt
 ·rename_i s b z q ht
  obtain⟨d,hd,hun⟩:=hT.under (w:=w) ht
  simp only[Ty.fits] at hd;subst hd;subst hkt
  refine⟨_,hun,?_,?_⟩
  ·intro a b ha hb
   obtain⟨a,rfl⟩:=keyIs_str ha
   obtain⟨b,rfl⟩:=keyIs_str hb
   simp[Instr.sameNow,keyEq]
  ·intro e v
   have key:∀ q,(Instr.checkKey e (q+1) kt v).run P w=.ok () w:=by
    intro q
    simp only[Instr.checkKey,Sem.run_bind,hun,Result.andThen_ok];cases v <;> rfl
   exact key 9999
 ·rename_i s b z q ht
  obtain⟨d,hd,hun⟩:=hT.under (w:=w) ht
  simp only[Ty.fits] at hd;subst hd
  have hs:str=false:=by simpa using hkt
  subst hs
  refine⟨_,hun,?_,?_⟩
  ·intro a b ha hb
   obtain⟨a,rfl⟩:=keyIs_int ha
   obtain⟨b,rfl⟩:=keyIs_int hb
   simp[Instr.sameNow,keyEq]
  ·intro e v
   have key:∀ q,(Instr.checkKey e (q+1) kt v).run P w=.ok () w:=by
    intro q
    simp only[Instr.checkKey,Sem.run_bind,hun,Result.andThen_ok];cases v <;> rfl
   exact key 9999
 ·cases hkt
omit [Gm] in
theorem MR_find {td:TypeDesc} {str:Bool} (hs:∀ a b,keyIs str a=true→keyIs str b=true→Instr.sameNow td a b=some (keyEq a b)) {kv:Value} (hkv:keyIs str kv=true):∀ {i:Nat} {es:List (Value×TV)} {l:List MapEntry} (n:Nat),MR w F str i es l →
  (findE kv es=none∧Instr.findNow td kv l n=some none∧(∀ x,setE kv x es=es++[(kv,x)])) ∨
  (∃ j k v e,findE kv es=some v∧Instr.findNow td kv l n=some (some (n+j,e.val))∧es[j]?=some (k,v)∧l[j]?=some e∧v.rel w F e.val∧e.key=k∧keyEq kv k=true∧e.born=i+j∧(∀ x,setE kv x es=es.set j (kv,x)))
 | i,[],l,n,h=>by
  simp only[MR] at h;subst h
  exact .inl ⟨rfl,rfl,fun _=>rfl⟩
 | i,(k,v)::es,l,n,h=>by
  simp only[MR] at h
  obtain⟨e,l',rfl,h2,h3,h4,h5,h6⟩:=h
  have hse:=hs kv k hkv h3
  cases hq:keyEq kv k with
  | true =>
   refine .inr ⟨0,k,v,e,by simp[findE,hq],?_,rfl,rfl,h4,h2,hq,h5,fun x=>by simp[setE,hq]⟩
   simp[Instr.findNow,h2,hse,hq]
  | false =>
   rcases MR_find hs hkv (n+1) h6 with⟨g1,g2,g3⟩ | ⟨j,k',v',e',g1,g2,g3,g4,g5,g6,g7,g8,g9⟩
   ·refine .inl ⟨by simp[findE,hq,g1],?_,fun x=>by simp[setE,hq,g3]⟩
    simp[Instr.findNow,h2,hse,hq,g2]
   ·refine .inr ⟨j+1,k',v',e',by simp[findE,hq,g1],?_,by simpa using g3,by simpa using g4,g5,g6,g7,by omega,fun x=>by simp[setE,hq,g9]⟩
    simp only[Instr.findNow,h2,hse,hq,g2]
    congr 3;omega
omit [Gm] in
theorem MR_push {str:Bool} {kv:Value} (hkv:keyIs str kv=true) {x:TV} {xv:Value} (hx:x.rel w F xv):∀ {i:Nat} {es:List (Value×TV)} {l:List MapEntry},MR w F str i es l →
  MR w F str i (es++[(kv,x)]) (l++[{ key:=kv,val:=xv,born:=i+es.length }])
 | i,[],l,h=>by
  simp only[MR] at h;subst h
  simp only[List.nil_append,MR,List.length_nil,Nat.add_zero]
  exact⟨_,_,rfl,rfl,hkv,hx,rfl,rfl⟩
 | i,(k,v)::es,l,h=>by
  simp only[MR] at h
  obtain⟨e,l',rfl,h2,h3,h4,h5,h6⟩:=h
  have:=MR_push hkv hx h6
  simp only[List.cons_append,MR,List.length_cons]
  refine⟨e,_,rfl,h2,h3,h4,h5,?_⟩
  rw[show i+(es.length+1)=i+1+es.length by omega];exact this
omit [Gm] in
theorem MR_set {str:Bool} {kv:Value} (hkv:keyIs str kv=true) {x:TV} {xv:Value} (hx:x.rel w F xv):∀ {i:Nat} {es:List (Value×TV)} {l:List MapEntry} {j:Nat} {e:MapEntry},MR w F str i es l→l[j]?=some e →
  MR w F str i (es.set j (kv,x)) (l.set j { e with key:=kv,val:=xv })
 | i,[],l,j,e,h,hj=>by
  simp only[MR] at h;subst h;simp at hj
 | i,(k,v)::es,l,j,e,h,hj=>by
  simp only[MR] at h
  obtain⟨e',l',rfl,h2,h3,h4,h5,h6⟩:=h
  cases j with
  | zero =>
   simp at hj;subst hj
   simp only[List.set_cons_zero,MR]
   exact⟨_,_,rfl,rfl,hkv,hx,h5,h6⟩
  | succ j =>
   simp only[List.set_cons_succ,MR]
   exact⟨_,_,rfl,h2,h3,h4,h5,MR_set hkv hx h6 (by simpa using hj)⟩
end
section
variable {P:Program} {T:TyTab} {w:World} {m:Nat→Value} {kk:Nat→Nat}
variable {B0:Nat→Prop} {F0:Nat→Prop} {w0:World} {σ:List (Nat×AO)}
omit [Gm] in
theorem zeroT_run (hT:TOK P T) {t:TypeId} {ti:TI} (ht:T t=some ti) {z:TV} (hz:zeroT ti=some z) (F:Nat→Prop):∃ y,(zeroValue t).run P w=.ok y w∧z.rel w F y:=by
 obtain⟨info,d,h1,h2,h3,h4,h5,⟨zv,hz1,hz2,hz3,hz4⟩,_,hag⟩:=hT _ _ ht
 have hag:=hag zv hz1
 refine⟨zv,by simp[zeroValue,typeInfo,h1,hz1],?_⟩
 unfold zeroT at hz
 have h2':=hz2 w F
 rw[←hag] at hz
 cases zv with
 | agg us =>
  simp only[aggV,cond_true,Option.some.injEq] at hz;subst hz
  simp only[TV.rel]
  exact⟨us.toList,rfl,by simpa [Value.cells] using h2',by simpa [Value.cells] using hz3⟩
 | _ =>
  simp only[aggV,cond_false] at hz
  split at hz
  ·rename_i x hx
   injection hz with hz;subst hz
   rw[hx] at h2'
   simp only[Value.cells,TV.relL] at h2'
   obtain⟨u,us',h5,h6,rfl⟩:=h2'
   simp only[List.cons.injEq,and_true] at h5
   rw[h5];exact h6
  ·cases hz
omit [Gm] in
theorem lookup_run (hT:TOK P T) {t kt e:TypeId} {ti ei:TI} (ht:T t=some ti) (hd:ti.d=.map kt e) (hei:T e=some ei) {z:TV} (hz:zeroT ei=some z) {str:Bool} (hkt:keyTyB T kt str=true) {kv:Value} (hkv:keyIs str kv=true)
  {F:Nat→Prop} {g:Nat} {es:List (Value×TV)} {l':List MapEntry} (hg:w.heap[g]?=some (.map l'.toArray es.length)) (hr:MR w F str 0 es l') (ok:Bool) :
  ∃ v b,(findE kv es).isSome=b∧((findE kv es).getD z).rel w F v∧(Instr.lookup t (.map (some g)) kv ok).run P w=.ok (if ok then .tuple #[v,.bool b] else v) w:=by
 obtain⟨d,hdd,hun⟩:=hT.under (w:=w) ht
 rw[hd] at hdd
 simp only[Ty.fits] at hdd;subst hdd
 obtain⟨td,hkun,hs,hck⟩:=sameNow_m (w:=w) hT hkt
 obtain⟨zv,hzr,hzrel⟩:=zeroT_run (w:=w) hT hei hz F
 have hget:(getObj g).run P w=.ok (.map l'.toArray es.length) w:=by simp[getObj,Sem.run,hg]
 rcases MR_find hs hkv 0 hr with⟨g1,g2,_⟩ | ⟨j,k',v',e',g1,g2,g3,g4,g5,_⟩
 ·refine⟨zv,false,by rw[g1];rfl,by rw[g1];exact hzrel,?_⟩
  simp[Instr.lookup,hun,hget,hck,Instr.findKey,hkun,g2,hzr]
 ·refine⟨e'.val,true,by rw[g1];rfl,by rw[g1];exact g5,?_⟩
  simp[Instr.lookup,hun,hget,hck,Instr.findKey,hkun,g2]
theorem lookupK_sound (C:Ctx P T) (H:Heap B0 F0 w0 σ m kk w) {W:Prop→Prop} (hW:∀ p,W p→p) {t:TypeId} {ok:Bool} {K:AV→Prop} {x k:AV} {u i:Value}
  (h:lookupK T σ W t ok K x k) (hx:x.rel w (Fc F0 B0 σ m) m kk u) (hk:k.rel w (Fc F0 B0 σ m) m kk i):∃ r z,K r∧r.rel w (Fc F0 B0 σ m) m kk z∧(Instr.lookup t u i ok).run P w=.ok z w:=by
 have fin:∀ {kv:Value} {es:List (Value×TV)} {z:TV} {run:Sem Value},(∃ v b,(findE kv es).isSome=b∧((findE kv es).getD z).rel w (Fc F0 B0 σ m) v∧run.run P w=.ok (if ok then .tuple #[v,.bool b] else v) w) →
   (bif ok then ∃ (b:Bool) (v:TV),W ((findE kv es).isSome=b∧(findE kv es).getD z=v)∧K (.t (.tup [v,.v (.bool b)])) else ∃ v,W ((findE kv es).getD z=v)∧K (.t v)) →
   ∃ r z,K r∧r.rel w (Fc F0 B0 σ m) m kk z∧run.run P w=.ok z w:=by
  intro kv es z run key h
  obtain⟨v,b,k1,k2,k3⟩:=key
  cases ok with
  | true =>
   rw[cond_true] at h
   obtain⟨b',v',hw,h⟩:=h
   obtain⟨h1,h2⟩:=hW _ hw
   rw[h1] at k1;subst k1
   rw[h2] at k2
   refine⟨_,_,h,?_,k3⟩
   simp only[AV.rel,TV.rel,if_true]
   exact⟨[v,.bool b'],rfl,by simp only[TV.relL,TV.rel];exact⟨_,_,rfl,k2,_,_,rfl,⟨rfl,rfl⟩,rfl⟩⟩
  | false =>
   rw[cond_false] at h
   obtain⟨v',hw,h⟩:=h
   have h2:=hW _ hw
   rw[h2] at k2
   exact⟨_,_,h,by simpa [AV.rel] using k2,k3⟩
 unfold lookupK at h
 split at h
 ·rename_i kt e sz by' z0 q str es kv ht
  split at h
  ·rename_i ei hei
   split at h
   ·rename_i z hz
    cases hb:keyIs str kv&&keyTyB T kt str with
    | false=>rw[hb] at h;exact h.elim
    | true =>
     rw[hb,cond_true] at h
     simp only[Bool.and_eq_true] at hb
     simp only[AV.rel,TV.rel] at hx
     obtain⟨g,l',rfl,_,hg,hr⟩:=hx
     simp only[AV.rel,TV.rel] at hk
     obtain⟨rfl,_⟩:=hk
     exact fin (lookup_run C.tok ht rfl hei hz hb.2 hb.1 hg hr ok) h
   ·exact h.elim
  ·exact h.elim
 ·rename_i kt e sz by' z0 q l kv ht
  split at h
  ·rename_i str es ei hl hei
   split at h
   ·rename_i z hz
    cases hb:keyIs str kv&&keyTyB T kt str with
    | false=>rw[hb] at h;exact h.elim
    | true =>
     rw[hb,cond_true] at h
     simp only[Bool.and_eq_true] at hb
     simp only[AV.rel] at hx
     obtain⟨rfl,_⟩:=hx
     simp only[AV.rel,TV.rel] at hk
     obtain⟨rfl,_⟩:=hk
     obtain⟨g,l',hm,hB,hg,hr⟩:=H.ob l _ hl
     rw[hm]
     exact fin (lookup_run C.tok ht rfl hei hz hb.2 hb.1 hg hr ok) h
   ·exact h.elim
  ·exact h.elim
 ·exact h.elim
end
end
section
section
variable {P:Program} {T:TyTab} {w:World} {m:Nat→Value} {kk:Nat→Nat}
variable {B0:Nat→Prop} {F0:Nat→Prop} {w0:World} {σ:List (Nat×AO)}
theorem yieldK_sound (C:Ctx P T) (H:Heap B0 F0 w0 σ m kk w) {lk:Operand→Option AV} {ρ:Operand→Value}
  (hl:∀ x v,lk x=some v→v.rel w (Fc F0 B0 σ m) m kk (ρ x)) {W:Prop→Prop} (hW:∀ p,W p→p) {o:Oper} {K:AV→Prop} (h:yieldK T lk σ W o.op K) :
  ∃ r z,K r∧r.rel w (Fc F0 B0 σ m) m kk z∧(execOp ρ o).run P w=.ok (.value z) w:=by
 unfold yieldK at h
 split at h
 ·rename_i x ho
  split at h
  ·rename_i v hv
   exact⟨v,ρ x,h,hl x v hv,by simp[execOp,ho]⟩
  ·exact h.elim
 ·rename_i x ho
  split at h
  ·rename_i v hv
   exact⟨v,ρ x,h,hl x v hv,by simp[execOp,ho]⟩
  ·exact h.elim
 ·rename_i t a ho
  split at h
  ·rename_i ti p ht hp
   obtain⟨r,z,hk,hr,hrun⟩:=loadK_sound C.tok H ht h (hl a p hp)
   exact⟨r,z,hk,hr,by simp[execOp,ho,hrun]⟩
  ·exact h.elim
 ·rename_i s x f ho
  split at h
  ·rename_i p hp
   obtain⟨r,z,hk,hr,hrun⟩:=fieldAddrK_sound C.tok h (hl x p hp)
   exact⟨r,z,hk,hr,by simp[execOp,ho,hrun]⟩
  ·exact h.elim
 ·rename_i s x f ho
  split at h
  ·rename_i p hp
   obtain⟨r,z,hk,hr,hrun⟩:=fieldK_sound C.tok h (hl x p hp)
   exact⟨r,z,hk,hr,by simp[execOp,ho,hrun]⟩
  ·exact h.elim
 ·rename_i t x i ho
  split at h
  ·rename_i v j hv hj
   obtain⟨r,z,hk,hr,hrun⟩:=indexAddrK_sound C.tok H hW h (hl x v hv) (hl i j hj)
   exact⟨r,z,hk,hr,by simp[execOp,ho,hrun]⟩
  ·exact h.elim
 ·rename_i t x i ho
  split at h
  ·rename_i v j hv hj
   obtain⟨r,z,hk,hr,hrun⟩:=indexK_sound C.tok hW h (hl x v hv) (hl i j hj)
   exact⟨r,z,hk,hr,by simp[execOp,ho,hrun]⟩
  ·exact h.elim
 ·rename_i op t x y yt ho
  split at h
  ·rename_i a b ha hb
   obtain⟨r,z,hk,hr,hrun⟩:=binK_sound C H hW x y h (hl x a ha) (hl y b hb)
   refine⟨r,z,hk,hr,?_⟩
   simp only[execOp,ho,Sem.run_bind,hrun,Result.andThen_ok,Sem.run_pure]
  ·exact h.elim
 ·rename_i op t x ho
  split at h
  ·rename_i v hv
   obtain⟨r,z,hk,hr,hrun⟩:=unK_sound (P:=P) h (hl x v hv)
   exact⟨r,z,hk,hr,by simp[execOp,ho,hrun]⟩
  ·exact h.elim
 ·rename_i t x k ok ho
  split at h
  ·rename_i v j hv hj
   obtain⟨r,z,hk,hr,hrun⟩:=lookupK_sound C H hW h (hl x v hv) (hl k j hj)
   exact⟨r,z,hk,hr,by simp[execOp,ho,hrun]⟩
  ·exact h.elim
 ·rename_i src dst x ho
  split at h
  ·rename_i si d sz by' z q k n hsi hdi hx
   obtain⟨d1,hd1,hun1⟩:=C.tok.under (w:=w) hsi
   obtain⟨d2,hd2,hun2⟩:=C.tok.under (w:=w) hdi
   simp only[Ty.fits] at hd2;subst hd2
   have:=hl x _ hx
   simp only[AV.rel,TV.rel] at this
   obtain⟨hx',_⟩:=this
   refine⟨_,_,h,rel_v rfl,?_⟩
   simp only[execOp,ho,Sem.run_bind,convert,hun1,hun2,Result.andThen_ok,hx',Conv.intToInt,Sem.run_pure]
  ·exact h.elim
 ·rename_i x i ho
  split at h
  ·rename_i v hv
   obtain⟨r,z,hk,hr,hrun⟩:=extractK_sound (P:=P) h (hl x v hv)
   exact⟨r,z,hk,hr,by simp[execOp,ho,hrun]⟩
  ·exact h.elim
 ·rename_i t parts ho
  obtain⟨r,z,hk,hr,hrun⟩:=buildK_sound C.tok hl h
  exact⟨r,z,hk,hr,by simp[execOp,ho,hrun]⟩
 ·rename_i x ho
  split at h
  ·rename_i l off hx
   have hr:=hl x _ hx
   have hr':=hr
   simp only[AV.rel] at hr'
   obtain⟨g,_,he⟩:=hr'
   exact⟨_,_,h,hr,by simp[execOp,ho,he]⟩
  ·rename_i l i j hx
   have hr:=hl x _ hx
   have hr':=hr
   simp only[AV.rel] at hr'
   obtain⟨g,n,c,_,he⟩:=hr'
   exact⟨_,_,h,hr,by simp[execOp,ho,he]⟩
  ·rename_i cs hx
   have hr:=hl x _ hx
   have hr':=hr
   simp only[AV.rel,TV.rel] at hr'
   obtain⟨a,us,he,_⟩:=hr'
   exact⟨_,_,h,hr,by simp[execOp,ho,he]⟩
  ·rename_i f cs hx
   have hr:=hl x _ hx
   have hr':=hr
   simp only[AV.rel,TV.rel] at hr'
   obtain⟨us,he,_⟩:=hr'
   exact⟨_,_,h,hr,by simp[execOp,ho,he]⟩
  ·rename_i f cs hx
   have hr:=hl x _ hx
   have hr':=hr
   simp only[AV.rel] at hr'
   obtain⟨us,he,_⟩:=hr'
   exact⟨_,_,h,hr,by simp[execOp,ho,he]⟩
  ·exact h.elim
 ·rename_i f first caps ho
  split at h
  ·rename_i cs hf hcs
   have hrel:=lkAll_rel hl _ _ hcs
   have hfirst:first=#[]:=by simpa using hf
   have:=rel_mkFn (f:=f) hrel
   refine⟨_,_,h,this,?_⟩
   have hc:caps.map ρ=(caps.toList.map ρ).toArray:=by rw[←Array.toList_map]
   simp[execOp,ho,hfirst,Instr.makeFunc,hc]
  ·exact h.elim
 ·rename_i t x ho
  split at h
  ·exact h.elim
  ·rename_i ti v hnot ht hx
   obtain⟨d,hd,hun⟩:=C.tok.under (w:=w) ht
   have hr:=hl x _ hx
   simp only[AV.rel] at hr
   refine⟨_,.iface t (ρ x),h,by simp only[AV.rel,TV.rel];exact⟨_,rfl,hr⟩,?_⟩
   have:∀ a,d≠.interface a:=by
    intro a e
    subst e
    obtain⟨dd,s1,s2,s3,s4⟩:=ti
    cases dd <;> simp only[Ty.fits] at hd <;> first | (cases hd;done) | (obtain⟨_,h⟩:=hd;cases h;done) | (obtain⟨_,h,_⟩:=hd;cases h;done) | (obtain⟨_,_,_,h⟩:=hd;cases h;done) | skip
    exact hnot _ _ _ _ rfl
   simp only[execOp,ho,Sem.run_bind,Instr.makeInterface,hun,Result.andThen_ok]
   cases d <;> first | rfl | (exact absurd rfl (this _))
  ·exact h.elim
 ·rename_i t x lo hi mx ho
  split at h
  ·rename_i v hv
   obtain⟨r,z,hk,hr,hrun⟩:=sliceK_sound C.tok H hl hW h (hl x v hv)
   exact⟨r,z,hk,hr,by simp[execOp,ho,hrun]⟩
  ·exact h.elim
 ·rename_i as ts ho
  split at h
  ·rename_i x t hx ht
   have hrel:=lkAll_rel hl _ _ hx
   simp only[AV.relL] at hrel
   obtain⟨u,_,he,hu,rfl⟩:=hrel
   obtain⟨r,z,hk,hr,hrun⟩:=lenK_sound (ty:=o.type) C.tok H h hu
   have hts:ts=#[t]:=by rw[←Array.toArray_toList (xs:=ts),ht]
   have has:as.map ρ=#[u]:=by
    rw[←Array.toArray_toList (xs:=as.map ρ),Array.toList_map,he]
   refine⟨r,z,hk,hr,?_⟩
   simp[execOp,ho,resolve,has,hts,invoke,builtin,hrun]
  ·exact h.elim
 ·rename_i as ts ho
  split at h
  ·rename_i xs hx
   have hrel:=lkAll_rel hl _ _ hx
   obtain⟨r,z,hk,hr,hrun⟩:=maxMinK_sound (P:=P) h hrel ts o.type
   refine⟨r,z,hk,hr,?_⟩
   have has:(as.toList.map ρ).toArray=as.map ρ:=by rw[←Array.toList_map]
   rw[has] at hrun
   simp only[if_true] at hrun
   simp[execOp,ho,resolve,invoke,builtin,hrun]
  ·exact h.elim
 ·rename_i as ts ho
  split at h
  ·rename_i xs hx
   have hrel:=lkAll_rel hl _ _ hx
   obtain⟨r,z,hk,hr,hrun⟩:=maxMinK_sound (P:=P) h hrel ts o.type
   refine⟨r,z,hk,hr,?_⟩
   have has:(as.toList.map ρ).toArray=as.map ρ:=by rw[←Array.toList_map]
   rw[has] at hrun
   simp only[Bool.false_eq_true,if_false] at hrun
   simp[execOp,ho,resolve,invoke,builtin,hrun]
  ·exact h.elim
 ·exact h.elim
end
end
section
omit [Gm] in
theorem Keeps.below {B:Nat} {w w':World} {F F':Nat→Prop} (hb:Below B w w') (hs:w.heap.size≤B) (hF:∀ b,F b→b<w.heap.size→F' b):Keeps w F w' F' :=
 fun b hf hlt=>⟨hF b hf hlt,hb.block b (by omega)⟩
mutual
def AV.free (l:Nat):AV→Bool
 | .t _=>true
 | .ptr l' _=>!Nat.beq l l'
 | .rp l' _ _=>!Nat.beq l l'
 | .sl l'=>!Nat.beq l l'
 | .sb l' _ _=>!Nat.beq l l'
 | .agg cs=>AV.freeL l cs
 | .tup vs=>AV.freeL l vs
 | .fn _ caps=>AV.freeL l caps
 | .junk=>true
def AV.freeL (l:Nat):List AV→Bool
 | []=>true
 | c::cs=>c.free l&&AV.freeL l cs
end
omit [Gm] in
theorem nat_beq_false {a b:Nat} (h:(!Nat.beq a b)=true):a≠b:=by
 intro e;subst e;simp at h
mutual
theorem AV.rel_keep {w w':World} {F F':Nat→Prop} {m m':Nat→Value} {kk kk':Nat→Nat} {l:Nat} (hk:Keeps w F w' F') (hm:∀ l',l'≠l→m' l'=m l'∧kk' l'=kk l') :
  ∀ (x:AV) (y:Value),x.free l=true→x.rel w F m kk y→x.rel w' F' m' kk' y
 | .t x,y,_,h=>by simp only[AV.rel] at h ⊢;exact TV.rel_keep hk x y h
 | .ptr l' off,y,hf,h=>by
  simp only[AV.free] at hf
  simp only[AV.rel] at h ⊢
  rw[(hm l' (Ne.symm (nat_beq_false hf))).1];exact h
 | .rp l' i j,y,hf,h=>by
  simp only[AV.free] at hf
  simp only[AV.rel] at h ⊢
  have:=hm l' (Ne.symm (nat_beq_false hf))
  rw[this.1,this.2];exact h
 | .sl l',y,hf,h=>by
  simp only[AV.free] at hf
  simp only[AV.rel] at h ⊢
  rw[(hm l' (Ne.symm (nat_beq_false hf))).1];exact h
 | .sb l' i n,y,hf,h=>by
  simp only[AV.free] at hf
  simp only[AV.rel] at h ⊢
  have:=hm l' (Ne.symm (nat_beq_false hf))
  rw[this.1,this.2];exact h
 | .agg cs,y,hf,h=>by
  simp only[AV.free] at hf
  simp only[AV.rel] at h ⊢
  obtain⟨us,h1,h2,h3⟩:=h
  exact⟨us,h1,AV.relL_keep hk hm cs us hf h2,h3⟩
 | .tup vs,y,hf,h=>by
  simp only[AV.free] at hf
  simp only[AV.rel] at h ⊢
  obtain⟨us,h1,h2⟩:=h
  exact⟨us,h1,AV.relL_keep hk hm vs us hf h2⟩
 | .fn f caps,y,hf,h=>by
  simp only[AV.free] at hf
  simp only[AV.rel] at h ⊢
  obtain⟨us,h1,h2⟩:=h
  exact⟨us,h1,AV.relL_keep hk hm caps us hf h2⟩
 | .junk,y,_,_=>by simp only[AV.rel]
theorem AV.relL_keep {w w':World} {F F':Nat→Prop} {m m':Nat→Value} {kk kk':Nat→Nat} {l:Nat} (hk:Keeps w F w' F') (hm:∀ l',l'≠l→m' l'=m l'∧kk' l'=kk l') :
  ∀ (xs:List AV) (us:List Value),AV.freeL l xs=true→AV.relL w F m kk xs us→AV.relL w' F' m' kk' xs us
 | [],us,_,h=>by simpa only[AV.relL] using h
 | c::cs,us,hf,h=>by
  simp only[AV.freeL,Bool.and_eq_true] at hf
  simp only[AV.relL] at h ⊢
  obtain⟨u,us',h1,h2,h3⟩:=h
  exact⟨u,us',h1,AV.rel_keep hk hm c u hf.1 h2,AV.relL_keep hk hm cs us' hf.2 h3⟩
end
mutual
theorem AV.rel_same {w w':World} {F F':Nat→Prop} {m:Nat→Value} {kk:Nat→Nat} (hk:Keeps w F w' F') :
  ∀ (x:AV) (y:Value),x.rel w F m kk y→x.rel w' F' m kk y
 | .t x,y,h=>by simp only[AV.rel] at h ⊢;exact TV.rel_keep hk x y h
 | .ptr l' off,y,h=>by simpa only[AV.rel] using h
 | .rp l' i j,y,h=>by simpa only[AV.rel] using h
 | .sl l',y,h=>by simpa only[AV.rel] using h
 | .sb l' i n,y,h=>by simpa only[AV.rel] using h
 | .agg cs,y,h=>by
  simp only[AV.rel] at h ⊢
  obtain⟨us,h1,h2,h3⟩:=h
  exact⟨us,h1,AV.relL_same hk cs us h2,h3⟩
 | .tup vs,y,h=>by
  simp only[AV.rel] at h ⊢
  obtain⟨us,h1,h2⟩:=h
  exact⟨us,h1,AV.relL_same hk vs us h2⟩
 | .fn f caps,y,h=>by
  simp only[AV.rel] at h ⊢
  obtain⟨us,h1,h2⟩:=h
  exact⟨us,h1,AV.relL_same hk caps us h2⟩
 | .junk,y,_=>by simp only[AV.rel]
theorem AV.relL_same {w w':World} {F F':Nat→Prop} {m:Nat→Value} {kk:Nat→Nat} (hk:Keeps w F w' F') :
  ∀ (xs:List AV) (us:List Value),AV.relL w F m kk xs us→AV.relL w' F' m kk xs us
 | [],us,h=>by simpa only[AV.relL] using h
 | c::cs,us,h=>by
  simp only[AV.relL] at h ⊢
  obtain⟨u,us',h1,h2,h3⟩:=h
  exact⟨u,us',h1,AV.rel_same hk c u h2,AV.relL_same hk cs us' h3⟩
end
def AV.kill (l:Nat) (x:AV):AV:=bif x.free l then x else .junk
def MO.kill (l:Nat):MO→MO
 | .it q seen n=>bif Nat.beq l q then .dead else .it q seen n
 | x=>x
def MO.free (l:Nat):MO→Bool
 | .it q _ _=>!Nat.beq l q
 | _=>true
def AO.kill (l:Nat):AO→AO
 | .var cs=>.var (cs.map (AV.kill l))
 | .row e k es=>.row e k es
 | .mo x=>.mo (x.kill l)
def killF (l:Nat) (φ:List (Nat×AV)):List (Nat×AV):=φ.map fun p=>(p.1,p.2.kill l)
def killS (l:Nat) (σ:List (Nat×AO)):List (Nat×AO):=(σ.filter fun p=>!Nat.beq p.1 l).map fun p=>(p.1,p.2.kill l)
def freeF (l:Nat):List (Nat×AV)→Bool
 | []=>true
 | (_,v)::r=>v.free l&&freeF l r
def AO.free (l:Nat):AO→Bool
 | .var cs=>AV.freeL l cs
 | .row ..=>true
 | .mo x=>x.free l
def freeS (l:Nat):List (Nat×AO)→Bool
 | []=>true
 | (k,o)::r=>!Nat.beq k l&&o.free l&&freeS l r
def killFK (l:Nat) (K:List (Nat×AV)→Prop):List (Nat×AV)→Prop
 | []=>K []
 | (k,v)::r=>bif v.free l then killFK l (fun r'=>K ((k,v)::r')) r else killFK l (fun r'=>K ((k,.junk)::r')) r
def killLK (l:Nat) (K:List AV→Prop):List AV→Prop
 | []=>K []
 | v::r=>bif v.free l then killLK l (fun r'=>K (v::r')) r else killLK l (fun r'=>K (.junk::r')) r
def killSK (l:Nat) (K:List (Nat×AO)→Prop):List (Nat×AO)→Prop
 | []=>K []
 | (k,o)::r=>bif Nat.beq k l then killSK l K r else match o with
  | .var cs=>bif AV.freeL l cs then killSK l (fun r'=>K ((k,.var cs)::r')) r else killLK l (fun cs'=>killSK l (fun r'=>K ((k,.var cs')::r')) r) cs
  | .row e q es=>killSK l (fun r'=>K ((k,.row e q es)::r')) r
  | .mo (.it q seen n)=>bif Nat.beq l q then killSK l (fun r'=>K ((k,.mo .dead)::r')) r else killSK l (fun r'=>K ((k,.mo (.it q seen n))::r')) r
  | .mo (.map s es)=>killSK l (fun r'=>K ((k,.mo (.map s es))::r')) r
  | .mo (.sit s p)=>killSK l (fun r'=>K ((k,.mo (.sit s p))::r')) r
  | .mo .dead=>killSK l (fun r'=>K ((k,.mo .dead)::r')) r
def killK (l:Nat) (φ:List (Nat×AV)) (σ:List (Nat×AO)) (K:List (Nat×AV)→List (Nat×AO)→Prop):Prop :=
 bif freeF l φ&&freeS l σ then K φ σ else killFK l (fun φ'=>killSK l (fun σ'=>K φ' σ') σ) φ
omit [Gm] in
theorem killFK_eq (l:Nat):∀ (φ:List (Nat×AV)) (K:List (Nat×AV)→Prop),killFK l K φ=K (killF l φ)
 | [],_=>rfl
 | (k,v)::r,K=>by
  simp only[killFK,killFK_eq l r]
  show _=K ((k,v.kill l)::killF l r)
  unfold AV.kill
  cases v.free l <;> rfl
omit [Gm] in
theorem killLK_eq (l:Nat):∀ (cs:List AV) (K:List AV→Prop),killLK l K cs=K (cs.map (AV.kill l))
 | [],_=>rfl
 | v::r,K=>by
  simp only[killLK,killLK_eq l r,List.map_cons]
  unfold AV.kill
  cases v.free l <;> rfl
omit [Gm] in
theorem kill_freeL (l:Nat):∀ {cs:List AV},AV.freeL l cs=true→cs.map (AV.kill l)=cs
 | [],_=>rfl
 | v::r,h=>by
  simp only[AV.freeL,Bool.and_eq_true] at h
  rw[List.map_cons,kill_freeL l h.2]
  unfold AV.kill
  rw[h.1];rfl
omit [Gm] in
theorem killSK_eq (l:Nat):∀ (σ:List (Nat×AO)) (K:List (Nat×AO)→Prop),killSK l K σ=K (killS l σ)
 | [],_=>rfl
 | (k,o)::r,K=>by
  have e:killS l ((k,o)::r)=if Nat.beq k l=true then killS l r else (k,o.kill l)::killS l r:=by
   unfold killS
   rw[List.filter_cons]
   cases Nat.beq k l <;> simp
  rw[e]
  simp only[killSK]
  cases hk:Nat.beq k l with
  | true=>simp only[cond_true,if_true];exact killSK_eq l r K
  | false =>
   simp only[cond_false,Bool.false_eq_true,if_false]
   cases o with
   | row e q es=>simp only[killSK_eq l r];rfl
   | mo x =>
    cases x with
    | it q seen n=>simp only[killSK_eq l r,AO.kill,MO.kill];cases Nat.beq l q <;> rfl
    | map s es=>simp only[killSK_eq l r];rfl
    | sit s p=>simp only[killSK_eq l r];rfl
    | dead=>simp only[killSK_eq l r];rfl
   | var cs =>
    simp only[killLK_eq,killSK_eq l r,AO.kill]
    cases hf:AV.freeL l cs with
    | true=>simp only[cond_true,kill_freeL l hf]
    | false=>simp only[cond_false]
omit [Gm] in
theorem killF_free (l:Nat):∀ {φ:List (Nat×AV)},freeF l φ=true→killF l φ=φ
 | [],_=>rfl
 | (k,v)::r,h=>by
  simp only[freeF,Bool.and_eq_true] at h
  show (k,v.kill l)::killF l r=_
  rw[killF_free l h.2]
  unfold AV.kill
  rw[h.1];rfl
omit [Gm] in
theorem killS_free (l:Nat):∀ {σ:List (Nat×AO)},freeS l σ=true→killS l σ=σ
 | [],_=>rfl
 | (k,o)::r,h=>by
  simp only[freeS,Bool.and_eq_true,Bool.not_eq_true'] at h
  have e:killS l ((k,o)::r)=(k,o.kill l)::killS l r:=by
   unfold killS
   rw[List.filter_cons];simp[h.1.1]
  rw[e,killS_free l h.2]
  congr 2
  cases o with
  | row=>rfl
  | var cs=>simp only[AO.kill];rw[kill_freeL l h.1.2]
  | mo x =>
   have:=h.1.2
   cases x with
   | it q seen n =>
    simp only[AO.free,MO.free,Bool.not_eq_true'] at this
    simp only[AO.kill,MO.kill,this,cond_false]
   | map=>rfl
   | sit=>rfl
   | dead=>rfl
omit [Gm] in
theorem killK_eq (l:Nat) (φ:List (Nat×AV)) (σ:List (Nat×AO)) (K:List (Nat×AV)→List (Nat×AO)→Prop):killK l φ σ K=K (killF l φ) (killS l σ):=by
 unfold killK
 cases h:freeF l φ&&freeS l σ with
 | true =>
  simp only[Bool.and_eq_true] at h
  rw[cond_true,killF_free l h.1,killS_free l h.2]
 | false=>rw[cond_false,killFK_eq,killSK_eq]
theorem AV.rel_kill {w w':World} {F F':Nat→Prop} {m m':Nat→Value} {kk kk':Nat→Nat} {l:Nat} (hk:Keeps w F w' F') (hm:∀ l',l'≠l→m' l'=m l'∧kk' l'=kk l')
  {x:AV} {y:Value} (h:x.rel w F m kk y):(x.kill l).rel w' F' m' kk' y:=by
 unfold AV.kill
 cases hf:x.free l with
 | true=>exact AV.rel_keep hk hm x y hf h
 | false=>simp[AV.rel]
theorem AV.relL_kill {w w':World} {F F':Nat→Prop} {m m':Nat→Value} {kk kk':Nat→Nat} {l:Nat} (hk:Keeps w F w' F') (hm:∀ l',l'≠l→m' l'=m l'∧kk' l'=kk l') :
  ∀ {xs:List AV} {us:List Value},AV.relL w F m kk xs us→AV.relL w' F' m' kk' (xs.map (AV.kill l)) us
 | [],us,h=>by simpa only[AV.relL,List.map_nil] using h
 | c::cs,us,h=>by
  simp only[AV.relL,List.map_cons] at h ⊢
  obtain⟨u,us',h1,h2,h3⟩:=h
  exact⟨u,us',h1,AV.rel_kill hk hm h2,AV.relL_kill hk hm h3⟩
omit [Gm] in
theorem look_killF (l t:Nat):∀ (φ:List (Nat×AV)),look t (killF l φ)=(look t φ).map (AV.kill l)
 | []=>rfl
 | (k,v)::r=>by
  show look t ((k,v.kill l)::killF l r)=_
  rw[look_cons,look_cons,look_killF l t r]
  split <;> rfl
omit [Gm] in
theorem look_filter {α:Type} (l t:Nat):∀ (σ:List (Nat×α)),look t (σ.filter fun p=>!Nat.beq p.1 l)=if t=l then none else look t σ
 | []=>by simp[look]
 | (k,v)::r=>by
  rw[List.filter_cons]
  cases hk:Nat.beq k l with
  | true =>
   have:=Nat.eq_of_beq_eq_true hk
   subst this
   simp only[Bool.not_true,Bool.false_eq_true,if_false]
   rw[look_filter k t r,look_cons]
   by_cases h:t=k <;> simp[h]
  | false =>
   have hne:k≠l:=by intro e;subst e;simp at hk
   simp only[Bool.not_false,if_true]
   rw[look_cons,look_cons,look_filter l t r]
   by_cases h:t=k
   ·subst h;simp[hne]
   ·simp[h]
omit [Gm] in
theorem look_map {α β:Type} (f:α→β) (t:Nat):∀ (σ:List (Nat×α)),look t (σ.map fun p=>(p.1,f p.2))=(look t σ).map f
 | []=>rfl
 | (k,v)::r=>by
  rw[List.map_cons,look_cons,look_cons,look_map f t r]
  split <;> rfl
omit [Gm] in
theorem look_killS (l t:Nat) (σ:List (Nat×AO)):look t (killS l σ)=if t=l then none else (look t σ).map (AO.kill l):=by
 unfold killS
 rw[look_map,look_filter]
 split <;> rfl
section
variable {w w':World} {B0:Nat→Prop} {F0:Nat→Prop} {w0:World} {σ:List (Nat×AO)} {m:Nat→Value} {kk:Nat→Nat}
omit [Gm] in
theorem ownsRow_ownBlock_obk (v:Value):(∃ A n c,v=.slice A n c)→v.ownBlock=obk v:=by
 rintro⟨A,n,c,rfl⟩;cases A <;> rfl
omit [Gm] in
theorem ownsRow_slice {base:Nat} {e:TypeId} {size n:Nat} {v:Value} {xs:List Value} (h:w.ownsRow base e size v n xs):∃ A c,v=.slice A n c:=by
 rcases h.2 with⟨rfl,rfl⟩ | ⟨g,cap,cur,rfl,_⟩
 ·exact⟨none,0,rfl⟩
 ·exact⟨_,_,rfl⟩
omit [Gm] in
theorem MO.rel_keep {F F':Nat→Prop} {l:Nat} {x:MO} (hk:Keeps w F w' F') (hb:∀ g,obk (m l)=some g→w'.heap[g]?=w.heap[g]?)
  (h:x.rel w F m B0 l):x.rel w' F' m B0 l:=by
 cases x with
 | map str es =>
  obtain⟨g,l',h1,h2,h3,h4⟩:=h
  exact⟨g,l',h1,h2,by rw[hb g (by rw[h1];rfl)];exact h3,MR_keep hk h4⟩
 | it q seen n =>
  obtain⟨g,g',h1,h2,h3,h4⟩:=h
  exact⟨g,g',h1,h2,h3,by rw[hb g (by rw[h1];rfl)];exact h4⟩
 | sit s p =>
  obtain⟨g,h1,h2,h3⟩:=h
  exact⟨g,h1,h2,by rw[hb g (by rw[h1];rfl)];exact h3⟩
 | dead =>
  intro g hg
  obtain⟨h1,h2⟩:=h g hg
  refine⟨h1,?_⟩
  have:=hb g hg
  rw[Array.getElem?_eq_getElem h2] at this
  exact (Array.getElem?_eq_some_iff.1 this).1
theorem AO.rel_keep {F F':Nat→Prop} {l:Nat} {o:AO} (hk:Keeps w F w' F') (hb:∀ g,obk (m l)=some g→w'.heap[g]?=w.heap[g]?)
  (h:o.rel w F m kk B0 l):o.rel w' F' m kk B0 l:=by
 cases o with
 | var cs =>
  obtain⟨g,us,t,h1,h2,h3,h4,h5⟩:=h
  exact⟨g,us,t,h1,h2,by rw[hb g (by rw[h1];rfl)];exact h3,AV.relL_same hk cs us h4,h5⟩
 | row e k es =>
  obtain⟨us,h1,h2,h3,h4,h5⟩:=h
  refine⟨us,?_,TV.relR_keep hk k es us h2,h3,h4,h5⟩
  refine⟨⟨h1.1.1,?_⟩,h1.2⟩
  rcases h1.1.2 with hn | ⟨g,cap,cur,hv,hB,hg,rest⟩
  ·exact .inl hn
  ·exact .inr ⟨g,cap,cur,hv,hB,by rw[hb g (by rw[hv];rfl)];exact hg,rest⟩
 | mo x=>exact MO.rel_keep hk hb h
omit [Gm] in
theorem AO.blk_lt {F:Nat→Prop} {l:Nat} {o:AO} (h:o.rel w F m kk B0 l) {g:Nat} (hg:obk (m l)=some g):B0 g∧g<w.heap.size:=by
 cases o with
 | var cs =>
  obtain⟨g',us,t,h1,h2,h3,_⟩:=h
  rw[h1] at hg;simp[obk] at hg;subst hg
  exact⟨h2,(Array.getElem?_eq_some_iff.1 h3).1⟩
 | row e k es =>
  obtain⟨us,h1,_⟩:=h
  have hO:=h1.2 g hg
  rcases h1.1.2 with⟨hn,_⟩ | ⟨g',cap,cur,hv,hB,hg',_⟩
  ·rw[hn] at hg;simp[obk] at hg
  ·rw[hv] at hg;simp[obk] at hg;subst hg
   exact⟨hO,(Array.getElem?_eq_some_iff.1 hg').1⟩
 | mo x =>
  cases x with
  | map str es =>
   obtain⟨g',l',h1,h2,h3,h4⟩:=h
   rw[h1] at hg;simp[obk] at hg;subst hg
   exact⟨h2,(Array.getElem?_eq_some_iff.1 h3).1⟩
  | it q seen n =>
   obtain⟨g',g1,h1,h2,h3,h4⟩:=h
   rw[h1] at hg;simp[obk] at hg;subst hg
   exact⟨h2,(Array.getElem?_eq_some_iff.1 h4).1⟩
  | sit s p =>
   obtain⟨g',h1,h2,h3⟩:=h
   rw[h1] at hg;simp[obk] at hg;subst hg
   exact⟨h2,(Array.getElem?_eq_some_iff.1 h3).1⟩
  | dead=>exact h g hg
omit [Gm] in
theorem Kept.trans {O:Nat→Prop} {a b c:World} (h:Kept O a b) (os:c.os=b.os) (tape:c.tape=b.tape) (output:c.output=b.output) (size:b.heap.size≤c.heap.size) (block:∀ k,k<a.heap.size→¬ O k→c.heap[k]?=b.heap[k]?):Kept O a c :=
 ⟨os.trans h.os,tape.trans h.tape,output.trans h.output,Nat.le_trans h.size size,fun k hk ho=>(block k hk ho).trans (h.block k hk ho)⟩
omit [Gm] in
theorem Kept.below {O:Nat→Prop} {a b c:World} (h:Kept O a b) (hb:Below b.heap.size b c):Kept O a c :=
 h.trans hb.os hb.tape hb.output hb.size (fun k hk _=>hb.block k (Nat.lt_of_lt_of_le hk h.size))
omit [Gm] in
theorem Kept.to_below {B:Nat} {a b:World} (h:Kept (fun g=>B≤g) a b) (hB:B≤a.heap.size:=by exact Nat.le_refl _):Below B a b :=
 ⟨h.os,h.tape,h.output,h.size,fun k hk=>h.block k (Nat.lt_of_lt_of_le hk hB) (Nat.not_le.2 hk)⟩
omit [Gm] in
theorem ownAt_row {B:Nat} {w:World} {e:TypeId} {k n:Nat} {v:Value} {us:List Value} (h:ownAt w (fun g=>B≤g) e k v n us):w.ownsRow B e k v n us:=by
 refine⟨h.1.1,?_⟩
 rcases h.1.2 with hn | ⟨g,cap,cur,hv,hB,rest⟩
 ·exact .inl hn
 ·exact .inr ⟨g,cap,cur,hv,h.2 g (by rw[hv];rfl),rest⟩
theorem Heap.newB (H:Heap B0 F0 w0 σ m kk w):∀ g,w.heap.size≤g→B0 g:=fun g h=>H.base g (Nat.le_trans H.below.size h)
theorem Heap.grow (H:Heap B0 F0 w0 σ m kk w) (hb:Below w.heap.size w w'):Heap B0 F0 w0 σ m kk w':=by
 have hk:Keeps w (Fc F0 B0 σ m) w' (Fc F0 B0 σ m):=Keeps.below hb (Nat.le_refl _) (fun _ h _=>h)
 refine⟨H.base,H.below.below hb,H.gm,fun l o hl=>?_,H.dj⟩
 have h:=H.ob l o hl
 exact AO.rel_keep hk (fun g hg=>hb.block g (AO.blk_lt h hg).2) h
theorem Sim.grow {w0:PW} {N:Nat} {s:St} {a:Act} (S:Sim N B0 F0 w0 s m kk a w) (hb:Below w.heap.size w w'):Sim N B0 F0 w0 s m kk a w':=by
 refine⟨S.toHeap.grow hb,fun t v hv=>?_,S.df,S.sz,S.pn⟩
 exact AV.rel_same (Keeps.below hb (Nat.le_refl _) (fun _ h _=>h)) v _ (S.fr t v hv)
def upd {α:Type} (m:Nat→α) (l:Nat) (x:α):Nat→α:=fun l'=>if l'=l then x else m l'
omit [Gm] in
theorem upd_same {α:Type} (m:Nat→α) (l:Nat) (x:α):upd m l x l=x:=by simp[upd]
omit [Gm] in
theorem upd_ne {α:Type} (m:Nat→α) {l l':Nat} (x:α) (h:l'≠l):upd m l x l'=m l':=by simp[upd,h]
theorem Heap.lay (H:Heap B0 F0 w0 σ m kk w) (l:Nat) (x:Value) (k:Nat) (o:AO)
  (hblock:∀ b,b<w.heap.size→(∀ o',look l σ=some o'→obk (m l)≠some b)→w'.heap[b]?=w.heap[b]?)
  (hsize:w.heap.size≤w'.heap.size) (hos:w'.os=w.os) (htape:w'.tape=w.tape) (hout:w'.output=w.output)
  (hx:∀ g,obk x=some g→w.heap.size≤g∨(∃ o',look l σ=some o'∧obk (m l)=some g))
  (ho:o.rel w' (Fc F0 B0 ((l,o)::killS l σ) (upd m l x)) (upd m l x) (upd kk l k) B0 l) :
  Heap B0 F0 w0 ((l,o)::killS l σ) (upd m l x) (upd kk l k) w'∧Keeps w (Fc F0 B0 σ m) w' (Fc F0 B0 ((l,o)::killS l σ) (upd m l x)):=by
 have hlook:∀ l' o',look l' ((l,o)::killS l σ)=some o'→(l'=l∧o'=o)∨(l'≠l∧∃ o'',look l' σ=some o''∧o'=o''.kill l):=by
  intro l' o' h
  rw[look_cons] at h
  by_cases hl:l'=l
  ·simp[hl] at h;exact .inl ⟨hl,h.symm⟩
  ·simp only[hl,if_false,look_killS] at h
   cases hq:look l' σ with
   | none=>simp[hq] at h
   | some o''=>simp[hq] at h;exact .inr ⟨hl,o'',rfl,h.symm⟩
 have hk:Keeps w (Fc F0 B0 σ m) w' (Fc F0 B0 ((l,o)::killS l σ) (upd m l x)):=by
  intro b hb hlt
  refine⟨⟨hb.1,?_⟩,hblock b hlt (fun o' ho'=>hb.2 l o' ho')⟩
  intro l' o' hl'
  rcases hlook l' o' hl' with⟨rfl,_⟩ | ⟨hne,o'',h1,_⟩
  ·rw[upd_same]
   intro e
   rcases hx b e with h | ⟨o',h1,h2⟩
   ·omega
   ·exact hb.2 l' o' h1 h2
  ·rw[upd_ne _ _ hne];exact hb.2 l' o'' h1
 have hm:∀ l',l'≠l→upd m l x l'=m l'∧upd kk l k l'=kk l':=fun l' h=>⟨upd_ne _ _ h,upd_ne _ _ h⟩
 have hold:∀ l' o'',l'≠l→look l' σ=some o''→∀ g,obk (m l')=some g→w'.heap[g]?=w.heap[g]?:=by
  intro l' o'' hne hl' g hg
  refine hblock g (AO.blk_lt (H.ob l' o'' hl') hg).2 (fun o' ho' e=>?_)
  rcases H.dj l' l o'' o' hl' ho' hne with h | h
  ·rw[h] at hg;cases hg
  ·exact h (hg.trans e.symm)
 refine⟨⟨H.base,?_,H.gm,?_,?_⟩,hk⟩
 ·refine H.below.trans hos htape hout hsize (fun b hb hno=>hblock b (Nat.lt_of_lt_of_le hb H.below.size) (fun o' ho' e=>?_))
  exact hno (AO.blk_lt (H.ob l o' ho') e).1
 ·intro l' o' hl'
  rcases hlook l' o' hl' with⟨rfl,rfl⟩ | ⟨hne,o'',h1,rfl⟩
  ·exact ho
  ·have h:=H.ob l' o'' h1
   cases o'' with
   | var cs =>
    obtain⟨g,us,t,h2,h3,h4,h5,h6⟩:=h
    refine⟨g,us,t,by rw[(hm l' hne).1];exact h2,h3,?_,AV.relL_kill hk hm h5,h6⟩
    rw[hold l' _ hne h1 g (by rw[h2];rfl)];exact h4
   | row e k' es =>
    have h':=AO.rel_keep (o:=.row e k' es) hk (hold l' _ hne h1) h
    obtain⟨us,h2,h3,h4,h5,h6⟩:=h'
    exact⟨us,by rw[(hm l' hne).1];exact h2,h3,h4,h5,by rw[(hm l' hne).2];exact h6⟩
   | mo y =>
    have h':=MO.rel_keep hk (hold l' _ hne h1) h
    cases y with
    | map str es =>
     obtain⟨g,l2,h2,h3,h4,h5⟩:=h'
     exact⟨g,l2,by rw[(hm l' hne).1];exact h2,h3,h4,h5⟩
    | sit s p =>
     obtain⟨g,h2,h3,h4⟩:=h'
     exact⟨g,by rw[(hm l' hne).1];exact h2,h3,h4⟩
    | dead =>
     intro g hg
     rw[(hm l' hne).1] at hg
     exact h' g hg
    | it q seen n =>
     cases hq:Nat.beq l q with
     | true =>
      have e:(AO.mo (.it q seen n)).kill l=.mo .dead:=by simp only[AO.kill,MO.kill,hq,cond_true]
      rw[e]
      obtain⟨g,g',h2,h3,h4,h5⟩:=h'
      intro g2 hg2
      rw[(hm l' hne).1,h2] at hg2;simp[obk] at hg2;subst hg2
      exact⟨h3,(Array.getElem?_eq_some_iff.1 h5).1⟩
     | false =>
      have e:(AO.mo (.it q seen n)).kill l=.mo (.it q seen n):=by simp only[AO.kill,MO.kill,hq,cond_false]
      rw[e]
      obtain⟨g,g',h2,h3,h4,h5⟩:=h'
      have hql:q≠l:=by intro e';subst e';simp at hq
      exact⟨g,g',by rw[(hm l' hne).1];exact h2,h3,by rw[(hm q hql).1];exact h4,h5⟩
 ·intro l1 l2 o1 o2 h1 h2 hne
  have key:∀ l' o',l'≠l→look l' σ=some o'→obk (m l')=none∨obk (m l')≠obk x:=by
   intro l' o' hne' hl'
   cases hg:obk (m l') with
   | none=>exact .inl rfl
   | some g =>
    right;intro e
    rcases hx g e.symm with h | ⟨o'',h3,h4⟩
    ·have:=(AO.blk_lt (H.ob l' o' hl') hg).2;omega
    ·rcases H.dj l' l o' o'' hl' h3 hne' with h | h
     ·rw[h] at hg;cases hg
     ·exact h (hg.trans h4.symm)
  rcases hlook l1 o1 h1 with⟨rfl,_⟩ | ⟨hn1,o1',h1',_⟩ <;> rcases hlook l2 o2 h2 with⟨e2,_⟩ | ⟨hn2,o2',h2',_⟩
  ·exact absurd e2.symm hne
  ·rw[upd_same,upd_ne _ _ hn2]
   rcases key l2 o2' hn2 h2' with h | h
   ·cases hx':obk x with
    | none=>exact .inl rfl
    | some g=>rw[h];exact .inr (by simp)
   ·exact .inr (Ne.symm h)
  ·subst e2;rw[upd_same,upd_ne _ _ hn1];exact key l1 o1' hn1 h1'
  ·rw[upd_ne _ _ hn1,upd_ne _ _ hn2];exact H.dj l1 l2 o1' o2' h1' h2' hne
end
end
section
def mapO {α β:Type} (f:α→Option β):List α→Option (List β)
 | []=>some []
 | x::r=>match f x,mapO f r with | some y,some ys=>some (y::ys) | _,_=>none
def borrow (σ:List (Nat×AO)):Nat→AV→Option TV
 | 0,_=>none
 | n+1,x=>match x with
  | .t x=>some x
  | .ptr l off=>match look l σ with
   | some (.var cs)=>match mapO (borrow σ n) (cs.drop off) with | some xs=>some (.ptr xs) | none=>none
   | _=>none
  | .rp l i j=>match look l σ with
   | some (.row _ _ es)=>some (.ptr ((es.getD i []).drop j))
   | _=>none
  | .sl l=>match look l σ with
   | some (.row _ k es)=>some (.sl k es)
   | some (.mo (.map str es))=>some (.mp str es)
   | _=>none
  | .sb l i c=>match look l σ with
   | some (.row _ k es)=>bif Nat.ble (i+c) es.length then some (.sl k ((es.drop i).take c)) else none
   | _=>none
  | .agg cs=>match mapO (borrow σ n) cs with | some xs=>some (.agg xs) | none=>none
  | .tup vs=>match mapO (borrow σ n) vs with | some xs=>some (.tup xs) | none=>none
  | .fn f caps=>match mapO (borrow σ n) caps with | some xs=>some (.fn f xs) | none=>none
  | .junk=>none
def reach (σ:List (Nat×AO)):Nat→AV→List Nat
 | 0,_=>[]
 | n+1,x=>match x with
  | .t _ | .junk=>[]
  | .ptr l _=>match look l σ with
   | some (.var cs)=>l::cs.flatMap (reach σ n)
   | _=>[l]
  | .rp l _ _ | .sl l | .sb l _ _=>[l]
  | .agg cs | .tup cs | .fn _ cs=>cs.flatMap (reach σ n)
def mem (l:Nat):List Nat→Bool
 | []=>false
 | x::r=>Nat.beq l x||mem l r
def AV.frz (σ:List (Nat×AO)) (ls:List Nat) (x:AV):AV :=
 match x with
 | .t x=>.t x
 | x=>bif ls.all (fun l=>x.free l) then x else match borrow σ 8 x with
   | some y=>bif (reach σ 8 x).all (fun l=>mem l ls) then .t y else .junk
   | none=>.junk
def AO.frz (σ:List (Nat×AO)) (ls:List Nat):AO→AO
 | .var cs=>.var (cs.map (AV.frz σ ls))
 | o=>o
def St.frz (ls:List Nat) (s:St):St :=
 ⟨s.φ.map fun p=>(p.1,p.2.frz s.σ ls),(s.σ.filter fun p=>!mem p.1 ls).map fun p=>(p.1,p.2.frz s.σ ls)⟩
def St.freeze (s:St) (vs:List AV):Option (List TV×St) :=
 match allT vs with
 | some xs=>some (xs,s)
 | none=>match mapO (borrow s.σ 8) vs with
  | some xs=>some (xs,s.frz (vs.flatMap (reach s.σ 8)))
  | none=>none
def forceL (K:List Nat→Prop):List Nat→Prop
 | []=>K []
 | x::r=>forceL (fun r'=>K (x::r')) r
def sealFK (σ:List (Nat×AO)) (ls:List Nat) (K:List (Nat×AV)→Prop):List (Nat×AV)→Prop
 | []=>K []
 | (k,v)::r=>match v.frz σ ls with
  | .t x=>sealFK σ ls (fun r'=>K ((k,.t x)::r')) r
  | .junk=>sealFK σ ls (fun r'=>K ((k,.junk)::r')) r
  | v'=>sealFK σ ls (fun r'=>K ((k,v')::r')) r
def sealSK (σ:List (Nat×AO)) (ls:List Nat) (K:List (Nat×AO)→Prop):List (Nat×AO)→Prop
 | []=>K []
 | (k,o)::r=>bif mem k ls then sealSK σ ls K r else sealSK σ ls (fun r'=>K ((k,o.frz σ ls)::r')) r
def freezeK (s:St) (vs:List AV) (K:List TV→St→Prop):Prop :=
 match allT vs with
 | some xs=>K xs s
 | none=>match mapO (borrow s.σ 8) vs with
  | some xs=>forceL (fun ls=>sealFK s.σ ls (fun φ'=>sealSK s.σ ls (fun σ'=>K xs ⟨φ',σ'⟩) s.σ) s.φ) (vs.flatMap (reach s.σ 8))
  | none=>False
def freezeE (s:St) (vs:List AV) (K:List TV→St→Prop) (E:Prop):Prop :=
 match allT vs with
 | some xs=>K xs s
 | none=>match mapO (borrow s.σ 8) vs with
  | some xs=>forceL (fun ls=>sealFK s.σ ls (fun φ'=>sealSK s.σ ls (fun σ'=>K xs ⟨φ',σ'⟩) s.σ) s.φ) (vs.flatMap (reach s.σ 8))
  | none=>E
omit [Gm] in
theorem forceL_eq:∀ (ls:List Nat) (K:List Nat→Prop),forceL K ls=K ls
 | [],_=>rfl
 | x::r,K=>by simp only[forceL,forceL_eq r]
omit [Gm] in
theorem sealFK_eq (σ:List (Nat×AO)) (ls:List Nat):∀ (φ:List (Nat×AV)) (K:List (Nat×AV)→Prop),sealFK σ ls K φ=K (φ.map fun p=>(p.1,p.2.frz σ ls))
 | [],_=>rfl
 | (k,v)::r,K=>by
  simp only[sealFK,sealFK_eq σ ls r,List.map_cons]
  split <;> simp[*]
omit [Gm] in
theorem sealSK_eq (σ:List (Nat×AO)) (ls:List Nat):∀ (τ:List (Nat×AO)) (K:List (Nat×AO)→Prop),sealSK σ ls K τ=K ((τ.filter fun p=>!mem p.1 ls).map fun p=>(p.1,p.2.frz σ ls))
 | [],_=>rfl
 | (k,o)::r,K=>by
  simp only[sealSK,sealSK_eq σ ls r,List.filter_cons]
  cases mem k ls <;> simp
omit [Gm] in
theorem freezeK_spec {s:St} {vs:List AV} {K:List TV→St→Prop} (h:freezeK s vs K):∃ xs s',s.freeze vs=some (xs,s')∧K xs s':=by
 unfold freezeK at h
 split at h
 ·rename_i xs hx
  exact⟨xs,s,by unfold St.freeze;rw[hx],h⟩
 ·rename_i hx
  split at h
  ·rename_i xs hxs
   rw[forceL_eq,sealFK_eq,sealSK_eq] at h
   exact⟨xs,s.frz (vs.flatMap (reach s.σ 8)),by unfold St.freeze;rw[hx,hxs],h⟩
  ·exact h.elim
omit [Gm] in
theorem freezeE_spec {s:St} {vs:List AV} {K:List TV→St→Prop} {E:Prop} (h:freezeE s vs K E):(∃ xs s',s.freeze vs=some (xs,s')∧K xs s')∨E:=by
 unfold freezeE at h
 split at h
 ·rename_i xs hx
  exact .inl ⟨xs,s,by unfold St.freeze;rw[hx],h⟩
 ·rename_i hx
  split at h
  ·rename_i xs hxs
   rw[forceL_eq,sealFK_eq,sealSK_eq] at h
   exact .inl ⟨xs,s.frz (vs.flatMap (reach s.σ 8)),by unfold St.freeze;rw[hx,hxs],h⟩
  ·exact .inr h
def TV.plain:TV→Bool
 | .v _=>true
 | .tup []=>true
 | .tup [.v _,.v _]=>true
 | .tup [.v _,.v _,.v _]=>true
 | _=>false
def St.lay (s:St) (l:Nat) (o:AO):St:=⟨killF l s.φ,(l,o)::killS l s.σ⟩
def St.bind (s:St) (d:Option Tmp) (v:AV):St:=match d with | some d=>⟨(d,v)::s.φ,s.σ⟩ | none=>s
def PC (P:Program) (f:FuncId) (args:List TV) (r:TV):Prop :=
 ∀ (w:World) (F:Nat→Prop) (us:List Value),Gm.g w→(∀ b,F b→b<w.heap.size)→TV.relL w F args us →
  Calls P f us.toArray w fun e w'=>∃ v,e=.returned v∧Below w.heap.size w w'∧r.rel w' (fun b=>F b∨w.heap.size≤b) v
def OC (P:Program) (f:FuncId) (args:List TV) (e:TypeId) (k:Nat) (es:List (List TV)):Prop :=
 ∀ (w:World) (F:Nat→Prop) (us:List Value),Gm.g w→(∀ b,F b→b<w.heap.size)→TV.relL w F args us →
  Calls P f us.toArray w fun e' w'=>∃ v vs,e'=.returned v∧Below w.heap.size w w'∧0<k∧w'.ownsRow w.heap.size e k v es.length vs∧OneAll vs ∧
   TV.relR w' (fun b=>(F b∨w.heap.size≤b)∧obk v≠some b) k es vs
def MC (P:Program) (f:FuncId) (args:List TV) (str:Bool) (es:List (Value×TV)):Prop :=
 ∀ (w:World) (F:Nat→Prop) (us:List Value),Gm.g w→(∀ b,F b→b<w.heap.size)→TV.relL w F args us →
  Calls P f us.toArray w fun e' w'=>∃ g l,e'=.returned (.map (some g))∧Below w.heap.size w w'∧w.heap.size≤g∧w'.heap[g]?=some (.map l.toArray es.length) ∧
   MR w' (fun b=>(F b∨w.heap.size≤b)∧g≠b) str 0 es l
def IC (P:Program) (f:FuncId) (e:TypeId) (k:Nat) (es:List (List TV)) (args:List TV) (es':List (List TV)):Prop :=
 ∀ (w:World) (F:Nat→Prop) (v:Value) (vs us:List Value),(∀ w',Kept (fun g=>w.heap.size≤g∨obk v=some g) w w'→Gm.g w')→(∀ b,F b→b<w.heap.size)→0<k→w.ownsRow 0 e k v es.length vs→OneAll vs→TV.relR w F k es vs→TV.relL w F args us →
  (∀ g,obk v=some g→¬ F g) →
  Calls P f (v::us).toArray w fun en w'=>∃ v' vs',en=.returned v'∧Kept (fun g=>w.heap.size≤g∨obk v=some g) w w' ∧
   w'.ownsRow 0 e k v' es'.length vs'∧(∀ g,obk v'=some g→w.heap.size≤g∨obk v=some g)∧OneAll vs' ∧
   TV.relR w' (fun b=>(F b∨w.heap.size≤b∨obk v=some b)∧obk v'≠some b) k es' vs'
end
section
omit [Gm] in
theorem mem_spec {l:Nat}:∀ {ls:List Nat},mem l ls=true↔l∈ls
 | []=>by simp[mem]
 | x::r=>by
  simp only[mem,Bool.or_eq_true,List.mem_cons,mem_spec (ls:=r)]
  constructor
  ·rintro (h | h)
   ·exact .inl (Nat.eq_of_beq_eq_true h)
   ·exact .inr h
  ·rintro (rfl | h)
   ·left;simp
   ·exact .inr h
omit [Gm] in
theorem look_filterM {α:Type} (ls:List Nat) (t:Nat):∀ (σ:List (Nat×α)),look t (σ.filter fun p=>!mem p.1 ls)=if mem t ls=true then none else look t σ
 | []=>by simp[look]
 | (k,v)::r=>by
  rw[List.filter_cons]
  cases hk:mem k ls with
  | true =>
   simp only[Bool.not_true,Bool.false_eq_true,if_false]
   rw[look_filterM ls t r,look_cons]
   by_cases h:t=k
   ·subst h;simp[hk]
   ·simp[h]
  | false =>
   simp only[Bool.not_false,if_true]
   rw[look_cons,look_cons,look_filterM ls t r]
   by_cases h:t=k
   ·subst h;simp[hk]
   ·simp[h]
section
variable {w:World} {N:Nat} {B0:Nat→Prop} {F0:Nat→Prop} {w0:PW} {σ σ':List (Nat×AO)} {m:Nat→Value} {kk:Nat→Nat}
omit [Gm] in
theorem Fc.mono (h:∀ l o,look l σ'=some o→∃ o',look l σ=some o') {b:Nat} (hb:Fc F0 B0 σ m b):Fc F0 B0 σ' m b :=
 ⟨hb.1,fun l o hl=>by obtain⟨o',ho⟩:=h l o hl;exact hb.2 l o' ho⟩
omit [Gm] in
theorem keeps_mono {F F':Nat→Prop} (h:∀ b,F b→F' b):Keeps w F w F':=fun b hb _=>⟨h b hb,rfl⟩
omit [Gm] in
theorem mapO_sound {ls:List Nat} {F':Nat→Prop} {f:AV→Option TV} {r:AV→List Nat}
  (hf:∀ x y t,f x=some t→(∀ l∈r x,mem l ls=true)→x.rel w (Fc F0 B0 σ m) m kk y→t.rel w F' y) :
  ∀ (cs:List AV) (us:List Value) (xs:List TV),mapO f cs=some xs→(∀ l∈cs.flatMap r,mem l ls=true)→AV.relL w (Fc F0 B0 σ m) m kk cs us→TV.relL w F' xs us
 | [],us,xs,h,_,hr=>by simp only[mapO,Option.some.injEq] at h;subst h;simpa only[TV.relL,AV.relL] using hr
 | c::cs,us,xs,h,hl,hr=>by
  simp only[mapO] at h
  split at h
  ·rename_i y ys hy hys
   injection h with h;subst h
   simp only[AV.relL] at hr
   obtain⟨u,us',rfl,h1,h2⟩:=hr
   simp only[TV.relL]
   exact⟨u,us',rfl,hf c u y hy (fun l h=>hl l (by simp[h])) h1,mapO_sound hf cs us' ys hys (fun l h=>hl l (by simp only[List.flatMap_cons,List.mem_append];exact .inr h)) h2⟩
  ·cases h
theorem blk_free (H:Heap B0 F0 w0 σ m kk w) {ls:List Nat} {l g:Nat} {o:AO} (hl:look l σ=some o) (hm:mem l ls=true) (hg:obk (m l)=some g)
  (hsub:∀ l' o',look l' σ'=some o'→(∃ o'',look l' σ=some o'')∧mem l' ls≠true):Fc F0 B0 σ' m g:=by
 refine⟨.inr (AO.blk_lt (H.ob l o hl) hg).1,fun l' o' hl' e=>?_⟩
 obtain⟨⟨o'',h1⟩,h2⟩:=hsub l' o' hl'
 have hne:l≠l':=by intro e;subst e;exact h2 hm
 rcases H.dj l l' o o'' hl h1 hne with h | h
 ·rw[h] at hg;cases hg
 ·exact h (hg.trans e.symm)
theorem borrow_sound (H:Heap B0 F0 w0 σ m kk w) {ls:List Nat}
  (hsub:∀ l' o',look l' σ'=some o'→(∃ o'',look l' σ=some o'')∧mem l' ls≠true) :
  ∀ (n:Nat) (x:AV) (y:Value) (t:TV),borrow σ n x=some t→(∀ l∈reach σ n x,mem l ls=true)→x.rel w (Fc F0 B0 σ m) m kk y→t.rel w (Fc F0 B0 σ' m) y:=by
 have hk:Keeps w (Fc F0 B0 σ m) w (Fc F0 B0 σ' m):=keeps_mono fun b hb=>Fc.mono (fun l o h=>(hsub l o h).1) hb
 intro n
 induction n with
 | zero=>intro x y t h;simp[borrow] at h
 | succ n ih =>
  intro x y t h hr hx
  cases x with
  | t x =>
   simp only[borrow,Option.some.injEq] at h;subst h
   simp only[AV.rel] at hx
   exact TV.rel_keep hk x y hx
  | ptr l off =>
   simp only[borrow] at h
   split at h
   ·rename_i cs hl
    split at h
    ·rename_i xs hxs
     injection h with h;subst h
     simp only[AV.rel] at hx
     obtain⟨g,hm,rfl⟩:=hx
     obtain⟨g',us,t',hm',hB,hg,hrl,h1⟩:=H.ob l _ hl
     rw[hm] at hm';simp at hm';subst hm'
     have hml:mem l ls=true:=hr l (by simp[reach,hl])
     have hin:∀ l'∈(cs.drop off).flatMap (reach σ n),mem l' ls=true:=by
      intro l' hl'
      refine hr l' ?_
      simp only[reach,hl,List.mem_cons]
      right
      simp only[List.mem_flatMap] at hl' ⊢
      obtain⟨c,hc,h'⟩:=hl'
      exact⟨c,List.mem_of_mem_drop hc,h'⟩
     simp only[TV.rel]
     refine⟨_,us.drop off,rfl,mapO_sound (ls:=ls) ih _ _ _ hxs hin (AV.relL_drop _ hrl),fun u hu=>h1 u (List.mem_of_mem_drop hu),.inr ⟨?_,(cellsAt_block hg).drop off⟩⟩
     rw[add_block]
     exact blk_free H hl hml (by rw[hm];rfl) hsub
    ·cases h
   ·cases h
  | rp l i j =>
   simp only[borrow] at h
   split at h
   ·rename_i e k es hl
    injection h with h;subst h
    simp only[AV.rel] at hx
    obtain⟨g,n',c,hm,rfl⟩:=hx
    have hml:mem l ls=true:=hr l (by simp[reach])
    obtain⟨us,ho,hrr,h1,hk0,hkk⟩:=H.ob l _ hl
    simp only[TV.rel]
    cases he:es[i]? with
    | none =>
     refine⟨_,[],rfl,?_,fun u hu=>by simp at hu,.inl rfl⟩
     simp[List.getD,he,TV.relL]
    | some c' =>
     have hc':es.getD i []=c':=by simp[List.getD,he]
     obtain⟨hck,hrel⟩:=TV.relR_get hrr he
     rw[hc']
     refine⟨_,_,rfl,TV.relL_keep hk _ _ (TV.relL_drop j hrel),fun u hu=>h1 u (List.mem_of_mem_drop (List.mem_of_mem_take (List.mem_of_mem_drop hu))),.inr ⟨?_,?_⟩⟩
     ·rw[add_block];exact blk_free H hl hml (by rw[hm];rfl) hsub
     ·have hcell:CellsAt w ⟨g,0,none⟩ us:=ho.1.cells (g:=g) (by rw[hm];rfl)
      rw[hkk,←add_add]
      exact ((hcell.drop _).take _).drop _
   ·cases h
  | sl l =>
   simp only[borrow] at h
   split at h
   ·rename_i e k es hl
    injection h with h;subst h
    simp only[AV.rel] at hx
    obtain⟨rfl,_⟩:=hx
    have hml:mem l ls=true:=hr l (by simp[reach])
    obtain⟨us,ho,hrr,h1,hk0,hkk⟩:=H.ob l _ hl
    obtain⟨A,n',c,hm⟩:=owns_slice ho.1
    simp only[TV.rel]
    rcases ho.1.2 with⟨hn,hn0⟩ | ⟨g,cap,cur,hv,hB,hg,hnc,hcm,_⟩
    ·refine⟨none,0,us,by rw[hn,hn0],by omega,by simp[maxLen],hk0,TV.relR_keep hk k es us hrr,h1,.inl ?_⟩
     have:=TV.relR_length hrr
     rw[hn0,Nat.zero_mul] at this
     exact List.eq_nil_of_length_eq_zero this
    ·refine⟨_,cap,us,hv,hnc,hcm,hk0,TV.relR_keep hk k es us hrr,h1,.inr ⟨_,rfl,blk_free H hl hml (by rw[hv];rfl) hsub,ho.1.cells (g:=g) (by rw[hv];rfl)⟩⟩
   ·rename_i str es hl
    injection h with h;subst h
    simp only[AV.rel] at hx
    obtain⟨rfl,_⟩:=hx
    have hml:mem l ls=true:=hr l (by simp[reach])
    obtain⟨g,l',hm,hB,hg,hmr⟩:=H.ob l _ hl
    simp only[TV.rel]
    exact⟨g,l',hm,blk_free H hl hml (by rw[hm];rfl) hsub,hg,MR_keep hk hmr⟩
   ·cases h
  | sb l i cnt =>
   simp only[borrow] at h
   split at h
   ·rename_i e k es hl
    cases hb:Nat.ble (i+cnt) es.length with
    | false=>rw[hb] at h;cases h
    | true =>
     rw[hb,cond_true] at h
     injection h with h;subst h
     have hle:=Nat.le_of_ble_eq_true hb
     have hml:mem l ls=true:=hr l (by simp[reach])
     obtain⟨us,ho,hrr,h1,hk0,hkk⟩:=H.ob l _ hl
     have hlen:((es.drop i).take cnt).length=cnt:=by simp;omega
     simp only[AV.rel] at hx
     simp only[TV.rel,hlen]
     rcases hx with⟨g,N,c,A,hm,rfl,hAb,hA,hA0,hN⟩ | ⟨hm,rfl,rfl,rfl⟩
     ·rcases ho.1.2 with⟨hn,_⟩ | ⟨g',cap,cur,hv,hB,hg,hnc,hcm,_⟩
      ·rw[hm] at hn;simp at hn
      ·rw[hm] at hv;simp at hv
       obtain⟨rfl,rfl,rfl⟩:=hv
       by_cases h0:cnt=0
       ·subst h0
        refine⟨_,_,[],rfl,by omega,by omega,hk0,by simp[TV.relR],fun u hu=>by simp at hu,.inl rfl⟩
       have hAe:=hA (.inl h0)
       subst hAe
       refine⟨_,_,(us.drop (i*k)).take (cnt*k),rfl,by omega,by omega,hk0,TV.relR_keep hk k _ _ (TV.relR_take cnt (TV.relR_drop i hrr)),fun u hu=>h1 u (List.mem_of_mem_drop (List.mem_of_mem_take hu)),.inr ⟨_,rfl,?_,?_⟩⟩
       ·rw[add_block];exact blk_free H hl hml (by rw[hm];rfl) hsub
       ·rw[hkk]
        have hcell:CellsAt w ⟨g,0,none⟩ us:=ho.1.cells (g:=g) (by rw[hm];rfl)
        exact (hcell.drop _).take _
     ·refine⟨none,0,[],rfl,Nat.le_refl _,by simp[maxLen],hk0,by simp[TV.relR],fun u hu=>by simp at hu,.inl rfl⟩
   ·cases h
  | agg cs =>
   simp only[borrow] at h
   split at h
   ·rename_i xs hxs
    injection h with h;subst h
    simp only[AV.rel] at hx
    obtain⟨us,rfl,h1,h2⟩:=hx
    simp only[TV.rel]
    exact⟨us,rfl,mapO_sound (ls:=ls) ih _ _ _ hxs (by simpa [reach] using hr) h1,h2⟩
   ·cases h
  | tup cs =>
   simp only[borrow] at h
   split at h
   ·rename_i xs hxs
    injection h with h;subst h
    simp only[AV.rel] at hx
    obtain⟨us,rfl,h1⟩:=hx
    simp only[TV.rel]
    exact⟨us,rfl,mapO_sound (ls:=ls) ih _ _ _ hxs (by simpa [reach] using hr) h1⟩
   ·cases h
  | fn f cs =>
   simp only[borrow] at h
   split at h
   ·rename_i xs hxs
    injection h with h;subst h
    simp only[AV.rel] at hx
    obtain⟨us,rfl,h1⟩:=hx
    simp only[TV.rel]
    exact⟨us,rfl,mapO_sound (ls:=ls) ih _ _ _ hxs (by simpa [reach] using hr) h1⟩
   ·cases h
  | junk=>simp[borrow] at h
theorem seal_rel (H:Heap B0 F0 w0 σ m kk w) {ls:List Nat}
  (hsub:∀ l' o',look l' σ'=some o'→(∃ o'',look l' σ=some o'')∧mem l' ls≠true) {x:AV} {y:Value} (hx:x.rel w (Fc F0 B0 σ m) m kk y) :
  (x.frz σ ls).rel w (Fc F0 B0 σ' m) m kk y:=by
 have hk:Keeps w (Fc F0 B0 σ m) w (Fc F0 B0 σ' m):=keeps_mono fun b hb=>Fc.mono (fun l o h=>(hsub l o h).1) hb
 unfold AV.frz
 split
 ·exact AV.rel_same hk _ y hx
 ·generalize h1:ls.all (fun l=>x.free l)=b1
  cases b1 with
  | true=>simp only[cond_true];exact AV.rel_same hk _ y hx
  | false =>
   simp only[cond_false]
   split
   ·rename_i t ht
    generalize h2:(reach σ 8 x).all (fun l=>mem l ls)=b2
    cases b2 with
    | true =>
     simp only[cond_true,AV.rel]
     exact borrow_sound H hsub 8 x y t ht (by simpa using h2) hx
    | false=>simp[AV.rel]
   ·simp[AV.rel]
theorem sealL_rel (H:Heap B0 F0 w0 σ m kk w) {ls:List Nat}
  (hsub:∀ l' o',look l' σ'=some o'→(∃ o'',look l' σ=some o'')∧mem l' ls≠true):∀ {xs:List AV} {us:List Value},AV.relL w (Fc F0 B0 σ m) m kk xs us →
  AV.relL w (Fc F0 B0 σ' m) m kk (xs.map (AV.frz σ ls)) us
 | [],us,h=>by simpa only[AV.relL,List.map_nil] using h
 | c::cs,us,h=>by
  simp only[AV.relL,List.map_cons] at h ⊢
  obtain⟨u,us',h1,h2,h3⟩:=h
  exact⟨u,us',h1,seal_rel H hsub h2,sealL_rel H hsub h3⟩
omit [Gm] in
theorem look_seal (ls:List Nat) (s:St) (l:Nat):look l (s.frz ls).σ=if mem l ls=true then none else (look l s.σ).map (AO.frz s.σ ls):=by
 unfold St.frz
 simp only
 rw[look_map,look_filterM]
 split <;> rfl
omit [Gm] in
theorem seal_sub (ls:List Nat) (s:St):∀ l' o',look l' (s.frz ls).σ=some o'→(∃ o'',look l' s.σ=some o'')∧mem l' ls≠true:=by
 intro l' o' h
 rw[look_seal] at h
 split at h
 ·cases h
 ·rename_i hn
  cases hq:look l' s.σ with
  | none=>simp[hq] at h
  | some o''=>exact⟨⟨o'',rfl⟩,hn⟩
theorem Sim.frz {s:St} {a:Act} (S:Sim N B0 F0 w0 s m kk a w) (ls:List Nat):Sim N B0 F0 w0 (s.frz ls) m kk a w:=by
 have hsub:=seal_sub ls s
 have hk:Keeps w (Fc F0 B0 s.σ m) w (Fc F0 B0 (s.frz ls).σ m):=keeps_mono fun b hb=>Fc.mono (fun l o h=>(hsub l o h).1) hb
 refine⟨⟨S.base,S.below,S.gm,?_,?_⟩,?_,S.df,S.sz,S.pn⟩
 ·intro l o hl
  rw[look_seal] at hl
  split at hl
  ·cases hl
  ·cases hq:look l s.σ with
   | none=>simp[hq] at hl
   | some o' =>
    simp only[hq,Option.map_some,Option.some.injEq] at hl
    subst hl
    have h:=S.ob l o' hq
    cases o' with
    | var cs =>
     obtain⟨g,us,t,h1,h2,h3,h4,h5⟩:=h
     exact⟨g,us,t,h1,h2,h3,sealL_rel S.toHeap hsub h4,h5⟩
    | row e k es =>
     obtain⟨us,h1,h2,h3,h4,h5⟩:=h
     exact⟨us,h1,TV.relR_keep hk k es us h2,h3,h4,h5⟩
    | mo x=>exact MO.rel_keep hk (fun _ _=>rfl) h
 ·intro l l' o o' hl hl' hne
  obtain⟨⟨q,hq⟩,_⟩:=hsub l o hl
  obtain⟨⟨q',hq'⟩,_⟩:=hsub l' o' hl'
  exact S.dj l l' q q' hq hq' hne
 ·intro t v hv
  have:look t (s.frz ls).φ=(look t s.φ).map (AV.frz s.σ ls):=look_map _ _ _
  rw[this] at hv
  cases hq:look t s.φ with
  | none=>simp[hq] at hv
  | some v' =>
   simp only[hq,Option.map_some,Option.some.injEq] at hv
   subst hv
   exact seal_rel S.toHeap hsub (S.fr t v' hq)
theorem Sim.freeze {s s':St} {a:Act} {vs:List AV} {us:List Value} {xs:List TV} (S:Sim N B0 F0 w0 s m kk a w) (h:s.freeze vs=some (xs,s')) (hr:AV.relL w (Fc F0 B0 s.σ m) m kk vs us) :
  Sim N B0 F0 w0 s' m kk a w∧TV.relL w (Fc F0 B0 s'.σ m) xs us:=by
 unfold St.freeze at h
 split at h
 ·rename_i ys hys
  simp only[Option.some.injEq,Prod.mk.injEq] at h
  obtain⟨rfl,rfl⟩:=h
  exact⟨S,relL_allT hr hys⟩
 ·split at h
  ·rename_i ys hys
   simp only[Option.some.injEq,Prod.mk.injEq] at h
   obtain⟨rfl,rfl⟩:=h
   refine⟨S.frz _,mapO_sound (ls:=vs.flatMap (reach s.σ 8)) (borrow_sound S.toHeap (seal_sub _ s) 8) _ _ _ hys (fun l h=>mem_spec.2 h) hr⟩
  ·cases h
end
end
section
mutual
def AV.ren (ρ:Nat→Nat):AV→AV
 | .t x=>.t x
 | .ptr l off=>.ptr (ρ l) off
 | .rp l i j=>.rp (ρ l) i j
 | .sl l=>.sl (ρ l)
 | .sb l i n=>.sb (ρ l) i n
 | .agg cs=>.agg (AV.renL ρ cs)
 | .tup vs=>.tup (AV.renL ρ vs)
 | .fn f caps=>.fn f (AV.renL ρ caps)
 | .junk=>.junk
def AV.renL (ρ:Nat→Nat):List AV→List AV
 | []=>[]
 | x::r=>x.ren ρ::AV.renL ρ r
end
def MO.ren (ρ:Nat→Nat):MO→MO
 | .it q seen n=>.it (ρ q) seen n
 | .map s es=>.map s es
 | .sit s p=>.sit s p
 | .dead=>.dead
def AO.ren (ρ:Nat→Nat):AO→AO
 | .var cs=>.var (AV.renL ρ cs)
 | .row e k es=>.row e k es
 | .mo x=>.mo (x.ren ρ)
mutual
theorem AV.rel_ren {w:World} {F:Nat→Prop} {m:Nat→Value} {kk:Nat→Nat} {ρ:Nat→Nat}:∀ (x:AV) (y:Value),(x.ren ρ).rel w F m kk y↔x.rel w F (fun l=>m (ρ l)) (fun l=>kk (ρ l)) y
 | .t x,y=>by simp only[AV.ren,AV.rel]
 | .ptr l off,y=>by simp only[AV.ren,AV.rel]
 | .rp l i j,y=>by simp only[AV.ren,AV.rel]
 | .sl l,y=>by simp only[AV.ren,AV.rel]
 | .sb l i n,y=>by simp only[AV.ren,AV.rel]
 | .agg cs,y=>by simp only[AV.ren,AV.rel,AV.relL_ren cs]
 | .tup vs,y=>by simp only[AV.ren,AV.rel,AV.relL_ren vs]
 | .fn f caps,y=>by simp only[AV.ren,AV.rel,AV.relL_ren caps]
 | .junk,y=>by simp only[AV.ren,AV.rel]
theorem AV.relL_ren {w:World} {F:Nat→Prop} {m:Nat→Value} {kk:Nat→Nat} {ρ:Nat→Nat}:∀ (xs:List AV) (us:List Value),AV.relL w F m kk (AV.renL ρ xs) us↔AV.relL w F (fun l=>m (ρ l)) (fun l=>kk (ρ l)) xs us
 | [],us=>by simp only[AV.renL,AV.relL]
 | x::r,us=>by simp only[AV.renL,AV.relL,AV.rel_ren x,AV.relL_ren r]
end
theorem AO.rel_ren {w:World} {F:Nat→Prop} {m:Nat→Value} {kk:Nat→Nat} {B0:Nat→Prop} {ρ:Nat→Nat} {l:Nat} {o:AO}:(o.ren ρ).rel w F m kk B0 (ρ l)↔o.rel w F (fun l=>m (ρ l)) (fun l=>kk (ρ l)) B0 l:=by
 cases o with
 | var cs=>simp only[AO.ren,AO.rel,AV.relL_ren cs]
 | row e k es=>simp only[AO.ren,AO.rel]
 | mo x=>cases x <;> simp only[AO.ren,AO.rel,MO.ren,MO.rel]
mutual
def AV.ge (N:Nat):AV→Bool
 | .t _=>true
 | .ptr l _=>Nat.ble N l
 | .rp l _ _=>Nat.ble N l
 | .sl l=>Nat.ble N l
 | .sb l _ _=>Nat.ble N l
 | .agg cs=>AV.geL N cs
 | .tup vs=>AV.geL N vs
 | .fn _ caps=>AV.geL N caps
 | .junk=>true
def AV.geL (N:Nat):List AV→Bool
 | []=>true
 | x::r=>x.ge N&&AV.geL N r
end
def MO.ge (N:Nat):MO→Bool
 | .it q _ _=>Nat.ble N q
 | _=>true
def AO.ge (N:Nat):AO→Bool
 | .var cs=>AV.geL N cs
 | .row _ _ _=>true
 | .mo x=>x.ge N
def geO (N:Nat):List AO→Bool
 | []=>true
 | o::r=>o.ge N&&geO N r
mutual
theorem AV.rel_ge {w:World} {F:Nat→Prop} {m m':Nat→Value} {kk kk':Nat→Nat} {N:Nat} (hm:∀ l,N≤l→m' l=m l∧kk' l=kk l):∀ (x:AV) (y:Value),x.ge N=true→x.rel w F m kk y→x.rel w F m' kk' y
 | .t x,y,_,h=>by simpa only[AV.rel] using h
 | .ptr l off,y,hg,h=>by
  have:=hm l (Nat.le_of_ble_eq_true hg)
  simpa only[AV.rel,this.1] using h
 | .rp l i j,y,hg,h=>by
  have:=hm l (Nat.le_of_ble_eq_true hg)
  simpa only[AV.rel,this.1,this.2] using h
 | .sl l,y,hg,h=>by
  have:=hm l (Nat.le_of_ble_eq_true hg)
  simpa only[AV.rel,this.1] using h
 | .sb l i n,y,hg,h=>by
  have:=hm l (Nat.le_of_ble_eq_true hg)
  simpa only[AV.rel,this.1,this.2] using h
 | .agg cs,y,hg,h=>by
  simp only[AV.rel] at h ⊢
  obtain⟨us,h1,h2,h3⟩:=h
  exact⟨us,h1,AV.relL_ge hm cs us hg h2,h3⟩
 | .tup vs,y,hg,h=>by
  simp only[AV.rel] at h ⊢
  obtain⟨us,h1,h2⟩:=h
  exact⟨us,h1,AV.relL_ge hm vs us hg h2⟩
 | .fn f caps,y,hg,h=>by
  simp only[AV.rel] at h ⊢
  obtain⟨us,h1,h2⟩:=h
  exact⟨us,h1,AV.relL_ge hm caps us hg h2⟩
 | .junk,y,_,_=>by simp only[AV.rel]
theorem AV.relL_ge {w:World} {F:Nat→Prop} {m m':Nat→Value} {kk kk':Nat→Nat} {N:Nat} (hm:∀ l,N≤l→m' l=m l∧kk' l=kk l):∀ (xs:List AV) (us:List Value),AV.geL N xs=true→AV.relL w F m kk xs us→AV.relL w F m' kk' xs us
 | [],us,_,h=>by simpa only[AV.relL] using h
 | x::r,us,hg,h=>by
  simp only[AV.geL,Bool.and_eq_true] at hg
  simp only[AV.relL] at h ⊢
  obtain⟨u,us',h1,h2,h3⟩:=h
  exact⟨u,us',h1,AV.rel_ge hm x u hg.1 h2,AV.relL_ge hm r us' hg.2 h3⟩
end
theorem AO.rel_ge {w:World} {F:Nat→Prop} {m m':Nat→Value} {kk kk':Nat→Nat} {B0:Nat→Prop} {N l:Nat} (hm:∀ l,N≤l→m' l=m l∧kk' l=kk l) (hl:N≤l) {o:AO} (ho:o.ge N=true) (h:o.rel w F m kk B0 l):o.rel w F m' kk' B0 l:=by
 have hml:=hm l hl
 cases o with
 | var cs =>
  obtain⟨g,us,t,h1,h2,h3,h4,h5⟩:=h
  exact⟨g,us,t,by rw[hml.1];exact h1,h2,h3,AV.relL_ge hm cs us ho h4,h5⟩
 | row e k es =>
  obtain⟨us,h1,h2,h3,h4,h5⟩:=h
  exact⟨us,by rw[hml.1];exact h1,h2,h3,h4,by rw[hml.2];exact h5⟩
 | mo x =>
  cases x with
  | map str es=>obtain⟨g,l2,h1,h2⟩:=h;exact⟨g,l2,by rw[hml.1];exact h1,h2⟩
  | sit s p=>obtain⟨g,h1,h2⟩:=h;exact⟨g,by rw[hml.1];exact h1,h2⟩
  | dead=>intro g hg;rw[hml.1] at hg;exact h g hg
  | it q seen n =>
   obtain⟨g,g',h1,h2,h3,h4⟩:=h
   exact⟨g,g',by rw[hml.1];exact h1,h2,by rw[(hm q (Nat.le_of_ble_eq_true ho)).1];exact h3,h4⟩
theorem AO.rel_sub {w:World} {F F':Nat→Prop} {m:Nat→Value} {kk:Nat→Nat} {B0 B0':Nat→Prop} {l:Nat} {o:AO} (hk:Keeps w F w F') (hB:∀ g,obk (m l)=some g→B0' g) (h:o.rel w F m kk B0 l):o.rel w F' m kk B0' l:=by
 cases o with
 | var cs =>
  obtain⟨g,us,t,h1,h2,h3,h4,h5⟩:=h
  exact⟨g,us,t,h1,hB g (by rw[h1];rfl),h3,AV.relL_same hk cs us h4,h5⟩
 | row e k es =>
  obtain⟨us,h1,h2,h3,h4,h5⟩:=h
  exact⟨us,⟨h1.1,fun g hg=>hB g hg⟩,TV.relR_keep hk _ _ _ h2,h3,h4,h5⟩
 | mo x =>
  have h:=MO.rel_keep hk (fun _ _=>rfl) h
  cases x with
  | map str es=>obtain⟨g,l2,h1,h2,h3,h4⟩:=h;exact⟨g,l2,h1,hB g (by rw[h1];rfl),h3,h4⟩
  | sit s p=>obtain⟨g,h1,h2,h3⟩:=h;exact⟨g,h1,hB g (by rw[h1];rfl),h3⟩
  | dead=>intro g hg;exact⟨hB g hg,(h g hg).2⟩
  | it q seen n=>obtain⟨g,g',h1,h2,h3,h4⟩:=h;exact⟨g,g',h1,hB g (by rw[h1];rfl),h3,h4⟩
def lab (n:Nat):List AO→List (Nat×AO)
 | []=>[]
 | o::r=>(n,o)::lab (n+1) r
omit [Gm] in
theorem look_lab {l:Nat} {o:AO}:∀ {os:List AO} {n:Nat},look l (lab n os)=some o↔n≤l∧os[l-n]?=some o
 | [],n=>by simp[lab,look]
 | x::r,n=>by
  rw[lab,look_cons]
  by_cases h:l=n
  ·subst h;simp
  ·simp only[h,if_false]
   rw[look_lab (os:=r)]
   constructor
   ·rintro⟨h1,h2⟩
    refine⟨by omega,?_⟩
    have:l-n=(l-(n+1))+1:=by omega
    rw[this];simpa using h2
   ·rintro⟨h1,h2⟩
    have:l-n=(l-(n+1))+1:=by omega
    rw[this] at h2
    exact⟨by omega,by simpa using h2⟩
def lbl (ls:List Nat) (l:Nat):Nat:=ls.getD (l-1000) l
def zipO:List Nat→List AO→List (Nat×AO)
 | l::ls,o::os=>(l,o)::zipO ls os
 | _,_=>[]
def renO (ρ:Nat→Nat):List AO→List AO
 | []=>[]
 | o::r=>o.ren ρ::renO ρ r
def Objs (σ:List (Nat×AO)) (ρ:Nat→Nat):List Nat→List AO→Prop
 | [],[]=>True
 | l::ls,o::os=>look l σ=some (o.ren ρ)∧Objs σ ρ ls os
 | _,_=>False
def nodupB:List Nat→Bool
 | []=>true
 | l::ls=>!(mem l ls)&&nodupB ls
omit [Gm] in
theorem Objs.len {σ:List (Nat×AO)} {ρ:Nat→Nat}:∀ {ls:List Nat} {os:List AO},Objs σ ρ ls os→ls.length=os.length
 | [],[],_=>rfl
 | _::_,_::_,h=>by simp[Objs.len h.2]
 | [],_::_,h=>h.elim
 | _::_,[],h=>h.elim
omit [Gm] in
theorem Objs.get {σ:List (Nat×AO)} {ρ:Nat→Nat}:∀ {ls:List Nat} {os:List AO},Objs σ ρ ls os→∀ (i:Nat) (o:AO),os[i]?=some o→∃ l,ls[i]?=some l∧look l σ=some (o.ren ρ)
 | [],[],_,i,o,hi=>by simp at hi
 | l::ls,x::os,h,i,o,hi=>by
  cases i with
  | zero=>simp at hi;subst hi;exact⟨l,rfl,h.1⟩
  | succ i=>simp at hi;obtain⟨l',h1,h2⟩:=Objs.get h.2 i o hi;exact⟨l',by simpa using h1,h2⟩
 | [],_::_,h,_,_,_=>h.elim
 | _::_,[],h,_,_,_=>h.elim
omit [Gm] in
theorem nodupB_inj:∀ {ls:List Nat},nodupB ls=true→∀ (i j:Nat) (l:Nat),ls[i]?=some l→ls[j]?=some l→i=j
 | [],_,i,j,l,h,_=>by simp at h
 | x::ls,h,i,j,l,hi,hj=>by
  simp only[nodupB,Bool.and_eq_true,Bool.not_eq_true'] at h
  have hx:∀ k,ls[k]?≠some x:=fun k hk=>by
   have:=mem_spec.2 (List.mem_of_getElem? hk)
   rw[this] at h;exact absurd h.1 (by simp)
  cases i with
  | zero =>
   cases j with
   | zero=>rfl
   | succ j =>
    simp at hi hj;subst hi
    exact absurd hj (hx j)
  | succ i =>
   cases j with
   | zero=>simp at hi hj;subst hj;exact absurd hi (hx i)
   | succ j=>simp at hi hj;rw[nodupB_inj h.2 i j l hi hj]
omit [Gm] in
theorem look_zipO {l:Nat} {o:AO}:∀ {ls:List Nat} {os:List AO},look l (zipO ls os)=some o→∃ i:Nat,ls[i]?=some l∧os[i]?=some o
 | [],_,h=>by simp[zipO,look] at h
 | _::_,[],h=>by simp[zipO,look] at h
 | x::ls,y::os,h=>by
  rw[zipO,look_cons] at h
  by_cases e:l=x
  ·subst e;simp at h;subst h;exact⟨0,rfl,rfl⟩
  ·simp only[e,if_false] at h
   obtain⟨i,h1,h2⟩:=look_zipO h
   exact⟨i+1,by simpa using h1,by simpa using h2⟩
omit [Gm] in
theorem look_zipO_some {l:Nat}:∀ {ls:List Nat} {os:List AO} {i:Nat},ls.length=os.length→ls[i]?=some l→∃ o,look l (zipO ls os)=some o
 | [],_,i,_,h=>by simp at h
 | _::_,[],_,hl,_=>by simp at hl
 | x::ls,y::os,i,hl,h=>by
  rw[zipO,look_cons]
  by_cases e:l=x
  ·simp[e]
  ·simp only[e,if_false]
   cases i with
   | zero=>simp at h;exact absurd h.symm e
   | succ i=>exact look_zipO_some (by simpa using hl) (by simpa using h)
omit [Gm] in
theorem renO_len {ρ:Nat→Nat}:∀ {os:List AO},(renO ρ os).length=os.length
 | []=>rfl
 | _::r=>by simp[renO,renO_len (os:=r)]
omit [Gm] in
theorem renO_get {ρ:Nat→Nat}:∀ {os:List AO} {i:Nat} {o:AO},(renO ρ os)[i]?=some o→∃ o',os[i]?=some o'∧o=o'.ren ρ
 | [],i,o,h=>by simp[renO] at h
 | x::r,i,o,h=>by
  cases i with
  | zero=>simp[renO] at h;exact⟨x,rfl,h.symm⟩
  | succ i=>simp[renO] at h;obtain⟨o',h1,h2⟩:=renO_get h;exact⟨o',by simpa using h1,h2⟩
omit [Gm] in
theorem look_app {α:Type} {l:Nat}:∀ {a b:List (Nat×α)},look l (a++b)=match look l a with | some o=>some o | none=>look l b
 | [],b=>by simp[look]
 | (k,v)::a,b=>by
  rw[List.cons_append,look_cons,look_cons]
  by_cases h:l=k
  ·simp[h]
  ·simp only[h,if_false];exact look_app
inductive SE where
 | ret (r:TV)
 | pan (r:TV)
def SE.fits (w:World) (F:Nat→Prop):SE→Ending→Prop
 | .ret r,e=>∃ v,e=.returned v∧r.rel w F v
 | .pan r,e=>∃ v,e=.panicked [{ v:=v,recovered:=false }]∧r.rel w F v
def SC (P:Program) (f:FuncId) (os:List AO) (args:List AV) (R:SE→List AO→Prop):Prop :=
 ∀ (B0 F0:Nat→Prop) (w:World) (m:Nat→Value) (kk:Nat→Nat) (us:List Value),Heap B0 F0 w (lab 1000 os) m kk w→(∀ b,F0 b→b<w.heap.size)→AV.relL w (Fc F0 B0 (lab 1000 os) m) m kk args us →
  Calls P f us.toArray w fun e w'=>∃ x os',R x os'∧os'.length=os.length∧Heap B0 F0 w (lab 1000 os') m kk w'∧x.fits w' (Fc F0 B0 (lab 1000 os') m) e
omit [Gm] in
theorem geO_get {N:Nat}:∀ {os:List AO},geO N os=true→∀ (i:Nat) (o:AO),os[i]?=some o→o.ge N=true
 | [],_,i,o,h=>by simp at h
 | x::r,hg,i,o,h=>by
  simp only[geO,Bool.and_eq_true] at hg
  cases i with
  | zero=>simp at h;subst h;exact hg.1
  | succ i=>exact geO_get hg.2 i o (by simpa using h)
def lblB (b:Nat) (ls:List Nat) (l:Nat):Nat:=ls.getD (l-b) l
def SCR (P:Program) (f:FuncId) (b:Nat) (os:List AO) (args:List AV) (R:SE→List AO→Prop):Prop :=
 ∀ (B0 F0:Nat→Prop) (w:World) (m:Nat→Value) (kk:Nat→Nat) (us:List Value),Heap B0 F0 w (lab b os) m kk w→(∀ b,F0 b→b<w.heap.size)→AV.relL w (Fc F0 B0 (lab b os) m) m kk args us →
  Calls P f us.toArray w fun e w'=>∃ x os' m' kk',R x os'∧os'.length=os.length∧geO b os'=true∧(∀ l,1000≤l→m' l=m l∧kk' l=kk l)∧Heap B0 F0 w (lab b os') m' kk' w'∧x.fits w' (Fc F0 B0 (lab b os') m') e
def killsK:List Nat→List (Nat×AV)→List (Nat×AO)→(List (Nat×AV)→List (Nat×AO)→Prop)→Prop
 | [],φ,σ,K=>K φ σ
 | l::ls,φ,σ,K=>killK l φ σ (fun φ' σ'=>killsK ls φ' σ' K)
def killsV:List Nat→AV→AV
 | [],x=>x
 | l::ls,x=>killsV ls (x.kill l)
def killsO:List Nat→AO→AO
 | [],x=>x
 | l::ls,x=>killsO ls (x.kill l)
def killsF:List Nat→List (Nat×AV)→List (Nat×AV)
 | [],φ=>φ
 | l::ls,φ=>killsF ls (killF l φ)
def killsS:List Nat→List (Nat×AO)→List (Nat×AO)
 | [],σ=>σ
 | l::ls,σ=>killsS ls (killS l σ)
omit [Gm] in
theorem killsK_eq:∀ (ls:List Nat) (φ:List (Nat×AV)) (σ:List (Nat×AO)) (K:List (Nat×AV)→List (Nat×AO)→Prop),killsK ls φ σ K=K (killsF ls φ) (killsS ls σ)
 | [],_,_,_=>rfl
 | l::ls,φ,σ,K=>by simp only[killsK,killK_eq,killsK_eq ls,killsF,killsS]
omit [Gm] in
theorem look_killsF (t:Nat):∀ (ls:List Nat) (φ:List (Nat×AV)),look t (killsF ls φ)=(look t φ).map (killsV ls)
 | [],φ=>by simp only[killsF];cases look t φ <;> rfl
 | l::ls,φ=>by
  simp only[killsF]
  rw[look_killsF t ls,look_killF]
  cases look t φ <;> rfl
omit [Gm] in
theorem look_killsS {t:Nat}:∀ {ls:List Nat} {σ:List (Nat×AO)} {o:AO},look t (killsS ls σ)=some o→t∉ls∧∃ q,look t σ=some q∧o=killsO ls q
 | [],σ,o,h=>⟨by simp,o,h,rfl⟩
 | l::ls,σ,o,h=>by
  simp only[killsS] at h
  obtain⟨h1,q,h2,h3⟩:=look_killsS h
  rw[look_killS] at h2
  by_cases e:t=l
  ·simp[e] at h2
  ·simp only[e,if_false] at h2
   cases hq:look t σ with
   | none=>simp[hq] at h2
   | some q' =>
    simp only[hq,Option.map_some,Option.some.injEq] at h2
    subst h2
    exact⟨by simp[e,h1],q',rfl,h3⟩
omit [Gm] in
theorem keeps_refl {w:World} {F:Nat→Prop}:Keeps w F w F:=fun _ h _=>⟨h,rfl⟩
theorem AV.rel_kills {w:World} {F:Nat→Prop} {m2:Nat→Value} {kk2:Nat→Nat}:∀ (ls:List Nat) {m:Nat→Value} {kk:Nat→Nat} {x:AV} {y:Value},(∀ l,l∉ls→m2 l=m l∧kk2 l=kk l)→x.rel w F m kk y→(killsV ls x).rel w F m2 kk2 y
 | [],m,kk,x,y,hm,h=>by
  have h1:m2=m:=funext fun l=>(hm l (by simp)).1
  have h2:kk2=kk:=funext fun l=>(hm l (by simp)).2
  rw[h1,h2];exact h
 | l::ls,m,kk,x,y,hm,h=>by
  simp only[killsV]
  refine AV.rel_kills ls (m:=upd m l (m2 l)) (kk:=upd kk l (kk2 l)) (fun l' h'=>?_) (AV.rel_kill keeps_refl (fun l' h'=>⟨upd_ne _ _ h',upd_ne _ _ h'⟩) h)
  by_cases e:l'=l
  ·subst e;rw[upd_same,upd_same];exact⟨rfl,rfl⟩
  ·rw[upd_ne _ _ e,upd_ne _ _ e];exact hm l' (by simp[e,h'])
theorem AO.rel_kill1 {w:World} {F:Nat→Prop} {m m':Nat→Value} {kk kk':Nat→Nat} {B0:Nat→Prop} {l l0:Nat} {o:AO} (hne:l≠l0) (hm:∀ l',l'≠l0→m' l'=m l'∧kk' l'=kk l') (h:o.rel w F m kk B0 l):(o.kill l0).rel w F m' kk' B0 l:=by
 cases o with
 | var cs =>
  obtain⟨g,us,t,h2,h3,h4,h5,h6⟩:=h
  exact⟨g,us,t,by rw[(hm l hne).1];exact h2,h3,h4,AV.relL_kill keeps_refl hm h5,h6⟩
 | row e k' es =>
  obtain⟨us,h2,h3,h4,h5,h6⟩:=h
  exact⟨us,by rw[(hm l hne).1];exact h2,h3,h4,h5,by rw[(hm l hne).2];exact h6⟩
 | mo y =>
  cases y with
  | map str es =>
   obtain⟨g,l2,h2,h3,h4,h5⟩:=h
   exact⟨g,l2,by rw[(hm l hne).1];exact h2,h3,h4,h5⟩
  | sit s p =>
   obtain⟨g,h2,h3,h4⟩:=h
   exact⟨g,by rw[(hm l hne).1];exact h2,h3,h4⟩
  | dead =>
   intro g hg
   rw[(hm l hne).1] at hg
   exact h g hg
  | it q seen n =>
   cases hq:Nat.beq l0 q with
   | true =>
    have e:(AO.mo (.it q seen n)).kill l0=.mo .dead:=by simp only[AO.kill,MO.kill,hq,cond_true]
    rw[e]
    obtain⟨g,g',h2,h3,h4,h5⟩:=h
    intro g2 hg2
    rw[(hm l hne).1,h2] at hg2;simp[obk] at hg2;subst hg2
    exact⟨h3,(Array.getElem?_eq_some_iff.1 h5).1⟩
   | false =>
    have e:(AO.mo (.it q seen n)).kill l0=.mo (.it q seen n):=by simp only[AO.kill,MO.kill,hq,cond_false]
    rw[e]
    obtain⟨g,g',h2,h3,h4,h5⟩:=h
    have hql:q≠l0:=by intro e';subst e';simp at hq
    exact⟨g,g',by rw[(hm l hne).1];exact h2,h3,by rw[(hm q hql).1];exact h4,h5⟩
theorem AO.rel_kills {w:World} {F:Nat→Prop} {B0:Nat→Prop} {m2:Nat→Value} {kk2:Nat→Nat} {l:Nat}:∀ (ls:List Nat) {m:Nat→Value} {kk:Nat→Nat} {o:AO},(∀ l,l∉ls→m2 l=m l∧kk2 l=kk l)→l∉ls→o.rel w F m kk B0 l→(killsO ls o).rel w F m2 kk2 B0 l
 | [],m,kk,o,hm,_,h=>by
  have h1:m2=m:=funext fun l=>(hm l (by simp)).1
  have h2:kk2=kk:=funext fun l=>(hm l (by simp)).2
  rw[h1,h2];exact h
 | l0::ls,m,kk,o,hm,hl,h=>by
  simp only[killsO]
  simp only[List.mem_cons,not_or] at hl
  refine AO.rel_kills ls (m:=upd m l0 (m2 l0)) (kk:=upd kk l0 (kk2 l0)) (fun l' h'=>?_) hl.2 (AO.rel_kill1 hl.1 (fun l' h'=>⟨upd_ne _ _ h',upd_ne _ _ h'⟩) h)
  by_cases e:l'=l0
  ·subst e;rw[upd_same,upd_same];exact⟨rfl,rfl⟩
  ·rw[upd_ne _ _ e,upd_ne _ _ e];exact hm l' (by simp[e,h'])
end
end Go.Proofs.YtihbimigddlbaaaGreatDoor.Pl
end
