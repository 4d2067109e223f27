/- A part of the proof: PlOp PlOp2 PlOp3 PlMapOp PlOp4 PlSome PlCode. -/
import Derived.Test.YtihbimigddlbaaaGreatDoorPlA
import Derived.Laws.CopyRow
import Derived.Laws.IdiomCopy
noncomputable section
set_option linter.all false
namespace Go.Proofs.YtihbimigddlbaaaGreatDoor.Pl
open Go.RowKit
variable [Gm]
section
def Ent (P:Program) (f:FuncId):Prop:=∀ (args:Array Value) (w:World),(callFunc f args).run P w=.ok (.enter f args) w
def cellsT:TV→Option (List TV)
 | .agg xs=>some xs
 | .tup _=>none
 | x=>some [x]
def seqFrom (n:Nat):List (Nat×Operand)→Bool
 | []=>true
 | (i,_)::r=>Nat.beq i n&&seqFrom (n+1) r
def allLen (k:Nat):List (List TV)→Bool
 | []=>true
 | e::r=>Nat.beq e.length k&&allLen k r
def elemsOf (σ:List (Nat×AO)):AV→Option (List (List TV))
 | .t (.sl _ es)=>some es
 | .t (.v (.slice none 0 0))=>some []
 | .sl l=>match look l σ with | some (.row _ _ es)=>some es | _=>none
 | _=>none
def kOf (σ:List (Nat×AO)):AV→Option Nat
 | .t (.sl k _)=>some k
 | .t (.v (.slice none 0 0))=>some 0
 | .sl l=>match look l σ with | some (.row _ k _)=>some k | _=>none
 | _=>none
def bindK (N:Nat) (d:Option Tmp) (s:St) (K:St→Prop) (v:AV):Prop :=
 match d with
 | some d=>bif Nat.blt d N then K ⟨(d,v)::s.φ,s.σ⟩ else False
 | none=>False
def layK (N:Nat) (d:Option Tmp) (s:St) (K:St→Prop) (o:AO) (v:Nat→AV):Prop :=
 match d with
 | some d=>bif Nat.blt d N then killK d s.φ s.σ (fun φ' σ'=>K ⟨(d,v d)::φ',(d,o)::σ'⟩) else False
 | none=>False
def appendK (T:TyTab) (N:Nat) (d:Option Tmp) (t t':TypeId) (s:St) (K:St→Prop) (b x:AV):Prop :=
 bif Nat.beq t t' then (match T t with
  | some { d:=.slice e,.. }=>match T e,elemsOf s.σ x,kOf s.σ x with
   | some ei,some news,some kx=>bif (Nat.beq kx ei.size||Nat.beq kx 0)&&Nat.blt 0 ei.size then (match b with
    | .t (.v (.slice none 0 0))=>news.length*ei.bytes≤140737488355328∧news.length≤maxLen∧layK N d s K (.row e ei.size news) .sl
    | .sl l=>match look l s.σ with
     | some (.row e' k es)=>bif Nat.beq e e'&&Nat.beq k ei.size&&(Nat.blt l N||Nat.blt l 1000) then
       (es.length+news.length)*ei.bytes≤140737488355328∧es.length+news.length≤maxLen∧killK l s.φ s.σ (fun φ' σ'=>bindK N d ⟨φ',(l,.row e k (es++news))::σ'⟩ K (.sl l))
      else False
     | _=>False
    | .sb l i n=>match look l s.σ with
     | some (.row e' k es)=>bif Nat.beq e e'&&Nat.beq k ei.size&&(Nat.blt l N||Nat.blt l 1000) then
       news≠[]∧i+n=es.length∧(n+news.length)*ei.bytes≤140737488355328∧n+news.length≤maxLen ∧
       ∀ i' es',i'+(n+news.length)=es'.length→es'.drop i'=es.drop i++news→killK l s.φ s.σ (fun φ' σ'=>bindK N d ⟨φ',(l,.row e k es')::σ'⟩ K (.sb l i' (n+news.length)))
      else False
     | _=>False
    | _=>False) else False
   | _,_,_=>False
  | _=>False) else False
def icallK (P:Program) (N:Nat) (d:Option Tmp) (s:St) (K:St→Prop) (f:FuncId) (l:Nat) (rest:List AV):Prop :=
 freezeK s rest fun xs s'=>Ent P f∧match look l s'.σ with
  | some (.row e k es)=>∃ es',IC P f e k es xs es'∧bif (Nat.blt l N||Nat.blt l 1000) then
    (((∀ c∈es',∀ x∈c,x.plain=true)∧killK l s.φ s.σ (fun φ' σ'=>bindK N d ⟨φ',(l,.row e k es')::σ'⟩ K (.sl l))) ∨
     killK l s'.φ s'.σ (fun φ' σ'=>bindK N d ⟨φ',(l,.row e k es')::σ'⟩ K (.sl l))) else False
  | _=>False
def scallP (P:Program) (N:Nat) (d:Option Tmp) (s:St) (K KP:St→Prop) (f:FuncId) (vs:List AV):Prop :=
 ∃ (ls:List Nat) (os:List AO) (args:List AV) (R:SE→List AO→Prop),SC P f os args R∧nodupB ls=true∧vs=AV.renL (lbl ls) args∧Objs s.σ (lbl ls) ls os ∧
  (∀ r os',os'.length=os.length→R (.ret r) os'→bindK N d ⟨s.φ,zipO ls (renO (lbl ls) os')++s.σ⟩ K (.t r)) ∧
  (∀ r os',os'.length=os.length→R (.pan r) os'→KP ⟨[(0,.t r)],zipO ls (renO (lbl ls) os')++s.σ⟩)
def rowsOK:Nat→List Nat→Bool
 | 0,_=>true
 | _+1,[]=>true
 | n+1,l::ls=>Nat.blt l 1000&&rowsOK n ls
def scallR (P:Program) (N:Nat) (d:Option Tmp) (s:St) (K:St→Prop) (f:FuncId) (vs:List AV):Prop :=
 ∃ (b:Nat) (ls:List Nat) (os:List AO) (args:List AV) (R:SE→List AO→Prop),SCR P f b os args R∧nodupB ls=true∧rowsOK (1000-b) ls=true∧Nat.ble 1000 (b+os.length)=true∧vs=AV.renL (lblB b ls) args∧Objs s.σ (lblB b ls) ls os ∧
  (∀ r os',os'.length=os.length→R (.ret r) os'→killsK (ls.take (1000-b)) s.φ s.σ (fun φ' σ'=>bindK N d ⟨φ',zipO ls (renO (lblB b ls) os')++σ'⟩ K (.t r))) ∧
  (∀ r os',os'.length=os.length→R (.pan r) os'→False)
def scallK (P:Program) (N:Nat) (d:Option Tmp) (s:St) (K:St→Prop) (f:FuncId) (vs:List AV):Prop:=scallP P N d s K (fun _=>False) f vs
def callK0 (P:Program) (N:Nat) (d:Option Tmp) (s:St) (K:St→Prop) (f:FuncId) (args:List AV):Prop :=
 freezeE s args (fun xs s'=>Ent P f∧((∃ r,PC P f xs r∧(bif r.plain then bindK N d s K (.t r) else bindK N d s' K (.t r))) ∨
   (∃ e k es,OC P f xs e k es∧layK N d s' K (.row e k es) .sl)∨scallK P N d s K f args∨(∃ str es,MC P f xs str es∧layK N d s' K (.mo (.map str es)) .sl)∨scallR P N d s K f args)) (Ent P f∧scallK P N d s K f args)
def callK (P:Program) (N:Nat) (d:Option Tmp) (s:St) (K:St→Prop) (f:FuncId) (args:List AV):Prop :=
 match args with
 | .sl l::rest=>callK0 P N d s K f (.sl l::rest)∨icallK P N d s K f l rest
 | args=>callK0 P N d s K f args
def storeK (ti:TI) (s:St) (K:St→Prop) (p v:AV):Prop :=
 match p with
 | .ptr l off=>match look l s.σ,cellsOf v with
  | some (.var cs),some new=>bif Nat.beq new.length ti.size&&Nat.ble (off+new.length) cs.length then K ⟨s.φ,(l,.var (putAt off new cs))::s.σ⟩ else False
  | _,_=>False
 | .rp l i j=>freezeK s [v] fun xs s'=>match xs with
  | [x]=>match look l s'.σ,cellsT x with
   | some (.row e k es),some new=>∃ c,es[i]?=some c∧(bif Nat.beq new.length ti.size&&Nat.ble (j+new.length) k then
     K ⟨s'.φ,(l,.row e k (es.set i (c.take j++new++c.drop (j+new.length))))::s'.σ⟩ else False)
   | _,_=>False
  | _=>False
 | _=>False
def buildSliceK (T:TyTab) (own:List Nat) (N:Nat) (d:Option Tmp) (t:TypeId) (n:Nat) (parts:List (Nat×Operand)) (lk:Operand→Option AV) (s:St) (K:St→Prop):Prop :=
 match T t with
 | some { d:=.slice e,.. }=>match T e,lkAll lk (parts.map (·.2)) with
  | some ei,some vs=>freezeK s vs fun xs s'=>match mapO cellsT xs with
    | some es=>bif seqFrom 0 parts&&Nat.beq parts.length n&&allLen ei.size es&&Nat.ble (n*ei.size) 16777216&&Nat.blt 0 ei.size then
      (match d with
      | some d'=>bif mem d' own then layK N d s' K (.row e ei.size es) .sl else bindK N d s' K (.t (.sl ei.size es))
      | none=>False) else False
    | none=>False
  | _,_=>False
 | _=>False
def callT (P:Program) (N:Nat) (d:Option Tmp) (s:St) (K:St→Prop) (f:FuncId) (xs:List TV):Prop :=
 Ent P f∧((∃ r,PC P f xs r∧bindK N d s K (.t r))∨(∃ e k es,OC P f xs e k es∧layK N d s K (.row e k es) .sl))
def callF (P:Program) (N:Nat) (d:Option Tmp) (s:St) (K:St→Prop) (f:FuncId) (vs:List AV) (caps:List TV):Prop :=
 match allT vs with
 | some xs=>callT P N d s K f (xs++caps)
 | none=>callK P N d s K f (vs++caps.map .t)
def clearK (T:TyTab) (s:St) (K:St→Prop) (t:TypeId) (x:AV):Prop :=
 match T t,x with
 | some { d:=.slice e,.. },.sb l i n=>match look l s.σ,T e with
  | some (.row e' k es),some ei=>bif Nat.beq ei.size k then K ⟨s.φ,(l,.row e' k (es.take i++List.replicate n ei.zero++es.drop (i+n)))::s.σ⟩ else False
  | _,_=>False
 | _,_=>False
def viewOf (σ:List (Nat×AO)):AV→Option (Nat×Nat×Nat×TypeId×Nat×List (List TV))
 | .sl l=>match look l σ with | some (.row e k es)=>some (l,0,es.length,e,k,es) | _=>none
 | .sb l i n=>match look l σ with | some (.row e k es)=>some (l,i,n,e,k,es) | _=>none
 | _=>none
def srcOf (σ:List (Nat×AO)):AV→Option (Nat×List (List TV))
 | .t (.sl k es)=>some (k,es)
 | .sb l i n=>match look l σ with | some (.row _ k es)=>some (k,(es.drop i).take n) | _=>none
 | _=>none
def copyK (T:TyTab) (N:Nat) (d:Option Tmp) (s:St) (K:St→Prop) (t:TypeId) (x y:AV):Prop :=
 match T t with
 | some { d:=.slice e,.. }=>match T e,viewOf s.σ x,srcOf s.σ y with
  | some ei,some (l,i,n,e',k,es),some (k2,srcs)=>bif Nat.beq ei.size 1&&Nat.beq k 1&&Nat.beq k2 1 then
    bindK N d ⟨s.φ,(l,.row e' k (es.take i++srcs.take n++es.drop (i+(srcs.take n).length)))::s.σ⟩ K (vi ((srcs.take n).length:Nat)) else False
  | _,_,_=>False
 | _=>False
def makeSliceK (T:TyTab) (N:Nat) (d:Option Tmp) (t:TypeId) (s:St) (K:St→Prop) (a b:AV):Prop :=
 match T t,a,b with
 | some { d:=.slice e,.. },.t (.v (.int .i64 n)),.t (.v (.int .i64 c))=>match T e with
  | some ei=>bif Nat.blt 0 ei.size then 0≤n∧n≤c∧c<9223372036854775808∧c.toNat*ei.bytes≤140737488355328∧layK N d s K (.row e ei.size (List.replicate n.toNat ei.zero)) .sl else False
  | none=>False
 | _,_,_=>False
def mapSetK (T:TyTab) (s:St) (K:St→Prop) (t:TypeId) (q k x:AV):Prop :=
 match T t,q,k,x with
 | some { d:=.map kt _,.. },.sl l,.t (.v kv),.t xv=>match look l s.σ with
  | some (.mo (.map str es))=>bif keyIs str kv&&keyTyB T kt str then ∃ es',setE kv xv es=es'∧K ⟨s.φ,(l,.mo (.map str es'))::s.σ⟩ else False
  | _=>False
 | _,_,_,_=>False
def keyStr (T:TyTab) (kt:TypeId):Bool :=
 match T kt with
 | some { d:=.string,.. }=>true
 | _=>false
def rangeK (T:TyTab) (N:Nat) (d:Option Tmp) (s:St) (K:St→Prop) (t:TypeId) (x:AV):Prop :=
 match T t,x with
 | some { d:=.string,.. },.t (.v (.string b))=>layK N d s K (.mo (.sit b 0)) (.ptr · 0)
 | some { d:=.map _ _,.. },.sl l=>match look l s.σ,d with
  | some (.mo (.map _ es)),some d'=>bif Nat.beq d' l then False else layK N d s K (.mo (.it l [] es.length)) (.ptr · 0)
  | _,_=>False
 | _,_=>False
def nextK (N:Nat) (d:Option Tmp) (s:St) (K:St→Prop) (str:Bool) (x:AV):Prop :=
 match x with
 | .ptr l 0=>match look l s.σ with
  | some (.mo (.sit b pos))=>bif str then
    (pos<b.size→bindK N d ⟨s.φ,(l,.mo (.sit b (pos+(Utf8.decode b pos).2)))::s.σ⟩ K (.t (.tup [.v (.bool true),.v (.int .i64 pos),.v (.int .i32 (Utf8.decode b pos).1)]))) ∧
    (¬ pos<b.size→bindK N d s K (.t (.tup [.v (.bool false)]))) else False
  | some (.mo (.it q seen n))=>bif str then False else match look q s.σ with
   | some (.mo (.map _ es))=>es.length=n ∧
     (∀ i k v,es[i]?=some (k,v)→i∉seen→bindK N d ⟨s.φ,(l,.mo (.it q (seen++[i]) n))::s.σ⟩ K (.t (.tup [.v (.bool true),.v k,v]))) ∧
     ((∀ i,i<n→i∈seen)→bindK N d s K (.t (.tup [.v (.bool false)])))
   | _=>False
  | _=>False
 | _=>False
def entryK (N:Nat) (d:Option Tmp) (s:St) (K:St→Prop) (x:AV):Prop :=
 match x with
 | .ptr l 0=>match look l s.σ with
  | some (.mo (.it q seen n))=>match look q s.σ with
   | some (.mo (.map _ es))=>es.length=n∧∃ i k v,seen.getLast?=some i∧es[i]?=some (k,v)∧bindK N d s K (.t (.tup [.v k,v]))
   | _=>False
  | _=>False
 | _=>False
def evOp (T:TyTab) (P:Program) (own:List Nat) (N:Nat) (o:Oper) (lk:Operand→Option AV) (s:St) (K:St→Prop):Prop :=
 match o.op with
 | .box t x=>match T t,lk x with
  | some ti,some v=>match cellsOf v with
   | some cs=>bif Nat.beq cs.length ti.size then (match o.dst with
    | some d=>layK N o.dst s K (.var (cs.map (AV.kill d))) (.ptr · 0)
    | none=>False) else False
   | none=>False
  | _,_=>False
 | .alloc t=>match T t with
  | some ti=>layK N o.dst s K (.var (ti.zero.map .t)) (.ptr · 0)
  | none=>False
 | .buildSlice t n parts=>buildSliceK T own N o.dst t n parts.toList lk s K
 | .makeSlice t n c=>match lk n,lk c with
  | some a,some b=>makeSliceK T N o.dst t s K a b
  | _,_=>False
 | .store t p x=>match T t,lk p,lk x,o.dst with
  | some ti,some a,some v,none=>storeK ti s K a v
  | _,_,_,_=>False
 | .makeMap t none=>match T t with
  | some { d:=.map kt _,.. }=>layK N o.dst s K (.mo (.map (keyStr T kt) [])) .sl
  | _=>False
 | .mapUpdate t q k x=>match lk q,lk k,lk x,o.dst with
  | some a,some b,some c,none=>mapSetK T s K t a b c
  | _,_,_,_=>False
 | .insert t q k x=>match lk q,lk k,lk x,o.dst with
  | some a,some b,some c,none=>mapSetK T s K t a b c
  | _,_,_,_=>False
 | .range t x=>match lk x with
  | some v=>rangeK T N o.dst s K t v
  | none=>False
 | .next x str=>match lk x with
  | some v=>nextK N o.dst s K str v
  | none=>False
 | .entry x=>match lk x with
  | some v=>entryK N o.dst s K v
  | none=>False
 | .call { callee:=.builtin .append,args:=as,argTypes:=ts }=>match lkAll lk as.toList,ts.toList with
  | some [b,x],[t,t']=>appendK T N o.dst t t' s K b x
  | _,_=>False
 | .call { callee:=.builtin .copy,args:=as,argTypes:=ts }=>match lkAll lk as.toList,ts.toList with
  | some [x,y],[t,_]=>copyK T N o.dst s K t x y
  | _,_=>False
 | .call { callee:=.builtin .clear,args:=as,argTypes:=ts }=>match lkAll lk as.toList,ts.toList,o.dst with
  | some [x],[t],none=>clearK T s K t x
  | _,_,_=>False
 | .call { callee:=.value f,args:=as,.. }=>match lk f,lkAll lk as.toList with
  | some (.t (.fn g caps)),some vs=>callF P N o.dst s K g vs caps
  | some (.fn g caps),some vs=>callK P N o.dst s K g (vs++caps)
  | _,_=>False
 | op=>yieldK T lk s.σ id op (bindK N o.dst s K)
section
variable {P:Program} {T:TyTab} {w:World} {N:Nat} {B0:Nat→Prop} {F0:Nat→Prop} {w0:PW} {m:Nat→Value} {kk:Nat→Nat}
def Goes (P:Program) (N:Nat) (B0:Nat→Prop) (F0:Nat→Prop) (w0:PW) (o:Oper) (a:Act) (w:World) (K:St→Prop):Prop :=
 ∀ (next:Act→World→Prop) (Q:Exit→Act→World→Prop),(∀ a' w' s' m' kk',K s'→Sim N B0 F0 w0 s' m' kk' a' w'→next a' w')→o.wp P a w next Q
def GoesP (P:Program) (N:Nat) (B0:Nat→Prop) (F0:Nat→Prop) (w0:PW) (o:Oper) (a:Act) (w:World) (K KP:St→Prop):Prop :=
 ∀ (next:Act→World→Prop) (Q:Exit→Act→World→Prop),(∀ a' w' s' m' kk',K s'→Sim N B0 F0 w0 s' m' kk' a' w'→next a' w') →
  (∀ a' w' s' m' kk' r v,KP ⟨[(0,.t r)],s'.σ⟩→Sim N B0 F0 w0 s' m' kk' a' w'→r.rel w' (Fc F0 B0 s'.σ m') v→Q (.panic [{ v:=v,recovered:=false }]) a' w')→o.wp P a w next Q
omit [Gm] in
theorem getD_set {tmps:Array Value} {d t:Nat} {y:Value} (hd:d<tmps.size):(tmps.setIfInBounds d y).getD t undef=if t=d then y else tmps.getD t undef:=by
 simp only[Array.getD_eq_getD_getElem?,Array.getElem?_setIfInBounds]
 by_cases h:t=d
 ·subst h;simp[hd]
 ·have:¬ d=t:=fun e=>h e.symm
  simp[h,this]
theorem Sim.put {s:St} {a:Act} (S:Sim N B0 F0 w0 s m kk a w) {d:Nat} (hd:d<N) {v:AV} {y:Value} (hv:v.rel w (Fc F0 B0 s.σ m) m kk y) :
  Sim N B0 F0 w0 ⟨(d,v)::s.φ,s.σ⟩ m kk (a.put (some d) y) w:=by
 refine⟨S.toHeap,?_,S.df,by simp[Act.put,S.sz],S.pn⟩
 intro t u hu
 simp only[Act.put]
 rw[getD_set (by rw[S.sz];exact hd)]
 rw[look_cons] at hu
 by_cases h:t=d
 ·simp only[h,if_true,Option.some.injEq] at hu ⊢;subst hu;exact hv
 ·simp only[h,if_false] at hu ⊢;exact S.fr t u hu
omit [Gm] in
theorem pn_upd {m:Nat→Value} {kk:Nat→Nat} (pn:∀ l,N≤l→1000≤l→m l=w0.pin l∧kk l=w0.pk l) {d:Nat} (hd:d<N) (x:Value) (k:Nat):∀ l,N≤l→1000≤l→upd m d x l=w0.pin l∧upd kk d k l=w0.pk l:=by
 intro l hl _
 have:l≠d:=by omega
 rw[upd_ne _ _ this,upd_ne _ _ this]
 exact pn l hl (by assumption)
omit [Gm] in
theorem pn_updL {m:Nat→Value} {kk:Nat→Nat} (pn:∀ l,N≤l→1000≤l→m l=w0.pin l∧kk l=w0.pk l) {d:Nat} (hd:(Nat.blt d N||Nat.blt d 1000)=true) (x:Value) (k:Nat):∀ l,N≤l→1000≤l→upd m d x l=w0.pin l∧upd kk d k l=w0.pk l:=by
 intro l hl hl2
 have:l≠d:=by
  rw[Bool.or_eq_true] at hd
  rcases hd with h | h
  ·have:=Nat.le_of_ble_eq_true h;omega
  ·have:=Nat.le_of_ble_eq_true h;omega
 rw[upd_ne _ _ this,upd_ne _ _ this]
 exact pn l hl hl2
theorem goes_value {o:Oper} {a:Act} {K:St→Prop} {v:AV} {y:Value} {w':World} {s':St} (h:bindK N o.dst s' K v) (S:Sim N B0 F0 w0 s' m kk a w') (hv:v.rel w' (Fc F0 B0 s'.σ m) m kk y)
  (hrun:(execOp a.eval o).run P w=.ok (.value y) w'):Goes P N B0 F0 w0 o a w K:=by
 intro next Q hn
 unfold Oper.wp
 rw[hrun,Oper.upon_value]
 unfold bindK at h
 split at h
 ·rename_i d hd
  cases hb:Nat.blt d N with
  | false=>simp[hb] at h
  | true =>
   simp only[hb,cond_true] at h
   have hlt:d<N:=Nat.le_of_ble_eq_true hb
   rw[hd]
   exact hn _ _ _ _ _ h (S.put hlt hv)
 ·exact h.elim
theorem goes_lay {o:Oper} {a:Act} {s:St} {K:St→Prop} {ob:AO} {v:Nat→AV} {y:Value} {w':World} {k:Nat} {x:Value} (h:layK N o.dst s K ob v) (S:Sim N B0 F0 w0 s m kk a w)
  (hrun:(execOp a.eval o).run P w=.ok (.value y) w')
  (hH:∀ d,o.dst=some d→Heap B0 F0 w0 ((d,ob)::killS d s.σ) (upd m d x) (upd kk d k) w'∧Keeps w (Fc F0 B0 s.σ m) w' (Fc F0 B0 ((d,ob)::killS d s.σ) (upd m d x)))
  (hv:∀ d,o.dst=some d→(v d).rel w' (Fc F0 B0 ((d,ob)::killS d s.σ) (upd m d x)) (upd m d x) (upd kk d k) y):Goes P N B0 F0 w0 o a w K:=by
 intro next Q hn
 unfold Oper.wp
 rw[hrun,Oper.upon_value]
 unfold layK at h
 split at h
 ·rename_i d hd
  cases hb:Nat.blt d N with
  | false=>simp[hb] at h
  | true =>
   simp only[hb,cond_true,killK_eq] at h
   have hlt:d<N:=Nat.le_of_ble_eq_true hb
   obtain⟨H',hk⟩:=hH d hd
   have S':Sim N B0 F0 w0 ⟨killF d s.φ,(d,ob)::killS d s.σ⟩ (upd m d x) (upd kk d k) a w':=by
    refine⟨H',?_,S.df,S.sz,pn_upd S.pn hlt x k⟩
    intro t u hu
    simp only[look_killF] at hu
    cases hq:look t s.φ with
    | none=>simp[hq] at hu
    | some u' =>
     simp only[hq,Option.map_some,Option.some.injEq] at hu
     subst hu
     exact AV.rel_kill hk (fun l' h=>⟨upd_ne _ _ h,upd_ne _ _ h⟩) (S.fr t u' hq)
   rw[hd]
   exact hn _ _ _ _ _ h (S'.put hlt (hv d hd))
 ·exact h.elim
theorem heap_new {s:St} {a:Act} (S:Sim N B0 F0 w0 s m kk a w) (l:Nat) (cs:List AV) (us:List Value) (t:TypeId) (hr:AV.relL w (Fc F0 B0 s.σ m) m kk cs us) (h1:OneAll us) :
  Heap B0 F0 w0 ((l,.var (cs.map (AV.kill l)))::killS l s.σ) (upd m l (.pointer (some ⟨w.heap.size,0,none⟩))) (upd kk l 0) (w.alloc (.cells us.toArray t)) ∧
   Keeps w (Fc F0 B0 s.σ m) (w.alloc (.cells us.toArray t)) (Fc F0 B0 ((l,.var (cs.map (AV.kill l)))::killS l s.σ) (upd m l (.pointer (some ⟨w.heap.size,0,none⟩)))):=by
 have hsz:=S.newB
 have hk:Keeps w (Fc F0 B0 s.σ m) (w.alloc (.cells us.toArray t)) (Fc F0 B0 ((l,.var (cs.map (AV.kill l)))::killS l s.σ) (upd m l (.pointer (some ⟨w.heap.size,0,none⟩)))):=by
  intro b hb hlt
  refine⟨⟨hb.1,?_⟩,Below.heap_alloc _ _ _ hlt⟩
  intro l' o' hl'
  rw[look_cons] at hl'
  by_cases h:l'=l
  ·subst h;rw[upd_same];simp[obk];omega
  ·simp only[h,if_false,look_killS] at hl'
   rw[upd_ne _ _ h]
   cases hq:look l' s.σ with
   | none=>simp[hq] at hl'
   | some q=>exact hb.2 l' q hq
 refine Heap.lay S.toHeap l _ 0 _ ?_ (by simp) rfl rfl rfl ?_ ?_
 ·intro b hb _;exact Below.heap_alloc _ _ _ hb
 ·intro g hg;simp[obk] at hg;subst hg;exact .inl (Nat.le_refl _)
 ·refine⟨w.heap.size,us,t,upd_same _ _ _,hsz _ (Nat.le_refl _),heap_alloc_new w _,?_,h1⟩
  exact AV.relL_kill hk (fun l' h=>⟨upd_ne _ _ h,upd_ne _ _ h⟩) hr
omit [Gm] in
theorem killT (l:Nat):∀ (xs:List TV),(xs.map AV.t).map (AV.kill l)=xs.map .t
 | []=>rfl
 | x::xs=>by simp only[List.map_cons,killT l xs];rfl
theorem heap_row {s:St} {a:Act} (S:Sim N B0 F0 w0 s m kk a w) (l:Nat) {w':World} (e:TypeId) (k:Nat) (es:List (List TV)) (v:Value) (us:List Value) (hk0:0<k)
  (hb:Below w.heap.size w w') (hown:w'.ownsRow w.heap.size e k v es.length us) (hrel:TV.relR w' (fun b=>Fc F0 B0 s.σ m b∧obk v≠some b) k es us) (h1:OneAll us) :
  Heap B0 F0 w0 ((l,.row e k es)::killS l s.σ) (upd m l v) (upd kk l k) w'∧Keeps w (Fc F0 B0 s.σ m) w' (Fc F0 B0 ((l,.row e k es)::killS l s.σ) (upd m l v)):=by
 have hsz:=S.newB
 refine Heap.lay S.toHeap l v k _ (fun b hb' _=>hb.block b hb') hb.size hb.os hb.tape hb.output ?_ ?_
 ·intro g hg
  left
  rcases hown.2 with⟨hn,_⟩ | ⟨g',cap,cur,hv,hB,_⟩
  ·rw[hn] at hg;simp[obk] at hg
  ·rw[hv] at hg;simp[obk] at hg;omega
 ·refine⟨us,?_,?_,h1,hk0,upd_same _ _ _⟩
  ·rw[upd_same]
   refine⟨⟨hown.1,?_⟩,fun g hg=>?_⟩
   ·rcases hown.2 with h | ⟨g',cap,cur,hv,hB,rest⟩
    ·exact .inl h
    ·exact .inr ⟨g',cap,cur,hv,Nat.zero_le _,rest⟩
   ·rcases hown.2 with⟨hn,_⟩ | ⟨g',cap,cur,hv,hB,_⟩
    ·rw[hn] at hg;simp[obk] at hg
    ·rw[hv] at hg;simp[obk] at hg;subst hg;exact hsz _ hB
  ·refine TV.relR_keep (keeps_mono ?_) k es us hrel
   rintro b ⟨hb1,hb2⟩
   refine⟨hb1.1,?_⟩
   intro l' o' hl'
   rw[look_cons] at hl'
   by_cases h:l'=l
   ·subst h;rw[upd_same];exact hb2
   ·simp only[h,if_false,look_killS] at hl'
    rw[upd_ne _ _ h]
    cases hq:look l' s.σ with
    | none=>simp[hq] at hl'
    | some q=>exact hb1.2 l' q hq
end
end
section
section
variable {P:Program} {T:TyTab} {w:World} {N:Nat} {B0:Nat→Prop} {F0:Nat→Prop} {w0:PW} {m:Nat→Value} {kk:Nat→Nat}
omit [Gm] in
theorem TOK.zero (hT:TOK P T) {t:TypeId} {i:TI} (ht:T t=some i):∃ z,(zeroValue t).run P w=.ok z w∧(∀ w F,TV.relL w F i.zero z.cells.toList)∧OneAll z.cells.toList:=by
 obtain⟨info,d,h1,h2,h3,h4,h5,⟨z,hz1,hz2,hz3,hz4⟩,hfs⟩:=hT _ _ ht
 exact⟨z,by simp[zeroValue,typeInfo,h1,hz1],hz2,hz3⟩
omit [Gm] in
theorem below_alloc (w:World) (o:Obj):Below w.heap.size w (w.alloc o):=(Below.refl _ _).alloc (Nat.le_refl _) o
theorem box_goes {o:Oper} {a:Act} {s:St} {K:St→Prop} (S:Sim N B0 F0 w0 s m kk a w) {t:TypeId} {x:Operand} (ho:o.op=.box t x) {ti:TI} (_ht:T t=some ti) {v:AV} {cs:List AV}
  (hv:v.rel w (Fc F0 B0 s.σ m) m kk (a.eval x)) (hcs:cellsOf v=some cs) {d:Tmp} (hd:o.dst=some d) (h:layK N o.dst s K (.var (cs.map (AV.kill d))) (.ptr · 0)):Goes P N B0 F0 w0 o a w K:=by
 obtain⟨hr,h1⟩:=rel_cellsOf hv hcs
 have hnew:=heap_new S d cs (a.eval x).cells.toList t hr h1
 refine goes_lay (x:=.pointer (some ⟨w.heap.size,0,none⟩)) (k:=0) (y:=.pointer (some ⟨w.heap.size,0,none⟩)) h S ?_ ?_ ?_ (w':=w.alloc (.cells (a.eval x).cells t))
 ·simp[execOp,ho,Instr.box,newVar,newRow]
 ·intro d' hd';rw[hd] at hd';injection hd' with e;subst e;simpa using hnew
 ·intro d' hd'
  simp only[AV.rel]
  exact⟨w.heap.size,upd_same _ _ _,by simp[Addr.add]⟩
theorem alloc_goes (C:Ctx P T) {o:Oper} {a:Act} {s:St} {K:St→Prop} (S:Sim N B0 F0 w0 s m kk a w) {t:TypeId} (ho:o.op=.alloc t) {ti:TI} (ht:T t=some ti)
  (h:layK N o.dst s K (.var (ti.zero.map .t)) (.ptr · 0)):Goes P N B0 F0 w0 o a w K:=by
 obtain⟨z,hz,hz2,hz3⟩:=C.tok.zero (w:=w) ht
 refine goes_lay (x:=.pointer (some ⟨w.heap.size,0,none⟩)) (k:=0) (y:=.pointer (some ⟨w.heap.size,0,none⟩)) h S ?_ ?_ ?_ (w':=w.alloc (.cells z.cells t))
 ·simp[execOp,ho,Instr.alloc,hz,newVar,newRow]
 ·intro d hd
  have hnew:=heap_new S d (ti.zero.map .t) z.cells.toList t (relL_map.1 (hz2 _ _)) hz3
  rw[killT] at hnew
  simpa using hnew
 ·intro d' hd'
  simp only[AV.rel]
  exact⟨w.heap.size,upd_same _ _ _,by simp[Addr.add]⟩
omit [Gm] in
theorem run_store_block {g off:Nat} {t tt:TypeId} {us vs:List Value} {v:Value} {ti:TI} (hT:TOK P T) (ht:T tt=some ti) (hg:w.heap[g]?=some (.cells us.toArray t (0,0)))
  (hv:v.cells.toList=vs) (hl:vs.length=ti.size) (hfit:off+vs.length≤us.length) (h1:OneAll vs) :
  (Instr.storeAt tt (.pointer (some ((⟨g,0,none⟩:Addr).add off))) v).run P w=.ok () (w.setRow g (us.take off++vs++us.drop (off+vs.length)).toArray):=by
 have hst:=run_storeCells_at P g off t vs 0 us.toArray w hg (by simpa using hfit) h1
 have hadd:(⟨g,0,none⟩:Addr).add off=⟨g,off,none⟩:=by unfold Addr.add;split <;> simp_all
 have hsz:v.cells.size=ti.size:=by rw[←hl,←hv];simp
 simp only[Nat.add_zero] at hst
 simp[Instr.storeAt,Instr.sureAddr,storeVar,hT.size ht,hsz,hadd,hv,hst]
theorem Sim.write {s:St} {a:Act} (S:Sim N B0 F0 w0 s m kk a w) {l g:Nat} {o o':AO} (hl:look l s.σ=some o) (hg:obk (m l)=some g) (us:Array Value) (σ':List (Nat×AO)) (hσ:σ'=(l,o')::s.σ)
  (ho:o'.rel (w.setRow g us) (Fc F0 B0 s.σ m) m kk B0 l):Sim N B0 F0 w0 ⟨s.φ,σ'⟩ m kk a (w.setRow g us):=by
 subst hσ
 have hlook:∀ l' q,look l' ((l,o')::s.σ)=some q→∃ q',look l' s.σ=some q':=by
  intro l' q h
  rw[look_cons] at h
  by_cases e:l'=l
  ·subst e;exact⟨o,hl⟩
  ·simp only[e,if_false] at h;exact⟨q,h⟩
 have hlook':∀ l' q',look l' s.σ=some q'→∃ q,look l' ((l,o')::s.σ)=some q:=by
  intro l' q h
  rw[look_cons]
  by_cases e:l'=l
  ·simp[e]
  ·simp only[e,if_false];exact⟨q,h⟩
 have hF:∀ b,Fc F0 B0 ((l,o')::s.σ) m b↔Fc F0 B0 s.σ m b:=fun b =>
  ⟨fun h=>Fc.mono (fun l' q hq=>hlook' l' q hq) h,fun h=>Fc.mono (fun l' q hq=>hlook l' q hq) h⟩
 have hk:Keeps w (Fc F0 B0 s.σ m) (w.setRow g us) (Fc F0 B0 ((l,o')::s.σ) m):=by
  intro b hb hlt
  refine⟨(hF b).2 hb,setRow_other w g b us ?_⟩
  intro e;subst e;exact hb.2 l o hl hg
 have hgB:=AO.blk_lt (S.ob l o hl) hg
 refine⟨⟨S.base,?_,S.gm,?_,?_⟩,?_,S.df,S.sz,S.pn⟩
 ·exact S.below.trans rfl rfl rfl (by simp) (fun b _ hno=>setRow_other w g b us (fun e=>hno (by rw[e];exact hgB.1)))
 ·intro l' q hq
  rw[look_cons] at hq
  by_cases e:l'=l
  ·subst e
   simp only[if_true,Option.some.injEq] at hq;subst hq
   have hk':Keeps (w.setRow g us) (Fc F0 B0 s.σ m) (w.setRow g us) (Fc F0 B0 ((l',o')::s.σ) m):=keeps_mono fun b hb=>(hF b).2 hb
   exact AO.rel_keep hk' (fun _ _=>rfl) ho
  ·simp only[e,if_false] at hq
   refine AO.rel_keep hk (fun b hb=>setRow_other w g b us ?_) (S.ob l' q hq)
   intro e';subst e'
   rcases S.dj l' l q o hq hl e with h | h
   ·rw[h] at hb;cases hb
   ·exact h (hb.trans hg.symm)
 ·intro l1 l2 o1 o2 h1 h2 hne
  obtain⟨q1,hq1⟩:=hlook l1 o1 h1
  obtain⟨q2,hq2⟩:=hlook l2 o2 h2
  exact S.dj l1 l2 q1 q2 hq1 hq2 hne
 ·intro t v hv
  exact AV.rel_same hk v _ (S.fr t v hv)
theorem keep_set {s:St} {a:Act} (_S:Sim N B0 F0 w0 s m kk a w) {l g:Nat} {o:AO} (hl:look l s.σ=some o) (hg:obk (m l)=some g) (us:Array Value) :
  Keeps w (Fc F0 B0 s.σ m) (w.setRow g us) (Fc F0 B0 s.σ m):=by
 intro b hb hlt
 refine⟨hb,setRow_other w g b us ?_⟩
 intro e;subst e;exact hb.2 l o hl hg
theorem goes_skip {o:Oper} {a:Act} {K:St→Prop} {w':World} {s':St} (hd:o.dst=none) (h:K s') (S:Sim N B0 F0 w0 s' m kk a w')
  (hrun:(execOp a.eval o).run P w=.ok .skip w'):Goes P N B0 F0 w0 o a w K:=by
 intro next Q hn
 unfold Oper.wp
 rw[hrun,Oper.upon_skip,hd]
 exact hn _ _ _ _ _ h S
omit [Gm] in
theorem relR_set {F:Nat→Prop} {k:Nat}:∀ {i:Nat} {es:List (List TV)} {us:List Value} {c:List TV} {vs:List Value},TV.relR w F k es us→es[i]?=some c→∀ {c':List TV},c'.length=k→TV.relL w F c' vs →
  TV.relR w F k (es.set i c') (us.take (i*k)++vs++us.drop (i*k+k))
 | _,[],us,c,vs,_,h,_,_,_=>by simp at h
 | 0,e::es,us,c,vs,h,hc,c',hc',hv=>by
  simp only[TV.relR] at h
  obtain⟨u1,u2,rfl,hk,h0,h1⟩:=h
  have hl:=TV.relL_length h0
  simp only[List.set_cons_zero,TV.relR,Nat.zero_mul,List.take_zero,List.nil_append,Nat.zero_add]
  refine⟨vs,u2,?_,hc',hv,h1⟩
  rw[←hk,←hl,List.drop_left]
 | i+1,e::es,us,c,vs,h,hc,c',hc',hv=>by
  simp only[TV.relR] at h
  obtain⟨u1,u2,rfl,hk,h0,h1⟩:=h
  have hl:=TV.relL_length h0
  simp only[List.set_cons_succ,TV.relR]
  refine⟨u1,_,?_,hk,h0,relR_set h1 (by simpa using hc) hc' hv⟩
  have e1:(i+1)*k=u1.length+i*k:=by rw[hl,hk,Nat.add_mul];omega
  rw[e1,List.take_length_add_append,Nat.add_assoc,←List.drop_drop,List.drop_left]
  simp[List.append_assoc]
omit [Gm] in
theorem rel_cellsT (m:Nat→Value) (kk:Nat→Nat) {F:Nat→Prop} {x:TV} {y:Value} {cs:List TV} (h:x.rel w F y) (hx:cellsT x=some cs):TV.relL w F cs y.cells.toList∧OneAll y.cells.toList:=by
 have h':(AV.t x).rel w F m kk y:=by simpa only[AV.rel] using h
 cases x with
 | agg xs =>
  simp only[cellsT,Option.some.injEq] at hx;subst hx
  obtain⟨h1,h2⟩:=rel_cellsOf h' (by rfl)
  exact⟨relL_map.2 h1,h2⟩
 | tup _=>simp[cellsT] at hx
 | v z=>simp only[cellsT,Option.some.injEq] at hx;subst hx;obtain⟨h1,h2⟩:=rel_cellsOf h' (by rfl);exact⟨relL_map.2 h1,h2⟩
 | sl k es=>simp only[cellsT,Option.some.injEq] at hx;subst hx;obtain⟨h1,h2⟩:=rel_cellsOf h' (by rfl);exact⟨relL_map.2 h1,h2⟩
 | ptr z=>simp only[cellsT,Option.some.injEq] at hx;subst hx;obtain⟨h1,h2⟩:=rel_cellsOf h' (by rfl);exact⟨relL_map.2 h1,h2⟩
 | fn z z'=>simp only[cellsT,Option.some.injEq] at hx;subst hx;obtain⟨h1,h2⟩:=rel_cellsOf h' (by rfl);exact⟨relL_map.2 h1,h2⟩
 | mp z z'=>simp only[cellsT,Option.some.injEq] at hx;subst hx;obtain⟨h1,h2⟩:=rel_cellsOf h' (by rfl);exact⟨relL_map.2 h1,h2⟩
 | iface z z'=>simp only[cellsT,Option.some.injEq] at hx;subst hx;obtain⟨h1,h2⟩:=rel_cellsOf h' (by rfl);exact⟨relL_map.2 h1,h2⟩
omit [Gm] in
theorem take_drop_mid {α:Type} (us:List α) (n k j q:Nat) (h:j+q≤k) (hk:n+k≤us.length) (vs:List α) (hv:vs.length=q) :
  us.take n++(((us.drop n).take k).take j++vs++((us.drop n).take k).drop (j+q))++us.drop (n+k)=us.take (n+j)++vs++us.drop (n+j+q):=by
 have e1:us.take (n+j)=us.take n++((us.drop n).take k).take j:=by
  rw[List.take_take,Nat.min_eq_left (by omega),←List.take_add]
 have e2:((us.drop n).take k).drop (j+q)++us.drop (n+k)=us.drop (n+j+q):=by
  have:us.drop (n+k)=(us.drop n).drop k:=by rw[List.drop_drop]
  rw[this]
  have h3:(us.drop n).drop (j+q)=((us.drop n).take k).drop (j+q)++(us.drop n).drop k:=by
   have h4:us.drop n=(us.drop n).take k++(us.drop n).drop k:=(List.take_append_drop k _).symm
   have h5:((us.drop n).take k).length=k:=by simp;omega
   conv=>lhs;rw[h4]
   rw[List.drop_append_of_le_length (by omega)]
  rw[←h3,List.drop_drop];congr 1;omega
 rw[e1,←e2];simp[List.append_assoc]
theorem store_goes (C:Ctx P T) {o:Oper} {a:Act} {s:St} {K:St→Prop} (S:Sim N B0 F0 w0 s m kk a w) {t:TypeId} {p x:Operand} (ho:o.op=.store t p x) {ti:TI} (ht:T t=some ti) {pa v:AV}
  (hp:pa.rel w (Fc F0 B0 s.σ m) m kk (a.eval p)) (hv:v.rel w (Fc F0 B0 s.σ m) m kk (a.eval x)) (hd:o.dst=none) (h:storeK ti s K pa v):Goes P N B0 F0 w0 o a w K:=by
 unfold storeK at h
 split at h
 ·rename_i l off
  split at h
  ·rename_i cs new hl hnew
   cases hb:Nat.beq new.length ti.size&&Nat.ble (off+new.length) cs.length with
   | false=>simp[hb] at h
   | true =>
    simp only[hb,cond_true] at h
    simp only[Bool.and_eq_true] at hb
    have hb1:=Nat.eq_of_beq_eq_true hb.1
    have hb2:=Nat.le_of_ble_eq_true hb.2
    simp only[AV.rel] at hp
    obtain⟨g,hm,hpe⟩:=hp
    obtain⟨g',us,t',hm',hB,hg,hr,h1⟩:=S.ob l _ hl
    rw[hm] at hm';simp at hm';subst hm'
    obtain⟨hvr,hv1⟩:=rel_cellsOf hv hnew
    have hvl:=AV.relL_length hvr
    have hcl:=AV.relL_length hr
    have hgo:obk (m l)=some g:=by rw[hm];rfl
    have hk:=keep_set S hl hgo (us.take off++(a.eval x).cells.toList++us.drop (off+(a.eval x).cells.toList.length)).toArray
    refine goes_skip hd h (S.write hl hgo _ _ rfl ?_) ?_ (w':=w.setRow g (us.take off++(a.eval x).cells.toList++us.drop (off+(a.eval x).cells.toList.length)).toArray)
    ·refine⟨g,_,t',hm,hB,setRow_heap w g _ _ t' _ hg,?_,?_⟩
     ·refine AV.relL_same hk _ _ ?_
      unfold putAt
      refine AV.relL_append (AV.relL_append (AV.relL_take _ hr) hvr) ?_
      rw[hvl];exact AV.relL_drop _ hr
     ·intro u hu
      simp only[List.mem_append] at hu
      rcases hu with (hu | hu) | hu
      ·exact h1 u (List.mem_of_mem_take hu)
      ·exact hv1 u hu
      ·exact h1 u (List.mem_of_mem_drop hu)
    ·have:=run_store_block (P:=P) (v:=a.eval x) C.tok ht hg rfl (by rw[hvl];exact hb1) (by rw[hvl,hcl];exact hb2) hv1 (off:=off)
     simp[execOp,ho,hpe,this]
  ·exact h.elim
 ·rename_i l i j
  obtain⟨xs',s',hfr,h⟩:=freezeK_spec h
  split at h
  ·rename_i x'
   obtain⟨S',hxr⟩:=S.freeze hfr (us:=[a.eval x]) (by simp only[AV.relL];exact⟨_,_,rfl,hv,rfl⟩)
   simp only[TV.relL] at hxr
   obtain⟨_,_,hxe,hxr,rfl⟩:=hxr
   simp only[List.cons.injEq,and_true] at hxe
   subst hxe
   split at h
   ·rename_i e k es new hl hnew
    obtain⟨c,hc,h⟩:=h
    cases hb:Nat.beq new.length ti.size&&Nat.ble (j+new.length) k with
    | false=>simp[hb] at h
    | true =>
     simp only[hb,cond_true] at h
     simp only[Bool.and_eq_true] at hb
     have hb1:=Nat.eq_of_beq_eq_true hb.1
     have hb2:=Nat.le_of_ble_eq_true hb.2
     simp only[AV.rel] at hp
     obtain⟨g,n,cap,hm,hpe⟩:=hp
     obtain⟨us,hown,hr,h1,hk0,hkk⟩:=S'.ob l _ hl
     obtain⟨hvr,hv1⟩:=rel_cellsT m kk hxr hnew
     have hvl:=TV.relL_length hvr
     have hul:=TV.relR_length hr
     have hgo:obk (m l)=some g:=by rw[hm];rfl
     have hi:i<es.length:=(List.getElem?_eq_some_iff.1 hc).1
     obtain⟨hck,hcr⟩:=TV.relR_get hr hc
     have hO:=hown.2
     rcases hown.1.2 with⟨hn,_⟩ | ⟨g',cap',cur,hv',hB,hg,hnc,hcm,hcs,htake⟩
     ·rw[hn] at hm;simp at hm
     ·rw[hv'] at hm
      simp at hm
      obtain⟨rfl,rfl,rfl⟩:=hm
      have hik:i*k+k≤us.length:=by
       rw[hul]
       have:(i+1)*k≤es.length*k:=Nat.mul_le_mul_right k (by omega)
       rw[Nat.add_mul] at this;omega
      have hcurl:us.length≤cur.toList.length:=by rw[←htake];simp;omega
      have hcut:cur.toList.take us.length=us:=by rw[hul];exact htake
      have hcur:cur=cur.toList.toArray:=by simp
      generalize hvs:(a.eval x).cells.toList=vs at *
      have hfin:(cur.toList.take (i*k+j)++vs++cur.toList.drop (i*k+j+vs.length)).take us.length=us.take (i*k+j)++vs++us.drop (i*k+j+vs.length):=by
       conv=>rhs;rw[←hcut]
       rw[List.take_append,List.take_append]
       simp only[List.length_append,List.length_take]
       rw[List.take_take,List.take_take,List.drop_take]
       have a1:min (i*k+j) cur.toList.length=i*k+j:=by omega
       rw[a1]
       have a2:min us.length (i*k+j)=i*k+j:=by omega
       have a3:min (i*k+j) us.length=i*k+j:=by omega
       rw[a2,a3]
       congr 1
       ·congr 1
        rw[List.take_of_length_le (by omega)]
      have hk:=keep_set S' hl (g:=g') (by rw[hv'];rfl) (cur.toList.take (i*k+j)++vs++cur.toList.drop (i*k+j+vs.length)).toArray
      have hone:OneAll (us.take (i*k+j)++vs++us.drop (i*k+j+vs.length)):=by
       intro u hu
       simp only[List.mem_append] at hu
       rcases hu with (hu | hu) | hu
       ·exact h1 u (List.mem_of_mem_take hu)
       ·exact hv1 u hu
       ·exact h1 u (List.mem_of_mem_drop hu)
      refine goes_skip hd h (S'.write hl (g:=g') (by rw[hv'];rfl) _ _ rfl ?_) ?_ (w':=w.setRow g' (cur.toList.take (i*k+j)++vs++cur.toList.drop (i*k+j+vs.length)).toArray)
      ·refine⟨us.take (i*k+j)++vs++us.drop (i*k+j+vs.length),?_,?_,hone,hk0,hkk⟩
       ·refine⟨⟨?_,.inr ⟨g',cap',_,by rw[hv'];simp,hB,setRow_heap w g' _ _ e _ hg,by simpa using hnc,hcm,?_,?_⟩⟩,hO⟩
        ·simp only[List.length_append,List.length_take,List.length_drop,List.length_set];rw[←hul];omega
        ·simp only[List.size_toArray,List.length_append,List.length_take,List.length_drop,Array.length_toList]
         have hcl:cur.toList.length=cur.size:=Array.length_toList
         omega
        ·simp only[List.length_set];rw[←hul];exact hfin
       ·have hset:=relR_set (c':=c.take j++new++c.drop (j+new.length)) (vs:=((us.drop (i*k)).take k).take j++vs++((us.drop (i*k)).take k).drop (j+vs.length)) hr hc
         (by simp only[List.length_append,List.length_take,List.length_drop];omega)
         (TV.relL_append (TV.relL_append (TV.relL_take _ hcr) hvr) (by rw[hvl];exact TV.relL_drop _ hcr))
        rw[take_drop_mid us (i*k) k j vs.length (by omega) hik vs rfl] at hset
        exact TV.relR_keep hk _ _ _ hset
      ·have:=run_store_block (P:=P) (v:=a.eval x) (us:=cur.toList) C.tok ht (by simpa using hg) hvs (by rw[hvl];exact hb1) (by rw[hvl];omega) hv1 (off:=i*k+j)
       rw[hkk] at hpe
       simp[execOp,ho,hpe,this]
   ·exact h.elim
  ·exact h.elim
 ·exact h.elim
theorem goes_unit {o:Oper} {a:Act} {K:St→Prop} {w':World} {s':St} {y:Value} (hd:o.dst=none) (h:K s') (S:Sim N B0 F0 w0 s' m kk a w')
  (hrun:(execOp a.eval o).run P w=.ok (.value y) w'):Goes P N B0 F0 w0 o a w K:=by
 intro next Q hn
 unfold Oper.wp
 rw[hrun,Oper.upon_value,hd]
 exact hn _ _ _ _ _ h S
omit [Gm] in
theorem relR_split {F:Nat→Prop} {k:Nat}:∀ (i:Nat) {es:List (List TV)} {us:List Value},TV.relR w F k es us→TV.relR w F k (es.take i) (us.take (i*k))∧TV.relR w F k (es.drop i) (us.drop (i*k))
 | 0,es,us,h=>by simp[TV.relR,h]
 | i+1,[],us,h=>by simp only[TV.relR] at h;subst h;simp[TV.relR]
 | i+1,e::es,us,h=>by
  simp only[TV.relR] at h
  obtain⟨u1,u2,rfl,hk,h0,h1⟩:=h
  have hl:=TV.relL_length h0
  obtain⟨i1,i2⟩:=relR_split i h1
  have e1:(i+1)*k=u1.length+i*k:=by rw[hl,hk,Nat.add_mul];omega
  rw[e1,List.take_length_add_append]
  refine⟨?_,?_⟩
  ·simp only[List.take_succ_cons,TV.relR]
   exact⟨u1,_,rfl,hk,h0,i1⟩
  ·rw[List.drop_succ_cons,List.drop_append (l₁:=u1),List.drop_of_length_le (l:=u1) (by omega),List.nil_append,Nat.add_sub_cancel_left];exact i2
omit [Gm] in
theorem zeros_rel {F:Nat→Prop} {k:Nat} {z:Array Value} {zs:List TV} (hz:TV.relL w F zs z.toList) (hk:z.size=k) (h1:OneAll z.toList):∀ n,
  TV.relR w F k (List.replicate n zs) (Builtin.zeroCells z n).toList∧OneAll (Builtin.zeroCells z n).toList
 | 0=>by simp[Builtin.zeroCells,TV.relR,OneAll]
 | n+1=>by
  obtain⟨i1,i2⟩:=zeros_rel hz hk h1 n
  have e:(Builtin.zeroCells z (n+1)).toList=(Builtin.zeroCells z n).toList++z.toList:=by
   simp only[Builtin.zeroCells,Array.toList_map,Array.toList_range,hk]
   rw[Nat.add_mul,Nat.one_mul,List.range_add,List.map_append]
   congr 1
   apply List.ext_getElem
   ·simp[hk]
   ·intro j h1 h2
    simp only[List.length_map,List.length_range] at h1
    simp only[List.getElem_map,List.getElem_range]
    have:(n*k+j) % k=j:=by
     rw[Nat.mul_comm,Nat.mul_add_mod,Nat.mod_eq_of_lt h1]
    rw[this,getElem!_pos z j (by omega)]
    simp
  rw[e,List.replicate_succ']
  have hl:=TV.relL_length hz
  refine⟨TV.relR_append i1 ?_,?_⟩
  ·simp only[TV.relR]
   exact⟨z.toList,[],by simp,by simp at hl;omega,hz,rfl⟩
  ·intro u hu
   rcases List.mem_append.1 hu with hu | hu
   ·exact i2 u hu
   ·exact h1 u hu
theorem clear_goes (C:Ctx P T) {o:Oper} {a:Act} {s:St} {K:St→Prop} (S:Sim N B0 F0 w0 s m kk a w) {as:Array Operand} {ts:Array TypeId} (ho:o.op=.call { callee:=.builtin .clear,args:=as,argTypes:=ts })
  {xo:Operand} (has:as.map a.eval=#[a.eval xo]) {t:TypeId} (hts:ts=#[t]) {x:AV} (hx:x.rel w (Fc F0 B0 s.σ m) m kk (a.eval xo)) (hd:o.dst=none) (h:clearK T s K t x):Goes P N B0 F0 w0 o a w K:=by
 unfold clearK at h
 split at h
 ·rename_i e sz by' z0 q l i n ht
  split at h
  ·rename_i e' k es ei hl hei
   cases hb:Nat.beq ei.size k with
   | false=>simp[hb] at h
   | true =>
    simp only[hb,cond_true] at h
    have hk:=Nat.eq_of_beq_eq_true hb
    obtain⟨d,hdd,hun⟩:=C.tok.under (w:=w) ht
    simp only[Ty.fits] at hdd;subst hdd
    obtain⟨info,ed,i1,i2,i3,i4,i5,⟨z,z1,z2,z3,z4⟩,_⟩:=C.tok _ _ hei
    have hz:(zeroValue e).run P w=.ok z w:=by simp[zeroValue,typeInfo,i1,z1]
    obtain⟨us,hown,hr,h1,hk0,hkk⟩:=S.ob l _ hl
    have hcut:n=0→es.take i++List.replicate n ei.zero++es.drop (i+n)=es:=by rintro rfl;simp
    have hnone:n=0→(execOp a.eval o).run P w=.ok (.value (.tuple #[])) w→Goes P N B0 F0 w0 o a w K:=by
     intro h0 hrun
     rw[hcut h0] at h
     refine goes_unit hd h ?_ hrun (m:=m) (kk:=kk)
     have hlook:∀ l' q,look l' ((l,AO.row e' k es)::s.σ)=some q→look l' s.σ=some q:=by
      intro l' q h
      rw[look_cons] at h
      by_cases e:l'=l
      ·subst e;simp at h;rw[←h];exact hl
      ·simpa only[e,if_false] using h
     have hkp:Keeps w (Fc F0 B0 s.σ m) w (Fc F0 B0 ((l,AO.row e' k es)::s.σ) m):=keeps_mono fun b hb=>Fc.mono (fun l' o h=>⟨o,hlook l' o h⟩) hb
     refine⟨⟨S.base,S.below,S.gm,fun l' q hq=>?_,fun l1 l2 o1 o2 h1 h2 hne=>S.dj l1 l2 o1 o2 (hlook _ _ h1) (hlook _ _ h2) hne⟩,fun t v hv=>AV.rel_same hkp v _ (S.fr t v hv),S.df,S.sz,S.pn⟩
     exact AO.rel_keep hkp (fun _ _=>rfl) (S.ob l' q (hlook l' q hq))
    simp only[AV.rel] at hx
    rcases hx with⟨g,M,cap,A,hm,hy,hAb,hA,hA0,hin⟩ | ⟨hm,hy,rfl,rfl⟩
    ·by_cases h0:n=0
     ·subst h0
      refine hnone rfl ?_
      simp[execOp,ho,resolve,has,hts,hy,invoke,builtin,Builtin.clear_,hun]
     ·have hAe:=hA (.inl h0)
      subst hAe
      rcases hown.1.2 with⟨hn,_⟩ | ⟨g',cap',cur,hv,hB,hg,hnc,hcm,hcs,htake⟩
      ·rw[hm] at hn;simp at hn
      ·rw[hm] at hv
       simp at hv
       obtain⟨hgg,hMM,hcc⟩:=hv
       subst hgg;subst hMM
       subst hcc
       obtain⟨zr,zo⟩:=zeros_rel (w:=w) (F:=Fc F0 B0 s.σ m) (k:=k) (z2 _ _) (by omega) z3 n
       have hzl:=TV.relR_length zr
       simp only[List.length_replicate] at hzl
       generalize hvs:(Builtin.zeroCells z.cells n).toList=vs at *
       have hul:=TV.relR_length hr
       have hin':i*k+n*k≤es.length*k:=by rw[←Nat.add_mul];exact Nat.mul_le_mul_right k hin
       have hcapk:es.length*k≤cap*k:=Nat.mul_le_mul_right k hnc
       have hst:=run_storeCells_at P g (i*k) e' vs 0 cur w hg (by omega) zo
       have hadd:(⟨g,0,none⟩:Addr).add (i*k)=⟨g,i*k,none⟩:=by unfold Addr.add;split <;> simp_all
       simp only[Nat.add_zero] at hst
       have hgo:obk (m l)=some g:=by rw[hm];rfl
       have hkp:=keep_set S hl hgo (cur.toList.take (i*k)++vs++cur.toList.drop (i*k+vs.length)).toArray
       have hcl:cur.toList.length=cur.size:=Array.length_toList
       have hcut':cur.toList.take us.length=us:=by rw[hul];exact htake
       have hfin:(cur.toList.take (i*k)++vs++cur.toList.drop (i*k+vs.length)).take us.length=us.take (i*k)++vs++us.drop (i*k+vs.length):=by
        conv=>rhs;rw[←hcut']
        rw[List.take_append,List.take_append]
        simp only[List.length_append,List.length_take]
        rw[List.take_take,List.take_take,List.drop_take]
        have a1:min (i*k) cur.toList.length=i*k:=by omega
        rw[a1]
        have a2:min us.length (i*k)=i*k:=by omega
        have a3:min (i*k) us.length=i*k:=by omega
        rw[a2,a3]
        congr 1
        ·congr 1
         rw[List.take_of_length_le (by omega)]
       refine goes_unit (y:=.tuple #[]) hd h (S.write hl hgo _ _ rfl ?_) ?_ (w':=w.setRow g (cur.toList.take (i*k)++vs++cur.toList.drop (i*k+vs.length)).toArray)
       ·have hlen:(es.take i++List.replicate n ei.zero++es.drop (i+n)).length=es.length:=by simp;omega
        refine⟨us.take (i*k)++vs++us.drop (i*k+vs.length),⟨⟨?_,.inr ⟨g,cap,_,by rw[hm,hlen],hB,setRow_heap w g _ _ e' _ hg,by rw[hlen];exact hnc,hcm,?_,?_⟩⟩,hown.2⟩,?_,?_,hk0,hkk⟩
        ·rw[hlen];simp only[List.length_append,List.length_take,List.length_drop];omega
        ·simp only[List.size_toArray,List.length_append,List.length_take,List.length_drop];omega
        ·rw[hlen,←hul];exact hfin
        ·refine TV.relR_keep hkp _ _ _ ?_
         refine TV.relR_append (TV.relR_append (relR_split i hr).1 zr) ?_
         rw[hzl,←Nat.add_mul];exact (relR_split (i+n) hr).2
        ·intro u hu
         simp only[List.mem_append] at hu
         rcases hu with (hu | hu) | hu
         ·exact h1 u (List.mem_of_mem_take hu)
         ·exact zo u hu
         ·exact h1 u (List.mem_of_mem_drop hu)
       ·cases n with
        | zero=>exact absurd rfl h0
        | succ n' =>
         rw[hkk,hadd] at hy
         simp[execOp,ho,resolve,has,hts,hy,invoke,builtin,Builtin.clear_,hun,hz,hvs,hst]
    ·refine hnone rfl ?_
     simp[execOp,ho,resolve,has,hts,hy,invoke,builtin,Builtin.clear_,hun]
  ·exact h.elim
 ·exact h.elim
theorem makeSlice_goes (C:Ctx P T) {o:Oper} {a:Act} {s:St} {K:St→Prop} (S:Sim N B0 F0 w0 s m kk a w) {t:TypeId} {xn xc:Operand} (ho:o.op=.makeSlice t xn xc) {vn vc:AV}
  (hn:vn.rel w (Fc F0 B0 s.σ m) m kk (a.eval xn)) (hc:vc.rel w (Fc F0 B0 s.σ m) m kk (a.eval xc)) (h:makeSliceK T N o.dst t s K vn vc):Goes P N B0 F0 w0 o a w K:=by
 unfold makeSliceK at h
 split at h
 ·rename_i e sz by' z0 q n c ht
  split at h
  ·rename_i ei hei
   cases hb:Nat.blt 0 ei.size with
   | false=>simp[hb] at h
   | true =>
    simp only[hb,cond_true] at h
    have hpos:0<ei.size:=Nat.le_of_ble_eq_true hb
    obtain⟨h0,hnc,hc63,hby,h⟩:=h
    simp only[AV.rel,TV.rel] at hn hc
    obtain⟨hne,_⟩:=hn
    obtain⟨hce,_⟩:=hc
    obtain⟨d,hdd,hun⟩:=C.tok.under (w:=w) ht
    simp only[Ty.fits] at hdd;subst hdd
    obtain⟨info,ed,i1,i2,i3,i4,i5,⟨z,z1,z2,z3,z4⟩,_⟩:=C.tok _ _ hei
    have hwn:IntKind.i64.wrap n=n:=by
     unfold IntKind.wrap;simp[IntKind.bits,IntKind.signed];omega
    have hwc:IntKind.i64.wrap c=c:=by
     unfold IntKind.wrap;simp[IntKind.bits,IntKind.signed];omega
    have hcb:¬ ((info.bytes:Int)*c>2 ^ 48):=by
     rw[i5]
     have:(ei.bytes:Int)*c=((c.toNat*ei.bytes:Nat):Int):=by
      rw[Int.natCast_mul,Int.toNat_of_nonneg (by omega),Int.mul_comm]
     rw[this];omega
    have hbel:=below_alloc w (.cells (Builtin.zeroCells z.cells c.toNat) e)
    have hcellsz:(Builtin.zeroCells z.cells c.toNat).size=c.toNat*ei.size:=by simp[Builtin.zeroCells,z4]
    obtain⟨zr,zo⟩:=zeros_rel (w:=w) (F:=Fc F0 B0 s.σ m) (k:=ei.size) (z2 _ _) (by omega) z3 c.toNat
    have hrun:(execOp a.eval o).run P w=.ok (.value (.slice (some ⟨w.heap.size,0,none⟩) n.toNat c.toNat)) (w.alloc (.cells (Builtin.zeroCells z.cells c.toNat) e)):=by
     have hz:(if c.toNat*ei.size=0 then (pure #[]:Sem (Array Value)) else do pure (← zeroValue e).cells).run P w=.ok (if c.toNat*ei.size=0 then #[] else z.cells) w:=by
      by_cases hz:c.toNat*ei.size=0
      ·simp[hz]
      ·simp[hz,zeroValue,typeInfo,i1,z1]
     have hcl:(Array.range (c.toNat*ei.size)).map (fun i=>(if c.toNat*ei.size=0 then (#[]:Array Value) else z.cells)[i % (if c.toNat*ei.size=0 then (#[]:Array Value) else z.cells).size]!)=Builtin.zeroCells z.cells c.toNat:=by
      by_cases hz:c.toNat*ei.size=0
      ·simp[Builtin.zeroCells,z4,hz]
      ·simp only[hz,if_false,Builtin.zeroCells,z4]
     have hi:(Go.typeInfo e).run P w=.ok info w:=by simp[typeInfo,i1]
     have hcond:((decide (c<0)||decide ((info.bytes:Int)*c>2 ^ 48)||decide (n<0)||decide (n>c)):Bool)=false:=by
      simp only[Bool.or_eq_false_iff,decide_eq_false_iff_not]
      exact⟨⟨⟨by omega,hcb⟩,by omega⟩,by omega⟩
     have hroom:¬ c.toNat*info.bytes>roomBytes:=by rw[i5];unfold roomBytes;omega
     simp only[execOp,ho,Instr.makeSlice,hne,hce,asInt,asIntOf,Sem.run_bind,Sem.run_pure,Result.andThen_ok,hun,hi,hwn,hwc,hcond,Bool.false_eq_true,if_false,askRoom,hroom,C.tok.size hei,Sem.run_ite]
     by_cases hz0:c.toNat*ei.size=0
     ·simp only[hz0,if_true]
      simp only[hz0,if_true] at hcl
      rw[←hcl]
      simp[newRow]
     ·simp only[hz0,if_false]
      simp only[hz0,if_false,Sem.run_bind,Sem.run_pure] at hcl hz
      have hz':(zeroValue e).run P w=.ok z w:=by simp[zeroValue,typeInfo,i1,z1]
      rw[hz']
      simp only[Result.andThen_ok]
      rw[hcl]
      simp[newRow]
    refine goes_lay (x:=.slice (some ⟨w.heap.size,0,none⟩) n.toNat c.toNat) (k:=ei.size) h S hrun ?_ ?_
    ·intro d hd
     have hnc':n.toNat≤c.toNat:=by omega
     have hmul:n.toNat*ei.size≤c.toNat*ei.size:=Nat.mul_le_mul_right _ hnc'
     refine heap_row S d e ei.size _ _ ((Builtin.zeroCells z.cells c.toNat).toList.take (n.toNat*ei.size)) hpos hbel ?_ ?_ (fun u hu=>zo u (List.mem_of_mem_take hu))
     ·refine⟨by simp only[List.length_take,Array.length_toList,hcellsz,List.length_replicate];omega,.inr ⟨w.heap.size,c.toNat,_,by simp,Nat.le_refl _,heap_alloc_new w _,by simpa using hnc',by simp only[maxLen];omega,hcellsz,by simp⟩⟩
     ·have:=(relR_split n.toNat zr).1
      rw[List.take_replicate,Nat.min_eq_left hnc'] at this
      refine TV.relR_keep ?_ _ _ _ this
      intro b hb hlt
      exact⟨⟨hb,by simp[obk];omega⟩,hbel.block b hlt⟩
    ·intro d hd
     simp only[AV.rel]
     exact⟨(upd_same _ _ _).symm,.inl ⟨_,_,_,upd_same _ _ _⟩⟩
  ·exact h.elim
 ·exact h.elim
end
end
section
section
variable {P:Program} {T:TyTab} {w:World} {N:Nat} {B0:Nat→Prop} {F0:Nat→Prop} {w0:PW} {m:Nat→Value} {kk:Nat→Nat}
omit [Gm] in
theorem below_drew (w:World):Below w.heap.size w w.drew:=⟨rfl,rfl,rfl,Nat.le_refl _,fun _ _=>rfl⟩
theorem elems_rel {s:St} (H:Heap B0 F0 w0 s.σ m kk w) {x:AV} {y:Value} (hx:x.rel w (Fc F0 B0 s.σ m) m kk y) {es:List (List TV)} {k:Nat} (he:elemsOf s.σ x=some es) (hk:kOf s.σ x=some k) :
  ∃ A c us,y=.slice A es.length c∧(es=[]∨0<k)∧TV.relR w (Fc F0 B0 s.σ m) k es us∧OneAll us∧((A=none∧us=[])∨∃ a,A=some a∧CellsAt w a us):=by
 unfold elemsOf at he
 split at he
 ·rename_i k' es'
  simp only[Option.some.injEq] at he;subst he
  simp only[kOf,Option.some.injEq] at hk;subst hk
  simp only[AV.rel,TV.rel] at hx
  obtain⟨A,c,us,rfl,_,_,hk0,hr,ho,hm⟩:=hx
  refine⟨A,c,us,rfl,.inr hk0,hr,ho,?_⟩
  rcases hm with rfl | ⟨a,rfl,_,hc⟩
  ·cases A with
   | none=>exact .inl ⟨rfl,rfl⟩
   | some a=>exact .inr ⟨a,rfl,fun j u hj=>by simp at hj⟩
  ·exact .inr ⟨a,rfl,hc⟩
 ·simp only[Option.some.injEq] at he;subst he
  simp only[AV.rel,TV.rel] at hx
  obtain⟨rfl,_⟩:=hx
  exact⟨none,0,[],rfl,.inl rfl,by simp[TV.relR],fun u hu=>by simp at hu,.inl ⟨rfl,rfl⟩⟩
 ·rename_i l
  split at he
  ·rename_i e k' es' hl
   simp only[Option.some.injEq] at he;subst he
   simp only[kOf,hl,Option.some.injEq] at hk;subst hk
   simp only[AV.rel] at hx
   obtain⟨rfl,_⟩:=hx
   obtain⟨us,hown,hr,h1,hk0,hkk⟩:=H.ob l _ hl
   rcases hown.1.2 with⟨hn,hn0⟩ | ⟨g,cap,cur,hv,hB,hg,hnc,hcm,_⟩
   ·refine⟨none,0,us,by rw[hn,hn0],.inr hk0,hr,h1,.inl ⟨rfl,?_⟩⟩
    have:=TV.relR_length hr
    rw[hn0,Nat.zero_mul] at this
    exact List.eq_nil_of_length_eq_zero this
   ·exact⟨_,cap,us,hv,.inr hk0,hr,h1,.inr ⟨_,rfl,hown.1.cells (g:=g) (by rw[hv];rfl)⟩⟩
  ·cases he
 ·cases he
omit [Gm] in
theorem run_append (hT:TOK P T) {t ty e:TypeId} {ti ei:TI} (ht:T t=some ti) (hd:ti.d=.slice e) (he:T e=some ei) (hsz:0<ei.size) (base:Nat) (hbase:base≤w.heap.size)
  {v:Value} {n:Nat} {xs:List Value} (hown:w.ownsRow base e ei.size v n xs) {A:Option Addr} {c mm:Nat} {news:List Value} (hl:news.length=mm*ei.size) (h1:OneAll news)
  (hA:(A=none∧news=[])∨∃ a,A=some a∧CellsAt w a news) (h63:n+mm≤maxLen) (hbytes:(n+mm)*ei.bytes≤140737488355328) :
  ∃ v' w',(Builtin.append_ #[t,t] ty #[v,.slice A mm c]).run P w=.ok v' w'∧w'.ownsRow base e ei.size v' (n+mm) (xs++news)∧w.grownBy w' v.ownBlock ∧
   (v'.ownBlock=v.ownBlock∨v'.ownBlock=some w.heap.size):=by
 obtain⟨info,d,i1,i2,i3,_⟩:=hT _ _ ht
 rw[hd] at i3;simp only[Ty.fits] at i3;subst i3
 obtain⟨einfo,ed,e1,e2,e3,e4,e5,⟨z,z1,z2,z3,z4⟩,_⟩:=hT _ _ he
 rcases hA with⟨rfl,rfl⟩ | ⟨a,rfl,hc⟩
 ·have hm0:mm=0:=by
   rcases Nat.eq_zero_or_pos mm with h | h
   ·exact h
   ·have:0<mm*ei.size:=Nat.mul_pos h hsz
    simp at hl;omega
  subst hm0
  refine⟨v,w,?_,by simpa using hown,⟨rfl,rfl,rfl,Nat.le_refl _,fun _ _ _=>rfl⟩,.inl rfl⟩
  rcases hown.2 with⟨rfl,rfl⟩ | ⟨g,cap,cur,rfl,_,_,hnc,_⟩
  ·simp[Builtin.append_,run_underlying i2,sizeOf,typeInfo,e1,Builtin.lenOf,Builtin.firstCells]
  ·simp[Builtin.append_,run_underlying i2,sizeOf,typeInfo,e1,Builtin.lenOf,Builtin.firstCells,hnc,storeCells]
 ·obtain⟨v',w',r1,r2,r3,_,r4⟩:=run_append_own_at (P:=P) w base t ty e einfo z ei.size ei.bytes i2 e1 z1 e4 e5 z4 hsz v n xs hown a mm c news hl hc h1 h63 hbytes hbase
  exact⟨v',w',r1,r2,r3,r4⟩
omit [Gm] in
theorem run_append_sb (hT:TOK P T) {t ty e:TypeId} {ti ei:TI} (ht:T t=some ti) (hd:ti.d=.slice e) (he:T e=some ei) (hsz:0<ei.size)
  {g N c0 i n:Nat} {xs:List Value} (hown:w.ownsRow 0 e ei.size (.slice (some ⟨g,0,none⟩) N c0) N xs) (hin:i+n=N) {A:Addr} (hA1:n≠0∨i<c0→A=(⟨g,0,none⟩:Addr).add (i*ei.size))
  {a:Addr} {c mm:Nat} {news:List Value} (hmm:0<mm) (hl:news.length=mm*ei.size) (h1:OneAll news) (hc:CellsAt w a news) (h63:n+mm≤maxLen) (hbytes:(n+mm)*ei.bytes≤140737488355328) :
  (i<c0∧∃ w',(Builtin.append_ #[t,t] ty #[.slice (some A) n (c0-i),.slice (some a) mm c]).run P w=.ok (.slice (some A) (n+mm) (c0-i)) w' ∧
    w'.ownsRow 0 e ei.size (.slice (some ⟨g,0,none⟩) (N+mm) c0) (N+mm) (xs++news)∧w.grownBy w' (some g)) ∨
  (∃ c' w',(Builtin.append_ #[t,t] ty #[.slice (some A) n (c0-i),.slice (some a) mm c]).run P w=.ok (.slice (some ⟨w.heap.size,0,none⟩) (n+mm) c') w' ∧
    w'.ownsRow 0 e ei.size (.slice (some ⟨w.heap.size,0,none⟩) (n+mm) c') (n+mm) (xs.drop (i*ei.size)++news)∧w.grownBy w' (some g)):=by
 obtain⟨info,d,i1,i2,i3,_⟩:=hT _ _ ht
 rw[hd] at i3;simp only[Ty.fits] at i3;subst i3
 obtain⟨einfo,ed,e1,e2,e3,e4,e5,⟨z,z1,z2,z3,z4⟩,_⟩:=hT _ _ he
 have hcells:=hown.cells (g:=g) rfl
 rcases hown.2 with⟨hbad,_⟩ | ⟨g',cap,cur,hv,hbg,hg,hnc,hcm,hcs,htake⟩
 ·simp at hbad
 ·simp only[Value.slice.injEq,Option.some.injEq,Addr.mk.injEq,and_true,true_and] at hv
  obtain⟨rfl,rfl⟩:=hv
  have hx0:=hown.1
  clear hown
  rw[←e4] at hl hA1 hx0 hcs htake hsz ⊢
  rw[←e5] at hbytes
  by_cases hroom:n+mm≤c0-i
  ·left
   have hic:i<c0:=by omega
   refine⟨hic,?_⟩
   have hAe:=hA1 (.inr hic)
   have hoff:(i*einfo.size)+n*einfo.size=N*einfo.size:=by rw[←hin,Nat.add_mul]
   have hfit:N*einfo.size+news.length≤cur.size:=by rw[hl,hcs,←Nat.add_mul];exact Nat.mul_le_mul_right _ (by omega)
   have hf:=run_firstCells_some (P:=P) w einfo.size mm a mm c news hl hc
   have hst:=run_storeCells_at P g (N*einfo.size) e news 0 cur w hg (by simpa using hfit) h1
   simp only[Nat.add_zero] at hst
   refine⟨w.setRow g (cur.toList.take (N*einfo.size)++news++cur.toList.drop (N*einfo.size+news.length)).toArray,?_,⟨?_,.inr ⟨g,c0,_,rfl,Nat.zero_le _,setRow_heap w g cur _ e _ hg,by omega,hcm,?_,?_⟩⟩,⟨rfl,rfl,rfl,by simp,fun k _ hk=>setRow_other w g k _ (fun e=>hk (by simp[e]))⟩⟩
   ·subst hAe
    simp[Builtin.append_,run_underlying i2,sizeOf,typeInfo,e1,Builtin.lenOf,hroom,hf,Addr.add_lit,hoff,hst]
   ·rw[List.length_append,hx0,hl,Nat.add_mul]
   ·simp only[List.size_toArray,List.length_append,List.length_take,List.length_drop,Array.length_toList]
    omega
   ·have hlen:(xs++news).length=(N+mm)*einfo.size:=by rw[List.length_append,hx0,hl,Nat.add_mul]
    rw[htake,←hlen]
    exact List.take_left
  ·right
   have hlx:(xs.drop (i*einfo.size)).length=n*einfo.size:=by rw[List.length_drop,hx0,←hin,Nat.add_mul];omega
   have holds:∀ j u,(xs.drop (i*einfo.size))[j]?=some u→w.cell? (A.add j)=some u:=by
    intro j u hj
    have hne:n≠0:=by
     intro h0
     rw[h0,Nat.zero_mul] at hlx
     rw[List.eq_nil_of_length_eq_zero hlx] at hj
     simp at hj
    rw[hA1 (.inl hne),add_add]
    rw[List.getElem?_drop] at hj
    exact hcells _ _ hj
   have hr:=run_append_grow (P:=P) w t ty e einfo z i2 e1 z1 A n (c0-i) _ hlx holds a mm c news hl hc (by omega) (by simp only[maxLen] at h63;omega) (growslice_fits (by omega) hbytes)
   have hge:=grownCap_ge w (n+mm) (c0-i) e
   have hcm':grownCap w (n+mm) (c0-i) e≤maxLen:=grownCap_le_maxLen w (n+mm) (c0-i) e h63
   have hlen:(xs.drop (i*einfo.size)++news).length=(n+mm)*einfo.size:=by rw[List.length_append,hlx,hl,Nat.add_mul]
   refine⟨_,_,hr,⟨hlen,.inr ⟨w.heap.size,_,_,rfl,Nat.zero_le _,heap_alloc_new w.drew _,hge,hcm',?_,?_⟩⟩,⟨rfl,rfl,rfl,by simp,fun k hk _=>heap_alloc_old w.drew _ hk⟩⟩
   ·rw[e4] at hlx hl
    simp only[Array.size_append,List.size_toArray,size_zeroCells,z4,e4,hlx,hl,←Nat.add_mul]
    congr 1
    omega
   ·simp only[Array.toList_append,List.append_assoc]
    rw[←List.append_assoc,←hlen]
    exact List.take_left
theorem append_goes (C:Ctx P T) {o:Oper} {a:Act} {s:St} {K:St→Prop} (S:Sim N B0 F0 w0 s m kk a w) {as:Array Operand} {ts:Array TypeId} (ho:o.op=.call { callee:=.builtin .append,args:=as,argTypes:=ts })
  {bo xo:Operand} (has:as.map a.eval=#[a.eval bo,a.eval xo]) {t t':TypeId} (hts:ts=#[t,t']) {b x:AV}
  (hb:b.rel w (Fc F0 B0 s.σ m) m kk (a.eval bo)) (hx:x.rel w (Fc F0 B0 s.σ m) m kk (a.eval xo)) (h:appendK T N o.dst t t' s K b x):Goes P N B0 F0 w0 o a w K:=by
 have hsz0:=S.newB
 unfold appendK at h
 cases htt:Nat.beq t t' with
 | false=>simp[htt] at h
 | true =>
  have:=Nat.eq_of_beq_eq_true htt;subst this
  simp only[htt,cond_true] at h
  split at h
  ·rename_i e sz by' z q ht
   split at h
   ·rename_i ei news kx hei hnews hkx
    cases hkk:(Nat.beq kx ei.size||Nat.beq kx 0)&&Nat.blt 0 ei.size with
    | false=>simp[hkk] at h
    | true =>
     simp only[hkk,cond_true] at h
     simp only[Bool.and_eq_true,Bool.or_eq_true] at hkk
     obtain⟨hkx',hpos⟩:=hkk
     have hpos:0<ei.size:=Nat.le_of_ble_eq_true hpos
     obtain⟨A,c,us,hxe,hk0,hr,h1,hA⟩:=elems_rel S.toHeap hx hnews hkx
     have hr':TV.relR w (Fc F0 B0 s.σ m) ei.size news us:=by
      rcases hkx' with hkx' | hkx'
      ·rw[←Nat.eq_of_beq_eq_true hkx'];exact hr
      ·have hz:=Nat.eq_of_beq_eq_true hkx'
       rcases hk0 with rfl | hk0
       ·simpa [TV.relR] using hr
       ·omega
     have hlen:=TV.relR_length hr'
     split at h
     ·obtain⟨hby,hml,h⟩:=h
      simp only[AV.rel,TV.rel] at hb
      obtain⟨hbe,_⟩:=hb
      obtain⟨v',w',r1,r2,r3,r4⟩:=run_append (P:=P) (ty:=o.type) C.tok ht rfl hei hpos w.heap.size (Nat.le_refl _) (World.ownsRow_nil w w.heap.size e ei.size) hlen h1 hA (c:=c) (by simpa using hml) (by simpa using hby)
      simp only[Nat.zero_add,List.nil_append] at r2
      have hbel:Below w.heap.size w w':=⟨r3.os,r3.tape,r3.output,r3.size,fun i hi=>r3.block i hi (by simp[Value.ownBlock])⟩
      have hob:∀ g,obk v'=some g→g=w.heap.size:=by
       intro g hg
       obtain⟨A',c',he'⟩:=ownsRow_slice r2
       rw[←ownsRow_ownBlock_obk v' ⟨A',_,c',he'⟩] at hg
       rcases r4 with r4 | r4
       ·rw[r4] at hg;simp[Value.ownBlock] at hg
       ·rw[r4] at hg;exact (Option.some.inj hg).symm
      refine goes_lay (x:=v') (k:=ei.size) (y:=v') h S ?_ ?_ ?_ (w':=w')
      ·simp[execOp,ho,resolve,has,hts,invoke,builtin,hbe,hxe,r1]
      ·intro d hd
       refine heap_row S d e ei.size news v' us hpos hbel r2 (TV.relR_keep ?_ _ _ _ hr') h1
       intro b' hb' hlt
       exact⟨⟨hb',fun e'=>by have:=hob b' e';omega⟩,hbel.block b' hlt⟩
      ·intro d hd
       simp only[AV.rel]
       obtain⟨A',c',he'⟩:=ownsRow_slice r2
       exact⟨(upd_same _ _ _).symm,.inl ⟨A',_,c',by rw[upd_same];exact he'⟩⟩
     ·rename_i l
      split at h
      ·rename_i e' k es hl
       cases hek:Nat.beq e e'&&Nat.beq k ei.size&&(Nat.blt l N||Nat.blt l 1000) with
       | false=>simp[hek] at h
       | true =>
        simp only[hek,cond_true] at h
        simp only[Bool.and_eq_true] at hek
        have hlN:(Nat.blt l N||Nat.blt l 1000)=true:=hek.2
        have hee:=Nat.eq_of_beq_eq_true hek.1.1
        have hke:=Nat.eq_of_beq_eq_true hek.1.2
        subst hee
        subst hke
        obtain⟨hby,hml,h⟩:=h
        rw[killK_eq] at h
        simp only[AV.rel] at hb
        obtain⟨hbe,_⟩:=hb
        obtain⟨us0,hown,hr0,h10,hk00,hkk0⟩:=S.ob l _ hl
        obtain⟨Ab,nb,cb,hmb⟩:=owns_slice hown.1
        obtain⟨v',w',r1,r2,r3,r4⟩:=run_append (P:=P) (ty:=o.type) C.tok ht rfl hei hpos 0 (Nat.zero_le _) hown.1 hlen h1 hA (c:=c) hml hby
        have hobm:(m l).ownBlock=obk (m l):=ownsRow_ownBlock_obk _ ⟨Ab,nb,cb,hmb⟩
        obtain⟨A',c',he'⟩:=ownsRow_slice r2
        have hobv:v'.ownBlock=obk v':=ownsRow_ownBlock_obk _ ⟨A',_,c',he'⟩
        have hlay:=Heap.lay (w':=w') S.toHeap l v' ei.size (.row e ei.size (es++news))
         (fun b' hb' hne=>r3.block b' hb' (fun e'=>hne _ hl (by rw[←hobm];exact e'.symm))) r3.size r3.os r3.tape r3.output
         (by
          intro g hg
          rw[←hobv] at hg
          rcases r4 with r4 | r4
          ·right;exact⟨_,hl,by rw[←hobm,←r4];exact hg⟩
          ·left;rw[r4] at hg;injection hg with hg;omega)
         (by
          refine⟨us0++us,⟨by rw[upd_same];simpa using r2,fun g hg=>?_⟩,?_,?_,hk00,upd_same _ _ _⟩
          ·rw[upd_same,←hobv] at hg
           rcases r4 with r4 | r4
           ·exact hown.2 g (by rw[←hobm,←r4];exact hg)
           ·rw[r4] at hg;injection hg with hg;exact hsz0 _ (by omega)
          ·have hkp:Keeps w (Fc F0 B0 s.σ m) w' (Fc F0 B0 ((l,.row e ei.size (es++news))::killS l s.σ) (upd m l v')):=by
            intro b' hb' hlt
            refine⟨⟨hb'.1,?_⟩,r3.block b' hlt (fun e'=>hb'.2 l _ hl (by rw[←hobm];exact e'.symm))⟩
            intro l' o' hl'
            rw[look_cons] at hl'
            by_cases hll:l'=l
            ·subst hll;rw[upd_same]
             intro e'
             rw[←hobv] at e'
             rcases r4 with r4 | r4
             ·exact hb'.2 l' _ hl (by rw[←hobm,←r4];exact e')
             ·rw[r4] at e';injection e' with e';omega
            ·simp only[hll,if_false,look_killS] at hl'
             rw[upd_ne _ _ hll]
             cases hq:look l' s.σ with
             | none=>simp[hq] at hl'
             | some q=>exact hb'.2 l' q hq
           exact TV.relR_append (TV.relR_keep hkp _ _ _ hr0) (TV.relR_keep hkp _ _ _ hr')
          ·intro u hu
           simp only[List.mem_append] at hu
           rcases hu with hu | hu
           ·exact h10 u hu
           ·exact h1 u hu)
        obtain⟨H',hkp⟩:=hlay
        have S':Sim N B0 F0 w0 ⟨killF l s.φ,(l,.row e ei.size (es++news))::killS l s.σ⟩ (upd m l v') (upd kk l ei.size) a w':=by
         refine⟨H',?_,S.df,S.sz,pn_updL S.pn hlN _ _⟩
         intro t' u hu
         simp only[look_killF] at hu
         cases hq:look t' s.φ with
         | none=>simp[hq] at hu
         | some u' =>
          simp only[hq,Option.map_some,Option.some.injEq] at hu
          subst hu
          exact AV.rel_kill hkp (fun l' h=>⟨upd_ne _ _ h,upd_ne _ _ h⟩) (S.fr t' u' hq)
        refine goes_value (y:=v') h S' ?_ ?_
        ·simp only[AV.rel]
         exact⟨(upd_same _ _ _).symm,.inl ⟨A',_,c',by rw[upd_same];exact he'⟩⟩
        ·simp[execOp,ho,resolve,has,hts,invoke,builtin,hbe,hxe,r1]
      ·exact h.elim
     ·rename_i l i n
      split at h
      ·rename_i e' k es hl
       cases hek:Nat.beq e e'&&Nat.beq k ei.size&&(Nat.blt l N||Nat.blt l 1000) with
       | false=>simp[hek] at h
       | true =>
        simp only[hek,cond_true] at h
        simp only[Bool.and_eq_true] at hek
        have hlN:(Nat.blt l N||Nat.blt l 1000)=true:=hek.2
        have hee:=Nat.eq_of_beq_eq_true hek.1.1
        have hke:=Nat.eq_of_beq_eq_true hek.1.2
        subst hee
        subst hke
        obtain⟨hne,hin,hby,hml,h⟩:=h
        obtain⟨us0,hown,hr0,h10,hk00,hkk0⟩:=S.ob l _ hl
        have hobm:(m l).ownBlock=obk (m l):=by
         obtain⟨Ab,nb,cb,hmb⟩:=owns_slice hown.1
         exact ownsRow_ownBlock_obk _ ⟨Ab,nb,cb,hmb⟩
        have hus0:=TV.relR_length hr0
        have fin:∀ (v' y':Value) (w':World) (es':List (List TV)) (us':List Value) (i' N':Nat),N'=es'.length→i'+(n+news.length)=es'.length→es'.drop i'=es.drop i++news →
          w'.ownsRow 0 e ei.size v' N' us'→w.grownBy w' (m l).ownBlock→(v'.ownBlock=(m l).ownBlock∨v'.ownBlock=some w.heap.size) →
          (∀ F',Keeps w (Fc F0 B0 s.σ m) w' F'→TV.relR w' F' ei.size es' us')→OneAll us' →
          ((AV.sb l i' (n+news.length)).rel w' (Fc F0 B0 ((l,.row e ei.size es')::killS l s.σ) (upd m l v')) (upd m l v') (upd kk l ei.size) y') →
          (Builtin.append_ #[t,t] o.type #[a.eval bo,a.eval xo]).run P w=.ok y' w'→Goes P N B0 F0 w0 o a w K:=by
         intro v' y' w' es' us' i' N' hN' hi' hdrop r2 r3 r4 hrel hone hy hrun
         have h:=h i' es' hi' hdrop
         rw[killK_eq] at h
         obtain⟨A',c',he'⟩:=ownsRow_slice r2
         have hobv:v'.ownBlock=obk v':=ownsRow_ownBlock_obk _ ⟨A',_,c',he'⟩
         have hlay:=Heap.lay (w':=w') S.toHeap l v' ei.size (.row e ei.size es')
          (fun b' hb' hne=>r3.block b' hb' (fun e'=>hne _ hl (by rw[←hobm];exact e'.symm))) r3.size r3.os r3.tape r3.output
          (by
           intro g hg
           rw[←hobv] at hg
           rcases r4 with r4 | r4
           ·right;exact⟨_,hl,by rw[←hobm,←r4];exact hg⟩
           ·left;rw[r4] at hg;injection hg with hg;omega)
          (by
           refine⟨us',⟨by rw[upd_same];subst hN';exact r2,fun g hg=>?_⟩,?_,hone,hk00,upd_same _ _ _⟩
           ·rw[upd_same,←hobv] at hg
            rcases r4 with r4 | r4
            ·exact hown.2 g (by rw[←hobm,←r4];exact hg)
            ·rw[r4] at hg;injection hg with hg;exact hsz0 _ (by omega)
           ·have hkp:Keeps w (Fc F0 B0 s.σ m) w' (Fc F0 B0 ((l,.row e ei.size es')::killS l s.σ) (upd m l v')):=by
             intro b' hb' hlt
             refine⟨⟨hb'.1,?_⟩,r3.block b' hlt (fun e'=>hb'.2 l _ hl (by rw[←hobm];exact e'.symm))⟩
             intro l' o' hl'
             rw[look_cons] at hl'
             by_cases hll:l'=l
             ·subst hll;rw[upd_same]
              intro e'
              rw[←hobv] at e'
              rcases r4 with r4 | r4
              ·exact hb'.2 l' _ hl (by rw[←hobm,←r4];exact e')
              ·rw[r4] at e';injection e' with e';omega
             ·simp only[hll,if_false,look_killS] at hl'
              rw[upd_ne _ _ hll]
              cases hq:look l' s.σ with
              | none=>simp[hq] at hl'
              | some q=>exact hb'.2 l' q hq
            exact hrel _ hkp)
         obtain⟨H',hkp⟩:=hlay
         have S':Sim N B0 F0 w0 ⟨killF l s.φ,(l,.row e ei.size es')::killS l s.σ⟩ (upd m l v') (upd kk l ei.size) a w':=by
          refine⟨H',?_,S.df,S.sz,pn_updL S.pn hlN _ _⟩
          intro t' u hu
          simp only[look_killF] at hu
          cases hq:look t' s.φ with
          | none=>simp[hq] at hu
          | some u' =>
           simp only[hq,Option.map_some,Option.some.injEq] at hu
           subst hu
           exact AV.rel_kill hkp (fun l' h=>⟨upd_ne _ _ h,upd_ne _ _ h⟩) (S.fr t' u' hq)
         refine goes_value (y:=y') h S' hy ?_
         simp[execOp,ho,resolve,has,hts,invoke,builtin,hrun]
        have hpos':0<news.length:=List.length_pos_iff.2 hne
        rcases hA with⟨rfl,rfl⟩ | ⟨ad,rfl,hc⟩
        ·exfalso
         have:0<news.length*ei.size:=Nat.mul_pos hpos' hpos
         simp at hlen;omega
        ·simp only[AV.rel] at hb
         rcases hb with⟨g,NN,c0,A,hm,hbe,hAb,hA1,hA0,hle⟩ | ⟨hm,hbe,rfl,rfl⟩
         ·rw[hm] at hown
          have hNN:NN=es.length:=by
           rcases hown.1.2 with⟨hbad,_⟩ | ⟨g',cap,cur,hv,_⟩
           ·simp at hbad
           ·simp only[Value.slice.injEq] at hv;exact hv.2.1
          subst hNN
          rw[hkk0] at hA1
          rcases run_append_sb (P:=P) (ty:=o.type) C.tok ht rfl hei hpos hown.1 hin hA1 hpos' hlen h1 hc (c:=c) hml hby with⟨hic,w',r1,r2,r3⟩ | ⟨c',w',r1,r2,r3⟩
          ·refine fin (.slice (some ⟨g,0,none⟩) (es.length+news.length) c0) _ w' (es++news) _ i (es.length+news.length) (by simp) (by simp;omega) (by rw[List.drop_append_of_le_length (by omega)]) r2 (by rw[hm];exact r3) (.inl (by rw[hm];rfl))
            (fun F' hkp=>TV.relR_append (TV.relR_keep hkp _ _ _ hr0) (TV.relR_keep hkp _ _ _ hr')) ?_ ?_ (by rw[hbe,hxe];exact r1)
           ·intro u hu
            simp only[List.mem_append] at hu
            rcases hu with hu | hu
            ·exact h10 u hu
            ·exact h1 u hu
           ·simp only[AV.rel,upd_same]
            exact .inl ⟨g,_,c0,A,rfl,rfl,hAb,fun _=>hA1 (.inr hic),hA0,by omega⟩
          ·refine fin (.slice (some ⟨w.heap.size,0,none⟩) (n+news.length) c') _ w' (es.drop i++news) _ 0 (n+news.length) (by simp;omega) (by simp;omega) rfl r2 (by rw[hm];exact r3) (.inr rfl)
            (fun F' hkp=>TV.relR_append (TV.relR_keep hkp _ _ _ (TV.relR_drop i hr0)) (TV.relR_keep hkp _ _ _ hr')) ?_ ?_ (by rw[hbe,hxe];exact r1)
           ·intro u hu
            simp only[List.mem_append] at hu
            rcases hu with hu | hu
            ·exact h10 u (List.mem_of_mem_drop hu)
            ·exact h1 u hu
           ·simp only[AV.rel,upd_same]
            exact .inl ⟨w.heap.size,_,c',_,rfl,rfl,rfl,fun _=>by rw[Nat.zero_mul];rfl,fun _=>rfl,by omega⟩
         ·have he0:es=[]:=List.eq_nil_of_length_eq_zero (by omega)
          subst he0
          rw[hm] at hown
          obtain⟨v',w',r1,r2,r3,r4⟩:=run_append (P:=P) (ty:=o.type) C.tok ht rfl hei hpos 0 (Nat.zero_le _) (World.ownsRow_nil w 0 e ei.size) hlen h1 (.inr ⟨ad,rfl,hc⟩) (c:=c) (by simpa using hml) (by simpa using hby)
          simp only[Nat.zero_add,List.nil_append] at r2
          obtain⟨A',c',he'⟩:=ownsRow_slice r2
          refine fin v' v' w' news _ 0 news.length rfl (by simp) (by simp) r2 (by rw[hm];exact r3) (by rw[hm];exact r4) (fun F' hkp=>TV.relR_keep hkp _ _ _ hr') h1 ?_ (by rw[hbe,hxe];exact r1)
          rcases r2.2 with⟨hn,hn0⟩ | ⟨g,cap,cur,hv,_⟩
          ·omega
          ·subst hv
           simp only[AV.rel,upd_same,Nat.zero_add]
           exact .inl ⟨g,_,cap,_,rfl,rfl,rfl,fun _=>by rw[Nat.zero_mul];rfl,fun _=>rfl,by omega⟩
      ·exact h.elim
     ·exact h.elim
   ·exact h.elim
  ·exact h.elim
omit [Gm] in
theorem relR_cells {F:Nat→Prop} {k:Nat}:∀ {xs:List TV} {us:List Value} {es:List (List TV)},TV.relL w F xs us→mapO cellsT xs=some es→allLen k es=true →
  TV.relR w F k es (us.flatMap fun u=>u.cells.toList)∧OneAll (us.flatMap fun u=>u.cells.toList)∧(∀ u∈us,u.cells.size=k)∧es.length=us.length
 | [],us,es,h,he,_=>by
  simp only[mapO,Option.some.injEq] at he;subst he
  simp only[TV.relL] at h;subst h
  exact⟨by simp[TV.relR],fun u hu=>by simp at hu,fun u hu=>by simp at hu,rfl⟩
 | x::xs,us,es,h,he,hl=>by
  simp only[mapO] at he
  split at he
  ·rename_i c cs hc hcs
   injection he with he;subst he
   simp only[TV.relL] at h
   obtain⟨u,us',rfl,h0,h1⟩:=h
   simp only[allLen,Bool.and_eq_true] at hl
   obtain⟨i1,i2,i3,i4⟩:=relR_cells h1 hcs hl.2
   obtain⟨j1,j2⟩:=rel_cellsT (fun _=>.nilFunc) (fun _=>0) h0 hc
   have hck:=Nat.eq_of_beq_eq_true hl.1
   refine⟨?_,?_,?_,by simp[i4]⟩
   ·simp only[TV.relR,List.flatMap_cons]
    exact⟨_,_,rfl,hck,j1,i1⟩
   ·intro u' hu'
    simp only[List.flatMap_cons,List.mem_append] at hu'
    rcases hu' with hu' | hu'
    ·exact j2 u' hu'
    ·exact i2 u' hu'
   ·intro u' hu'
    rcases List.mem_cons.1 hu' with rfl | hu'
    ·have:=TV.relL_length j1;simp at this;omega
    ·exact i3 u' hu'
  ·cases he
omit [Gm] in
theorem fill_seq (k:Nat):∀ (us:List Value) (i:Nat) (cells:Array Value),(∀ u∈us,u.cells.size=k)→(i+us.length)*k≤cells.size →
  ∃ cells',Instr.fill (fun i=>some (i*k,k)) cells ((us.zipIdx i).map fun p=>(p.2,p.1))=some cells'∧cells'.toList=cells.toList.take (i*k)++us.flatMap (fun u=>u.cells.toList)++cells.toList.drop ((i+us.length)*k)
 | [],i,cells,_,_=>⟨cells,rfl,by simp⟩
 | u::us,i,cells,hk,hl=>by
  have hu:=hk u (by simp)
  simp only[List.length_cons] at hl
  have e0:(i+(us.length+1))*k=i*k+us.length*k+k:=by rw[Nat.add_mul,Nat.add_mul];omega
  have hput:=foldl_put (i*k) u.cells.toList 0 cells (by simp;rw[hu];omega)
  have hfold:(u.cells.zipIdx.foldl (fun (cs:Array Value) (p:Value×Nat)=>cs.setIfInBounds (i*k+p.2) p.1) cells).toList=cells.toList.take (i*k)++u.cells.toList++cells.toList.drop (i*k+k):=by
   rw[←Array.foldl_toList,Array.toList_zipIdx]
   have:u.cells.toList.length=k:=by simpa using hu
   simpa [this,hu] using hput
  have hsz:(u.cells.zipIdx.foldl (fun (cs:Array Value) (p:Value×Nat)=>cs.setIfInBounds (i*k+p.2) p.1) cells).size=cells.size:=by
   rw[←Array.length_toList,hfold]
   simp;rw[hu];omega
  have hidx:i+1+us.length=i+(us.length+1):=by omega
  obtain⟨cells',h1,h2⟩:=fill_seq k us (i+1) _ (fun u' hu'=>hk u' (by simp[hu'])) (by rw[hsz,hidx];exact hl)
  refine⟨cells',?_,?_⟩
  ·simp only[List.zipIdx_cons,List.map_cons,Instr.fill]
   rw[if_neg (by simp[hu];omega)]
   exact h1
  ·rw[h2,hfold]
   have hlen:(cells.toList.take (i*k)++u.cells.toList).length=(i+1)*k:=by
    simp[hu];rw[Nat.add_mul];omega
   have e1:(i+1+us.length)*k=(i+1)*k+us.length*k:=by rw[Nat.add_mul]
   rw[e1,←hlen,List.take_left,←List.drop_drop,List.drop_left,List.drop_drop]
   have e2:i*k+k+us.length*k=(i+(us.length+1))*k:=by omega
   simp only[List.flatMap_cons,List.length_cons,e2,List.append_assoc]
omit [Gm] in
theorem lit_run (C:Ctx P T) {a:Act} {F:Nat→Prop} {t e:TypeId} {ti ei:TI} (ht:T t=some ti) (hdd:ti.d=.slice e) (hei:T e=some ei) {o:Oper} {n:Nat} {parts:Array (Nat×Operand)} (ho:o.op=.buildSlice t n parts)
  {xs:List TV} (hxr:TV.relL w F xs ((parts.toList.map (·.2)).map a.eval)) {es:List (List TV)} (hes:mapO cellsT xs=some es)
  (hb:(seqFrom 0 parts.toList&&Nat.beq parts.toList.length n&&allLen ei.size es&&Nat.ble (n*ei.size) 16777216&&Nat.blt 0 ei.size)=true) :
  ∃ cells' us,(execOp a.eval o).run P w=.ok (.value (.slice (some ⟨w.heap.size,0,none⟩) n n)) (w.alloc (.cells cells' e))∧es.length=n∧TV.relR w F ei.size es us∧OneAll us ∧
   CellsAt (w.alloc (.cells cells' e)) ⟨w.heap.size,0,none⟩ us∧n≤maxLen∧0<ei.size:=by
 simp only[Bool.and_eq_true] at hb
 obtain⟨⟨⟨⟨b1,b2⟩,b3⟩,b4⟩,b5⟩:=hb
 have hn:=Nat.eq_of_beq_eq_true b2
 have hlim:=Nat.le_of_ble_eq_true b4
 have hpos:0<ei.size:=Nat.le_of_ble_eq_true b5
 obtain⟨r1,r2,r3,r4⟩:=relR_cells hxr hes b3
 obtain⟨d,hd,hun⟩:=C.tok.under (w:=w) ht
 rw[hdd] at hd
 simp only[Ty.fits] at hd;subst hd
 obtain⟨zv,hz,hz2,hz3⟩:=C.tok.zero (w:=w) hei
 generalize hus:(parts.toList.map (·.2)).map a.eval=us at *
 have hul:us.length=n:=by rw[←hus];simpa using hn
 have hseq:∀ (l:List (Nat×Operand)) (i:Nat),seqFrom i l=true→l.map (fun p=>(p.1,a.eval p.2))=(((l.map (·.2)).map a.eval).zipIdx i).map fun p=>(p.2,p.1):=by
  intro l
  induction l with
  | nil=>intro i _;rfl
  | cons p l ih =>
   intro i hi
   obtain⟨pi,px⟩:=p
   simp only[seqFrom,Bool.and_eq_true] at hi
   have:=Nat.eq_of_beq_eq_true hi.1;subst this
   simp only[List.map_cons,List.zipIdx_cons]
   rw[ih _ hi.2]
 have hmap:(parts.map fun p=>(p.1,a.eval p.2)).toList=(us.zipIdx 0).map fun p=>(p.2,p.1):=by
  rw[Array.toList_map,hseq _ 0 b1,hus]
 let z0:Array Value:=if n*ei.size=0 then #[] else zv.cells
 obtain⟨cells',hf,hcl⟩:=fill_seq ei.size us 0 ((Array.range (n*ei.size)).map fun i=>z0[i % z0.size]!) r3 (by simp[hul])
 have hcl':cells'=(us.flatMap fun u=>u.cells.toList).toArray:=by
  have:cells'.toList=us.flatMap fun u=>u.cells.toList:=by
   rw[hcl];simp[hul]
  rw[←this]
 have hrun:(execOp a.eval o).run P w=.ok (.value (.slice (some ⟨w.heap.size,0,none⟩) n n)) (w.alloc (.cells cells' e)):=by
  have hnl:¬ n*ei.size>2 ^ 24:=by show ¬ n*ei.size>16777216;omega
  have hm2:(Array.map (fun x=>(x.fst,a.eval x.snd)) parts).toList=(us.zipIdx 0).map fun p=>(p.2,p.1):=hmap
  by_cases h0:n*ei.size=0
  ·have hz0:z0=#[]:=by simp only[z0,h0,if_true]
   rw[hz0] at hf
   have hr0:Array.range 0=#[]:=rfl
   simp only[execOp,ho,Sem.run_bind,Instr.buildSlice,hun,C.tok.size hei,Result.andThen_ok,Sem.run_ite,Sem.run_pure,h0,if_true,hm2]
   rw[h0,hr0] at hf
   simp only[Array.map_empty] at hf
   simp[hf,newRow,hr0]
  ·have hz0:z0=zv.cells:=by simp only[z0,h0,if_false]
   rw[hz0] at hf
   simp only[execOp,ho,Sem.run_bind,Instr.buildSlice,hun,C.tok.size hei,Result.andThen_ok,Sem.run_ite,hnl,if_false,Sem.run_pure,h0,hz,hm2]
   simp[hf,newRow]
 have hlen:es.length=n:=by rw[r4,hul]
 have hcell:CellsAt (w.alloc (.cells cells' e)) ⟨w.heap.size,0,none⟩ (us.flatMap fun u=>u.cells.toList):=by
  rw[hcl'];exact cellsAt_block (heap_alloc_new w _)
 have hflat:(us.flatMap fun u=>u.cells.toList).length=n*ei.size:=by rw[TV.relR_length r1,hlen]
 have hmax:n≤maxLen:=by
  have:n≤n*ei.size:=Nat.le_mul_of_pos_right n hpos
  simp only[maxLen];omega
 exact⟨cells',_,hrun,hlen,r1,r2,hcell,hmax,hpos⟩
theorem buildSlice_goes (C:Ctx P T) {own:List Nat} {o:Oper} {a:Act} {s:St} {K:St→Prop} (S:Sim N B0 F0 w0 s m kk a w) {t:TypeId} {n:Nat} {parts:Array (Nat×Operand)} (ho:o.op=.buildSlice t n parts)
  {lk:Operand→Option AV} (hl:∀ x v,lk x=some v→v.rel w (Fc F0 B0 s.σ m) m kk (a.eval x)) (h:buildSliceK T own N o.dst t n parts.toList lk s K):Goes P N B0 F0 w0 o a w K:=by
 have hsz0:=S.newB
 unfold buildSliceK at h
 split at h
 ·rename_i e sz by' z q ht
  split at h
  ·rename_i ei vs hei hvs
   obtain⟨xs,s',hfr,h⟩:=freezeK_spec h
   ·split at h
    ·rename_i es hes
     cases hb:seqFrom 0 parts.toList&&Nat.beq parts.toList.length n&&allLen ei.size es&&Nat.ble (n*ei.size) 16777216&&Nat.blt 0 ei.size with
     | false=>rw[hb] at h;exact h.elim
     | true =>
      simp only[hb,cond_true] at h
      simp only[Bool.and_eq_true] at hb
      obtain⟨⟨⟨⟨b1,b2⟩,b3⟩,b4⟩,b5⟩:=hb
      have hn:=Nat.eq_of_beq_eq_true b2
      have hlim:=Nat.le_of_ble_eq_true b4
      have hpos:0<ei.size:=Nat.le_of_ble_eq_true b5
      obtain⟨S',hxr⟩:=S.freeze hfr (lkAll_rel hl _ _ hvs)
      obtain⟨r1,r2,r3,r4⟩:=relR_cells hxr hes b3
      obtain⟨d,hd,hun⟩:=C.tok.under (w:=w) ht
      simp only[Ty.fits] at hd;subst hd
      obtain⟨zv,hz,hz2,hz3⟩:=C.tok.zero (w:=w) hei
      generalize hus:(parts.toList.map (·.2)).map a.eval=us at *
      have hul:us.length=n:=by rw[←hus];simpa using hn
      have hseq:∀ (l:List (Nat×Operand)) (i:Nat),seqFrom i l=true→l.map (fun p=>(p.1,a.eval p.2))=(((l.map (·.2)).map a.eval).zipIdx i).map fun p=>(p.2,p.1):=by
       intro l
       induction l with
       | nil=>intro i _;rfl
       | cons p l ih =>
        intro i hi
        obtain⟨pi,px⟩:=p
        simp only[seqFrom,Bool.and_eq_true] at hi
        have:=Nat.eq_of_beq_eq_true hi.1;subst this
        simp only[List.map_cons,List.zipIdx_cons]
        rw[ih _ hi.2]
      have hmap:(parts.map fun p=>(p.1,a.eval p.2)).toList=(us.zipIdx 0).map fun p=>(p.2,p.1):=by
       rw[Array.toList_map,hseq _ 0 b1,hus]
      let z0:Array Value:=if n*ei.size=0 then #[] else zv.cells
      obtain⟨cells',hf,hcl⟩:=fill_seq ei.size us 0 ((Array.range (n*ei.size)).map fun i=>z0[i % z0.size]!) r3 (by simp[hul])
      have hcl':cells'=(us.flatMap fun u=>u.cells.toList).toArray:=by
       have:cells'.toList=us.flatMap fun u=>u.cells.toList:=by
        rw[hcl];simp[hul]
       rw[←this]
      have hrun:(execOp a.eval o).run P w=.ok (.value (.slice (some ⟨w.heap.size,0,none⟩) n n)) (w.alloc (.cells cells' e)):=by
       have hnl:¬ n*ei.size>2 ^ 24:=by show ¬ n*ei.size>16777216;omega
       have hm2:(Array.map (fun x=>(x.fst,a.eval x.snd)) parts).toList=(us.zipIdx 0).map fun p=>(p.2,p.1):=hmap
       by_cases h0:n*ei.size=0
       ·have hz0:z0=#[]:=by simp only[z0,h0,if_true]
        rw[hz0] at hf
        have hr0:Array.range 0=#[]:=rfl
        simp only[execOp,ho,Sem.run_bind,Instr.buildSlice,hun,C.tok.size hei,Result.andThen_ok,Sem.run_ite,Sem.run_pure,h0,if_true,hm2]
        rw[h0,hr0] at hf
        simp only[Array.map_empty] at hf
        simp[hf,newRow,hr0]
       ·have hz0:z0=zv.cells:=by simp only[z0,h0,if_false]
        rw[hz0] at hf
        simp only[execOp,ho,Sem.run_bind,Instr.buildSlice,hun,C.tok.size hei,Result.andThen_ok,Sem.run_ite,hnl,if_false,Sem.run_pure,h0,hz,hm2]
        simp[hf,newRow]
      have hlen:es.length=n:=by rw[r4,hul]
      have hcell:CellsAt (w.alloc (.cells cells' e)) ⟨w.heap.size,0,none⟩ (us.flatMap fun u=>u.cells.toList):=by
       rw[hcl'];exact cellsAt_block (heap_alloc_new w _)
      have hflat:(us.flatMap fun u=>u.cells.toList).length=n*ei.size:=by rw[TV.relR_length r1,hlen]
      have hbel:=below_alloc w (.cells cells' e)
      have hkp:Keeps w (Fc F0 B0 s'.σ m) (w.alloc (.cells cells' e)) (Fc F0 B0 s'.σ m):=Keeps.below hbel (Nat.le_refl _) (fun _ h _=>h)
      have hmax:n≤maxLen:=by
       have:n≤n*ei.size:=Nat.le_mul_of_pos_right n hpos
       simp only[maxLen];omega
      split at h
      ·rename_i d' hd'
       cases hown:mem d' own with
       | true =>
        simp only[hown,cond_true] at h
        refine goes_lay (x:=.slice (some ⟨w.heap.size,0,none⟩) n n) (k:=ei.size) h S' hrun ?_ ?_
        ·intro d hd
         refine heap_row S' d e ei.size es _ _ hpos hbel ?_ (TV.relR_keep ?_ _ _ _ r1) r2
         ·refine⟨by rw[hflat,hlen],.inr ⟨w.heap.size,n,cells',by rw[hlen],Nat.le_refl _,heap_alloc_new w _,by rw[hlen];exact Nat.le_refl _,hmax,?_,?_⟩⟩
          ·rw[hcl',List.size_toArray,hflat]
          ·rw[hcl',hlen,←hflat];simp only[List.take_length]
         ·intro b hb hlt
          exact⟨⟨hb,by simp[obk];omega⟩,hbel.block b hlt⟩
        ·intro d hd
         simp only[AV.rel]
         exact⟨(upd_same _ _ _).symm,.inl ⟨_,_,_,upd_same _ _ _⟩⟩
       | false =>
        simp only[hown,cond_false] at h
        refine goes_value h (S'.grow hbel) ?_ hrun
        simp only[AV.rel,TV.rel]
        refine⟨_,n,_,by rw[hlen],by rw[hlen];exact Nat.le_refl _,hmax,hpos,TV.relR_keep hkp _ _ _ r1,r2,?_⟩
        by_cases hne:(us.flatMap fun u=>u.cells.toList)=[]
        ·exact .inl hne
        ·refine .inr ⟨_,rfl,⟨.inr (hsz0 _ (Nat.le_refl _)),?_⟩,hcell⟩
         intro l o' hl' e'
         exact absurd (AO.blk_lt (S'.ob l o' hl') e').2 (Nat.lt_irrefl _)
      ·exact h.elim
    ·exact h.elim
  ·exact h.elim
 ·exact h.elim
end
end
section
section
variable {P:Program} {T:TyTab} {w:World} {N:Nat} {B0:Nat→Prop} {F0:Nat→Prop} {w0:PW} {m:Nat→Value} {kk:Nat→Nat}
def World.putO (w:World) (g:Nat) (o:Obj):World:={ w with heap:=w.heap.setIfInBounds g o }
omit [Gm] in
theorem putO_same {w:World} {g:Nat} (o:Obj) (hg:g<w.heap.size):(World.putO w g o).heap[g]?=some o:=by simp[World.putO,hg]
omit [Gm] in
theorem putO_other {w:World} {g b:Nat} (o:Obj) (h:b≠g):(World.putO w g o).heap[b]?=w.heap[b]?:=by simp[World.putO,h.symm]
theorem Sim.writeO {s:St} {a:Act} (S:Sim N B0 F0 w0 s m kk a w) {l g:Nat} {o o':AO} (hl:look l s.σ=some o) (hg:obk (m l)=some g) {w':World}
  (hos:w'.os=w.os) (htape:w'.tape=w.tape) (hout:w'.output=w.output) (hsize:w.heap.size≤w'.heap.size) (hother:∀ b,b≠g→b<w.heap.size→w'.heap[b]?=w.heap[b]?)
  (ho:o'.rel w' (Fc F0 B0 s.σ m) m kk B0 l):Sim N B0 F0 w0 ⟨s.φ,(l,o')::s.σ⟩ m kk a w':=by
 have hlook:∀ l' q,look l' ((l,o')::s.σ)=some q→∃ q',look l' s.σ=some q':=by
  intro l' q h
  rw[look_cons] at h
  by_cases e:l'=l
  ·subst e;exact⟨o,hl⟩
  ·simp only[e,if_false] at h;exact⟨q,h⟩
 have hlook':∀ l' q',look l' s.σ=some q'→∃ q,look l' ((l,o')::s.σ)=some q:=by
  intro l' q h
  rw[look_cons]
  by_cases e:l'=l
  ·simp[e]
  ·simp only[e,if_false];exact⟨q,h⟩
 have hF:∀ b,Fc F0 B0 ((l,o')::s.σ) m b↔Fc F0 B0 s.σ m b:=fun b =>
  ⟨fun h=>Fc.mono (fun l' q hq=>hlook' l' q hq) h,fun h=>Fc.mono (fun l' q hq=>hlook l' q hq) h⟩
 have hk:Keeps w (Fc F0 B0 s.σ m) w' (Fc F0 B0 ((l,o')::s.σ) m):=by
  intro b hb hlt
  exact⟨(hF b).2 hb,hother b (by intro e;subst e;exact hb.2 l o hl hg) hlt⟩
 have hgB:=AO.blk_lt (S.ob l o hl) hg
 refine⟨⟨S.base,?_,S.gm,?_,?_⟩,?_,S.df,S.sz,S.pn⟩
 ·exact S.below.trans hos htape hout hsize (fun b hb hno=>hother b (fun e=>hno (by rw[e];exact hgB.1)) (Nat.lt_of_lt_of_le hb S.below.size))
 ·intro l' q hq
  rw[look_cons] at hq
  by_cases e:l'=l
  ·subst e
   simp only[if_true,Option.some.injEq] at hq;subst hq
   exact AO.rel_keep (keeps_mono fun b hb=>(hF b).2 hb) (fun _ _=>rfl) ho
  ·simp only[e,if_false] at hq
   refine AO.rel_keep hk (fun b hb=>hother b ?_ (AO.blk_lt (S.ob l' q hq) hb).2) (S.ob l' q hq)
   intro e';subst e'
   rcases S.dj l' l q o hq hl e with h | h
   ·rw[h] at hb;cases hb
   ·exact h (hb.trans hg.symm)
 ·intro l1 l2 o1 o2 h1 h2 hne
  obtain⟨q1,hq1⟩:=hlook l1 o1 h1
  obtain⟨q2,hq2⟩:=hlook l2 o2 h2
  exact S.dj l1 l2 q1 q2 hq1 hq2 hne
 ·intro t v hv
  exact AV.rel_same hk v _ (S.fr t v hv)
theorem keep_putO {s:St} {a:Act} (_S:Sim N B0 F0 w0 s m kk a w) {l g:Nat} {o:AO} (hl:look l s.σ=some o) (hg:obk (m l)=some g) (ob:Obj) :
  Keeps w (Fc F0 B0 s.σ m) (World.putO w g ob) (Fc F0 B0 s.σ m):=by
 intro b hb hlt
 exact⟨hb,putO_other ob (by intro e;subst e;exact hb.2 l o hl hg)⟩
theorem heap_obj {s:St} {a:Act} (S:Sim N B0 F0 w0 s m kk a w) (l:Nat) {w':World} (v:Value) (o:AO) {g:Nat} (hv:obk v=some g) (hge:w.heap.size≤g)
  (hb:Below w.heap.size w w') (ho:o.rel w' (Fc F0 B0 ((l,o)::killS l s.σ) (upd m l v)) (upd m l v) (upd kk l 0) B0 l) :
  Heap B0 F0 w0 ((l,o)::killS l s.σ) (upd m l v) (upd kk l 0) w'∧Keeps w (Fc F0 B0 s.σ m) w' (Fc F0 B0 ((l,o)::killS l s.σ) (upd m l v)) :=
 Heap.lay S.toHeap l v 0 _ (fun b hb' _=>hb.block b hb') hb.size hb.os hb.tape hb.output (fun g' hg'=>by rw[hv] at hg';injection hg' with e;subst e;exact .inl hge) ho
theorem heap_map {s:St} {a:Act} (S:Sim N B0 F0 w0 s m kk a w) (l:Nat) {w':World} (str:Bool) (es:List (Value×TV)) (g:Nat) (l':List MapEntry)
  (hb:Below w.heap.size w w') (hge:w.heap.size≤g) (hg:w'.heap[g]?=some (.map l'.toArray es.length)) (hr:MR w' (fun b=>Fc F0 B0 s.σ m b∧g≠b) str 0 es l') :
  Heap B0 F0 w0 ((l,.mo (.map str es))::killS l s.σ) (upd m l (.map (some g))) (upd kk l 0) w'∧Keeps w (Fc F0 B0 s.σ m) w' (Fc F0 B0 ((l,.mo (.map str es))::killS l s.σ) (upd m l (.map (some g)))):=by
 refine heap_obj S l (.map (some g)) _ rfl hge hb ⟨g,l',upd_same _ _ _,S.newB _ hge,hg,MR_keep (keeps_mono ?_) hr⟩
 rintro b ⟨hb1,hb2⟩
 refine⟨hb1.1,?_⟩
 intro l2 o' hl'
 rw[look_cons] at hl'
 by_cases h:l2=l
 ·subst h;rw[upd_same];intro e;injection e with e;exact hb2 e
 ·simp only[h,if_false,look_killS] at hl'
  rw[upd_ne _ _ h]
  cases hq:look l2 s.σ with
  | none=>simp[hq] at hl'
  | some q=>exact hb1.2 l2 q hq
theorem makeMap_goes (C:Ctx P T) {o:Oper} {a:Act} {s:St} {K:St→Prop} (S:Sim N B0 F0 w0 s m kk a w) {t:TypeId} (ho:o.op=.makeMap t none) {ti:TI} {str:Bool} (_ht:T t=some ti)
  (h:layK N o.dst s K (.mo (.map str [])) .sl):Goes P N B0 F0 w0 o a w K:=by
 refine goes_lay (x:=.map (some w.heap.size)) (k:=0) (y:=.map (some w.heap.size)) h S ?_ ?_ ?_ (w':=w.alloc (.map #[] 0))
 ·simp[execOp,ho,Instr.makeMap,newObj];rfl
 ·intro d hd
  exact heap_map S d str [] w.heap.size [] (below_alloc w _) (Nat.le_refl _) (heap_alloc_new w _) (by simp[MR])
 ·intro d hd
  simp only[AV.rel]
  exact⟨(upd_same _ _ _).symm,.inr ⟨_,upd_same _ _ _⟩⟩
omit [Gm] in
theorem bytes_eq {x y:ByteArray} (h:(x==y)=true):x=y:=by
 have h:(x.data==y.data)=true:=h
 have:=eq_of_beq h
 cases x;cases y;simp_all
omit [Gm] in
theorem getMap {g:Nat} {es:Array MapEntry} {n:Nat} (hg:w.heap[g]?=some (.map es n)):(getObj g).run P w=.ok (.map es n) w:=by simp[getObj,Sem.run,hg]
omit [Gm] in
theorem setMap {g:Nat} {es:Array MapEntry} {n:Nat} (hg:w.heap[g]?=some (.map es n)) (ob:Obj):(setObj g ob).run P w=.ok () (World.putO w g ob):=by simp[setObj,Sem.run,hg,World.putO]
omit [Gm] in
theorem sameBits_key {str:Bool} {a b:Value} (ha:keyIs str a=true) (hb:keyIs str b=true) (h:keyEq a b=true):b=a∧Instr.sameBits 10000 b a=true:=by
 cases str with
 | true =>
  obtain⟨x,rfl⟩:=keyIs_str ha
  obtain⟨y,rfl⟩:=keyIs_str hb
  have h:(x==y)=true:=h
  have:x=y:=bytes_eq h
  subst this
  exact⟨rfl,by simp only[Instr.sameBits];exact h⟩
 | false =>
  obtain⟨x,rfl⟩:=keyIs_int ha
  obtain⟨y,rfl⟩:=keyIs_int hb
  have:x=y:=by simpa [keyEq] using h
  subst this
  exact⟨rfl,by simp[Instr.sameBits]⟩
theorem mapSet_goes (C:Ctx P T) {o:Oper} {a:Act} {s:St} {K:St→Prop} (S:Sim N B0 F0 w0 s m kk a w) {t:TypeId} {qo ko xo:Operand} (ho:o.op=.mapUpdate t qo ko xo∨o.op=.insert t qo ko xo) {q k x:AV}
  (hq:q.rel w (Fc F0 B0 s.σ m) m kk (a.eval qo)) (hk:k.rel w (Fc F0 B0 s.σ m) m kk (a.eval ko)) (hx:x.rel w (Fc F0 B0 s.σ m) m kk (a.eval xo)) (hd:o.dst=none) (h:mapSetK T s K t q k x):Goes P N B0 F0 w0 o a w K:=by
 unfold mapSetK at h
 split at h
 ·rename_i kt e sz by' z0 qq l kv xv ht
  obtain⟨d,hdd,hun⟩:=C.tok.under (w:=w) ht
  simp only[Ty.fits] at hdd;subst hdd
  split at h
  ·rename_i str es hl
   cases hb:keyIs str kv&&keyTyB T kt str with
   | false=>rw[hb] at h;exact h.elim
   | true =>
    rw[hb,cond_true] at h
    simp only[Bool.and_eq_true] at hb
    obtain⟨hkv,hkt⟩:=hb
    obtain⟨es',hes,h⟩:=h
    subst hes
    simp only[AV.rel] at hq hx
    obtain⟨hqe,_⟩:=hq
    simp only[AV.rel,TV.rel] at hk
    obtain⟨hke,_⟩:=hk
    obtain⟨g,l',hm,hB,hg,hr⟩:=S.ob l _ hl
    obtain⟨td,hkun,hs,hck⟩:=sameNow_m (w:=w) C.tok hkt
    have hgo:obk (m l)=some g:=by rw[hm];rfl
    have hlt:g<w.heap.size:=(Array.getElem?_eq_some_iff.1 hg).1
    have hget:=getMap (P:=P) hg
    have hset:=fun (ob:Obj)=>setMap (P:=P) hg ob
    have go:∀ (l2:List MapEntry) (n:Nat),n=(setE kv xv es).length→MR (World.putO w g (.map l2.toArray n)) (Fc F0 B0 s.σ m) str 0 (setE kv xv es) l2 →
      (Instr.mapUpdate t (a.eval qo) (a.eval ko) (a.eval xo)).run P w=.ok () (World.putO w g (.map l2.toArray n))→Goes P N B0 F0 w0 o a w K:=by
     intro l2 n hn hmr hrun
     refine goes_skip hd h (S.writeO hl hgo (w':=World.putO w g (.map l2.toArray n)) rfl rfl rfl (by simp[World.putO]) (fun b hb _=>putO_other _ hb) ⟨g,l2,hm,hB,by rw[←hn];exact putO_same _ hlt,hmr⟩) ?_
     rcases ho with ho | ho <;> simp[execOp,ho,hrun]
    rcases MR_find hs hkv 0 hr with⟨g1,g2,g3⟩ | ⟨j,k',v',e',g1,g2,g3,g4,g5,g6,g7,g8,g9⟩
    ·refine go (l'++[{ key:=kv,val:=a.eval xo,born:=es.length }]) (es.length+1) (by rw[g3];simp) ?_ ?_
     ·rw[g3]
      have:=MR_push hkv hx hr
      rw[Nat.zero_add] at this
      exact MR_keep (keep_putO S hl hgo _) this
     ·rw[hqe,hke,hm]
      simp only[Instr.mapUpdate,Sem.run_bind,hun,Result.andThen_ok,hget,hck,Instr.findKey,hkun,g2,Sem.run_pure,hset]
      simp
    ·have hkk:=keyIs_of_get hr g3
     obtain⟨hbk,hbits⟩:=sameBits_key hkv hkk g7
     have hj:j<l'.length:=(List.getElem?_eq_some_iff.1 g4).1
     refine go (l'.set j { e' with key:=kv,val:=a.eval xo }) es.length (by rw[g9];simp) ?_ ?_
     ·rw[g9]
      exact MR_keep (keep_putO S hl hgo _) (MR_set hkv hx hr g4)
     ·have hmod:(l'.toArray.modify j fun e=>{ e with key:=kv,val:=a.eval xo })=(l'.set j { e' with key:=kv,val:=a.eval xo }).toArray:=by
       apply Array.ext'
       apply List.ext_getElem?
       intro i
       rw[List.getElem?_set]
       simp only[Array.getElem?_toList,Array.getElem?_modify,List.getElem?_toArray]
       by_cases hij:j=i
       ·subst hij;simp only[g4,if_true,Option.map_some,hj]
       ·simp[hij]
      rw[hqe,hke,hm]
      rw[Nat.zero_add] at g2
      have hk1:((l'.toArray[j]?).map (·.key)).getD kv=k':=by simp[g4,g6]
      simp only[Instr.mapUpdate,Sem.run_bind,hun,Result.andThen_ok,hget,hck,Instr.findKey,hkun,g2,Sem.run_pure,hk1,Instr.keyThatStays,hbits,if_true,hset,hmod]
  ·exact h.elim
 ·exact h.elim
theorem range_goes (C:Ctx P T) {o:Oper} {a:Act} {s:St} {K:St→Prop} (S:Sim N B0 F0 w0 s m kk a w) {t:TypeId} {xo:Operand} (ho:o.op=.range t xo) {x:AV}
  (hx:x.rel w (Fc F0 B0 s.σ m) m kk (a.eval xo)) (h:rangeK T N o.dst s K t x):Goes P N B0 F0 w0 o a w K:=by
 unfold rangeK at h
 split at h
 ·rename_i sz by' z q b ht
  obtain⟨d,hd,hun⟩:=C.tok.under (w:=w) ht
  simp only[Ty.fits] at hd;subst hd
  simp only[AV.rel,TV.rel] at hx
  obtain⟨hxe,_⟩:=hx
  refine goes_lay (x:=.pointer (some ⟨w.heap.size,0,none⟩)) (k:=0) (y:=.pointer (some ⟨w.heap.size,0,none⟩)) h S ?_ ?_ ?_ (w':=w.alloc (.stringIter b 0))
  ·simp only[execOp,ho,Instr.range,Sem.run_bind,hun,hxe,Result.andThen_ok,Sem.run_pure]
   rfl
  ·intro d hd
   exact heap_obj S d _ _ rfl (Nat.le_refl _) (below_alloc w _) ⟨_,upd_same _ _ _,S.newB _ (Nat.le_refl _),heap_alloc_new w _⟩
  ·intro d' hd'
   simp only[AV.rel]
   exact⟨w.heap.size,upd_same _ _ _,by simp[Addr.add]⟩
 ·rename_i kt e sz by' z q l ht
  obtain⟨d,hd,hun⟩:=C.tok.under (w:=w) ht
  simp only[Ty.fits] at hd;subst hd
  split at h
  ·rename_i str es d' hl hd'
   cases hne:Nat.beq d' l with
   | true=>rw[hne] at h;exact h.elim
   | false =>
    rw[hne,cond_false] at h
    have hdl:l≠d':=by intro e;subst e;simp at hne
    simp only[AV.rel] at hx
    obtain⟨hxe,_⟩:=hx
    obtain⟨g,l',hm,hB,hg,hr⟩:=S.ob l _ hl
    have hget:=getMap (P:=P) hg
    refine goes_lay (x:=.pointer (some ⟨w.heap.size,0,none⟩)) (k:=0) (y:=.pointer (some ⟨w.heap.size,0,none⟩)) h S ?_ ?_ ?_ (w':=w.alloc (.mapIter (some g) es.length #[] es.length))
    ·simp only[execOp,ho,Instr.range,Sem.run_bind,hun,hxe,hm,Result.andThen_ok,Sem.run_pure,hget]
     rfl
    ·intro d2 hd2
     rw[hd'] at hd2;injection hd2 with e;subst e
     exact heap_obj S d' _ _ rfl (Nat.le_refl _) (below_alloc w _) ⟨_,g,upd_same _ _ _,S.newB _ (Nat.le_refl _),by rw[upd_ne _ _ hdl];exact hm,heap_alloc_new w _⟩
    ·intro d' hd'
     simp only[AV.rel]
     exact⟨w.heap.size,upd_same _ _ _,by simp[Addr.add]⟩
  ·exact h.elim
 ·exact h.elim
omit [Gm] in
theorem choose_run (n:Nat) (hn:0<n):∃ k w1,(choose (.mapNext n)).run P w=.ok k w1∧(w1=w∨w1=w.drew)∧k<n:=by
 by_cases h:n≤1
 ·refine⟨0,w,?_,.inl rfl,hn⟩
  have:(Question.mapNext n).forced=true:=by simp[Question.forced,h]
  simp[choose,Sem.run,this]
 ·refine⟨(w.tape w.drawn (.mapNext n)) % n,w.drew,?_,.inr rfl,Nat.mod_lt _ hn⟩
  have:(Question.mapNext n).forced=false:=by simp[Question.forced,h]
  simp only[choose,Sem.run,this,Bool.false_eq_true,if_false]
  rfl
theorem next_goes {o:Oper} {a:Act} {s:St} {K:St→Prop} (S:Sim N B0 F0 w0 s m kk a w) {xo:Operand} {str:Bool} (ho:o.op=.next xo str) {x:AV}
  (hx:x.rel w (Fc F0 B0 s.σ m) m kk (a.eval xo)) (h:nextK N o.dst s K str x):Goes P N B0 F0 w0 o a w K:=by
 have over:∀ {F:Nat→Prop} {w:World},(AV.t (.tup [.v (.bool false)])).rel w F m kk (.tuple #[.bool false]):=by
  intro F w
  simp only[AV.rel,TV.rel];exact⟨[.bool false],rfl,by simp only[TV.relL,TV.rel];exact⟨_,_,rfl,⟨rfl,rfl⟩,rfl⟩⟩
 unfold nextK at h
 split at h
 ·rename_i l
  simp only[AV.rel] at hx
  obtain⟨g0,hm0,hxe⟩:=hx
  have hxe:a.eval xo=.pointer (some ⟨g0,0,none⟩):=by rw[hxe];simp[Addr.add]
  split at h
  ·rename_i b pos hl
   obtain⟨g,hm,hB,hg⟩:=S.ob l _ hl
   rw[hm0] at hm;simp at hm;subst hm
   have hgo:obk (m l)=some g0:=by rw[hm0];rfl
   have hlt:g0<w.heap.size:=(Array.getElem?_eq_some_iff.1 hg).1
   have hget:(getObj g0).run P w=.ok (.stringIter b pos) w:=by simp[getObj,Sem.run,hg]
   have hset:∀ ob,(setObj g0 ob).run P w=.ok () (World.putO w g0 ob):=fun ob=>by simp[setObj,Sem.run,hg,World.putO]
   cases str with
   | false=>exact h.elim
   | true =>
    rw[cond_true] at h
    by_cases hp:pos<b.size
    ·have h:=h.1 hp
     refine goes_value h (S.writeO hl hgo (w':=World.putO w g0 (.stringIter b (pos+(Utf8.decode b pos).2))) rfl rfl rfl (by simp[World.putO]) (fun b hb _=>putO_other _ hb) ⟨g0,hm0,hB,putO_same _ hlt⟩) (y:=.tuple #[.bool true,.int .i64 pos,.int .i32 (Utf8.decode b pos).1]) ?_ ?_
     ·simp only[AV.rel,TV.rel]
      exact⟨[.bool true,.int .i64 pos,.int .i32 (Utf8.decode b pos).1],rfl,by simp only[TV.relL,TV.rel];exact⟨_,_,rfl,⟨rfl,rfl⟩,_,_,rfl,⟨rfl,rfl⟩,_,_,rfl,⟨rfl,rfl⟩,rfl⟩⟩
     ·simp only[execOp,ho,hxe,Instr.next,Sem.run_bind,Sem.run_pure,hget,Result.andThen_ok,hp,if_true,hset,goInt]
    ·have h:=h.2 hp
     refine goes_value (y:=.tuple #[.bool false]) h S over ?_
     simp only[execOp,ho,hxe,Instr.next,Sem.run_bind,Sem.run_pure,hget,Result.andThen_ok,hp,if_false]
  ·rename_i q seen n hl
   cases str with
   | true=>exact h.elim
   | false =>
    rw[cond_false] at h
    split at h
    ·rename_i str' es hq
     obtain⟨hen,h1,h2⟩:=h
     obtain⟨g,g',hm,hB,hmq,hg⟩:=S.ob l _ hl
     rw[hm0] at hm;simp at hm;subst hm
     have hgo:obk (m l)=some g0:=by rw[hm0];rfl
     have hlt:g0<w.heap.size:=(Array.getElem?_eq_some_iff.1 hg).1
     obtain⟨gq,l',hmq',hBq,hgq,hr⟩:=S.ob q _ hq
     rw[hmq] at hmq';simp at hmq';subst hmq'
     rw[hen] at hgq
     have hget:(getObj g0).run P w=.ok (.mapIter (some g') n seen.toArray n) w:=by simp[getObj,Sem.run,hg]
     have hget2:(getObj g').run P w=.ok (.map l'.toArray n) w:=by simp[getObj,Sem.run,hgq]
     have hlen:=MR_length hr
     have hb:∀ e∈l',e.born<n:=by
      intro e he
      obtain⟨j,k,v,g1,g2,_⟩:=MR_get hr he
      have:=(List.getElem?_eq_some_iff.1 g1).1
      omega
     have hc2:(!seen.toArray.isEmpty&&!l'.toArray.isEmpty&&l'.toArray.all fun e=>decide (e.born≥n))=false:=by
      cases l' with
      | nil=>simp
      | cons e l' =>
       have:=hb e (by simp)
       have:decide (e.born≥n)=false:=by simp;omega
       simp[this]
     generalize hL:(l'.filter fun e=>!seen.contains e.born)=L
     have hF:(l'.toArray.filter fun e=>!seen.toArray.contains e.born)=L.toArray:=by
      rw[←hL,List.filter_toArray]
      congr 2
      funext e
      simp
     have hLb:∀ e∈L,e∈l'∧e.born∉seen:=by
      intro e he
      rw[←hL,List.mem_filter] at he
      exact⟨he.1,by simpa using he.2⟩
     have hold:(L.toArray.filter fun e=>decide (e.born<n))=L.toArray:=by
      rw[List.filter_toArray]
      congr 1
      rw[List.filter_eq_self]
      intro e he
      have:=hb e (hLb e he).1
      simp;omega
     have hnew:(L.toArray.filter fun e=>decide (e.born≥n))=#[]:=by
      rw[List.filter_toArray]
      congr 1
      rw[List.filter_eq_nil_iff]
      intro e he
      have:=hb e (hLb e he).1
      simp;omega
     cases L with
     | nil =>
      have hall:∀ i,i<n→i∈seen:=by
       intro i hi
       obtain⟨e,he,heb⟩:=MR_born hr i (by omega)
       rw[List.filter_eq_nil_iff] at hL
       have:=hL e he
       simp at this
       rw[Nat.zero_add] at heb
       rw[←heb];exact this
      refine goes_value (y:=.tuple #[.bool false]) (h2 hall) S over ?_
      have hforced:(Question.mapNext 1).forced=true:=rfl
      simp only[execOp,ho,hxe,Instr.next,Sem.run_bind,Sem.run_pure,hget,Result.andThen_ok,hget2,hc2,Bool.false_eq_true,if_false,Sem.run_ite,hF,hold,hnew]
      simp[choose,Sem.run,hforced]
     | cons e0 L0 =>
      obtain⟨k,w1,hch,hw1,hk⟩:=choose_run (P:=P) (w:=w) (e0::L0).length (by simp)
      obtain⟨e,hke⟩:∃ e,(e0::L0)[k]?=some e:=⟨_,List.getElem?_eq_getElem hk⟩
      obtain⟨hel,hes⟩:=hLb e (List.mem_of_getElem? hke)
      obtain⟨j,ky,v,g1,g2,g3,g4,g5⟩:=MR_get hr hel
      rw[Nat.zero_add] at g2
      rw[g2] at hes
      have h:=h1 j ky v g1 hes
      have hbel:Below w.heap.size w w1:=by
       rcases hw1 with rfl | rfl
       ·exact Below.refl _ _
       ·exact below_drew w
      have S1:=S.grow hbel
      have hg1:w1.heap[g0]?=some (.mapIter (some g') n seen.toArray n):=by rw[hbel.block g0 hlt];exact hg
      have hlt1:g0<w1.heap.size:=(Array.getElem?_eq_some_iff.1 hg1).1
      have hset:∀ ob,(setObj g0 ob).run P w1=.ok () (World.putO w1 g0 ob):=fun ob=>by simp[setObj,Sem.run,hg1,World.putO]
      have hvr:v.rel (World.putO w1 g0 (.mapIter (some g') n (seen++[j]).toArray n)) (Fc F0 B0 s.σ m) e.val:=TV.rel_keep (keep_putO S1 hl hgo _) _ _ (TV.rel_keep (Keeps.below hbel (Nat.le_refl _) (fun _ h _=>h)) _ _ g5)
      have hFc:∀ b,Fc F0 B0 s.σ m b→Fc F0 B0 ((l,AO.mo (.it q (seen++[j]) n))::s.σ) m b:=fun b hb=>Fc.mono (fun l' q' hq'=>by
       rw[look_cons] at hq'
       by_cases e:l'=l
       ·subst e;exact⟨_,hl⟩
       ·simp only[e,if_false] at hq';exact⟨q',hq'⟩) hb
      refine goes_value h (S1.writeO hl hgo (w':=World.putO w1 g0 (.mapIter (some g') n (seen++[j]).toArray n)) rfl rfl rfl (by simp[World.putO]) (fun b hb _=>putO_other _ hb) ⟨g0,g',hm0,hB,hmq,putO_same _ hlt1⟩) (y:=.tuple #[.bool true,e.key,e.val]) ?_ ?_
      ·have hks:scal ky=true:=by
        cases str' with
        | true=>obtain⟨x,rfl⟩:=keyIs_str g4;rfl
        | false=>obtain⟨x,rfl⟩:=keyIs_int g4;rfl
       simp only[AV.rel,TV.rel]
       refine⟨[.bool true,e.key,e.val],rfl,?_⟩
       simp only[TV.relL,TV.rel]
       exact⟨_,_,rfl,⟨rfl,rfl⟩,_,_,rfl,⟨g3,hks⟩,_,_,rfl,TV.rel_keep (keeps_mono hFc) _ _ hvr,rfl⟩
      ·simp only[execOp,ho,hxe,Instr.next,Sem.run_bind,Sem.run_pure,hget,Result.andThen_ok,hget2,hc2,Bool.false_eq_true,if_false,Sem.run_ite,hF,hold,hnew]
       have hsz:((if (e0::L0).toArray.isEmpty=true then (#[none]:Array (Option MapEntry)) else #[])++((e0::L0).toArray++#[]).map some)=((e0::L0).map some).toArray:=by simp
       rw[hsz]
       have hsz2:((e0::L0).map some).toArray.size=(e0::L0).length:=by simp
       rw[hsz2,hch]
       simp only[Result.andThen_ok]
       have hgk:((e0::L0).map some).toArray[k]?=some (some e):=by
        rw[List.getElem?_toArray,List.getElem?_map,hke];rfl
       rw[hgk]
       simp only[Sem.run_bind,g2,Sem.run_pure]
       have hp:seen.toArray.push j=(seen++[j]).toArray:=by simp
       rw[hp,hset]
       simp only[Result.andThen_ok]
    ·exact h.elim
  ·exact h.elim
 ·exact h.elim
theorem entry_goes {o:Oper} {a:Act} {s:St} {K:St→Prop} (S:Sim N B0 F0 w0 s m kk a w) {xo:Operand} (ho:o.op=.entry xo) {x:AV}
  (hx:x.rel w (Fc F0 B0 s.σ m) m kk (a.eval xo)) (h:entryK N o.dst s K x):Goes P N B0 F0 w0 o a w K:=by
 unfold entryK at h
 split at h
 ·rename_i l
  simp only[AV.rel] at hx
  obtain⟨g0,hm0,hxe⟩:=hx
  have hxe:a.eval xo=.pointer (some ⟨g0,0,none⟩):=by rw[hxe];simp[Addr.add]
  split at h
  ·rename_i q seen n hl
   split at h
   ·rename_i str' es hq
    obtain⟨hen,i,ky,v,hlast,hgi,h⟩:=h
    obtain⟨g,g',hm,hB,hmq,hg⟩:=S.ob l _ hl
    rw[hm0] at hm;simp at hm;subst hm
    obtain⟨gq,l',hmq',hBq,hgq,hr⟩:=S.ob q _ hq
    rw[hmq] at hmq';simp at hmq';subst hmq'
    rw[hen] at hgq
    have hget:(getObj g0).run P w=.ok (.mapIter (some g') n seen.toArray n) w:=by simp[getObj,Sem.run,hg]
    have hget2:(getObj g').run P w=.ok (.map l'.toArray n) w:=by simp[getObj,Sem.run,hgq]
    have hil:=(List.getElem?_eq_some_iff.1 hgi).1
    obtain⟨e0,he0,hb0⟩:=MR_born hr i hil
    rw[Nat.zero_add] at hb0
    have hback:seen.toArray.back?=some i:=by rw[List.back?_toArray];exact hlast
    cases hf:l'.toArray.find? (fun e=>e.born==i) with
    | none =>
     rw[Array.find?_eq_none] at hf
     exact absurd (by simpa using hb0) (hf e0 (by simpa using he0))
    | some e =>
     have hem:e∈l':=by simpa using Array.mem_of_find?_eq_some hf
     have heb:e.born=i:=by simpa using Array.find?_some hf
     obtain⟨j,k',v',g1,g2,g3,g4,g5⟩:=MR_get hr hem
     rw[Nat.zero_add,heb] at g2
     subst g2
     rw[hgi] at g1
     simp only[Option.some.injEq,Prod.mk.injEq] at g1
     obtain⟨rfl,rfl⟩:=g1
     refine goes_value h S (y:=.tuple #[e.key,e.val]) ?_ ?_
     ·have hks:scal ky=true:=by
       cases str' with
       | true=>obtain⟨x,rfl⟩:=keyIs_str g4;rfl
       | false=>obtain⟨x,rfl⟩:=keyIs_int g4;rfl
      simp only[AV.rel,TV.rel]
      refine⟨[e.key,e.val],rfl,?_⟩
      simp only[TV.relL,TV.rel]
      exact⟨_,_,rfl,⟨g3,hks⟩,_,_,rfl,g5,rfl⟩
     ·simp only[execOp,ho,hxe,Instr.entry,Sem.run_bind,Sem.run_pure,hget,Result.andThen_ok,hback,hget2,bne_self_eq_false,Bool.false_eq_true,if_false,Sem.run_ite,hf]
   ·exact h.elim
  ·exact h.elim
 ·exact h.elim
theorem src_rel {s:St} (H:Heap B0 F0 w0 s.σ m kk w) {y:AV} {v:Value} (hy:y.rel w (Fc F0 B0 s.σ m) m kk v) {srcs:List (List TV)} {k:Nat} (hs:srcOf s.σ y=some (k,srcs)) :
  ∃ A n c us,v=.slice A n c∧srcs.length≤n∧(srcs.length=n∨True)∧TV.relR w (Fc F0 B0 s.σ m) k srcs us∧OneAll us∧(us=[]∨∃ a,A=some a∧CellsAt w a us)∧srcs.length=n:=by
 unfold srcOf at hs
 split at hs
 ·simp only[Option.some.injEq,Prod.mk.injEq] at hs
  obtain⟨rfl,rfl⟩:=hs
  simp only[AV.rel,TV.rel] at hy
  obtain⟨A,c,us,rfl,_,_,hk0,hr,ho,hm⟩:=hy
  refine⟨A,_,c,us,rfl,Nat.le_refl _,.inl rfl,hr,ho,?_,rfl⟩
  rcases hm with h | ⟨a,h1,_,h2⟩
  ·exact .inl h
  ·exact .inr ⟨a,h1,h2⟩
 ·rename_i l i n
  split at hs
  ·rename_i e k' es hl
   simp only[Option.some.injEq,Prod.mk.injEq] at hs
   obtain⟨rfl,rfl⟩:=hs
   obtain⟨us,hown,hr,h1,hk0,hkk⟩:=H.ob l _ hl
   simp only[AV.rel] at hy
   have hul:=TV.relR_length hr
   rcases hy with⟨g,M,c,A,hm,rfl,hAb,hA,hA0,hin⟩ | ⟨hm,rfl,rfl,rfl⟩
   ·have hM:M=es.length:=by
     rcases hown.1.2 with⟨hn,_⟩ | ⟨g',cap,cur,hv,_⟩
     ·rw[hm] at hn;simp at hn
     ·rw[hm] at hv;simp at hv;exact hv.2.1
    have hlen:((es.drop i).take n).length=n:=by simp;omega
    refine⟨some A,n,c-i,(us.drop (i*k')).take (n*k'),rfl,by omega,.inl hlen,TV.relR_take n (TV.relR_drop i hr),fun u hu=>h1 u (List.mem_of_mem_drop (List.mem_of_mem_take hu)),?_,hlen⟩
    by_cases h0:n=0
    ·subst h0;left;simp
    ·have hAe:=hA (.inl h0)
     subst hAe
     right
     refine⟨_,rfl,?_⟩
     have hcell:CellsAt w ⟨g,0,none⟩ us:=hown.1.cells (g:=g) (by rw[hm];rfl)
     rw[hkk]
     exact (hcell.drop _).take _
   ·exact⟨none,0,0,[],rfl,by simp,.inl (by simp),by simp[TV.relR],fun u hu=>by simp at hu,.inl rfl,by simp⟩
  ·cases hs
 ·cases hs
theorem copy_goes (C:Ctx P T) {o:Oper} {a:Act} {s:St} {K:St→Prop} (S:Sim N B0 F0 w0 s m kk a w) {as:Array Operand} {ts:Array TypeId} (ho:o.op=.call { callee:=.builtin .copy,args:=as,argTypes:=ts })
  {xo yo:Operand} (has:as.map a.eval=#[a.eval xo,a.eval yo]) {t t':TypeId} (hts:ts=#[t,t']) {x y:AV} (hx:x.rel w (Fc F0 B0 s.σ m) m kk (a.eval xo)) (hy:y.rel w (Fc F0 B0 s.σ m) m kk (a.eval yo))
  (h:copyK T N o.dst s K t x y):Goes P N B0 F0 w0 o a w K:=by
 unfold copyK at h
 split at h
 ·rename_i e sz by' z0 q ht
  split at h
  ·rename_i ei l i n e' k es k2 srcs hei hview hsrc
   cases hb:Nat.beq ei.size 1&&Nat.beq k 1&&Nat.beq k2 1 with
   | false=>rw[hb] at h;exact h.elim
   | true =>
    rw[hb,cond_true] at h
    simp only[Bool.and_eq_true] at hb
    have hes1:=Nat.eq_of_beq_eq_true hb.1.1
    have hk1:=Nat.eq_of_beq_eq_true hb.1.2
    have hk21:=Nat.eq_of_beq_eq_true hb.2
    subst hk1;subst hk21
    obtain⟨A2,sn,sc,su,hye,_,_,hsr,hs1,hsA,hslen⟩:=src_rel S.toHeap hy hsrc
    obtain⟨info,d,i1,i2,i3,_⟩:=C.tok _ _ ht
    simp only[Ty.fits] at i3;subst i3
    obtain⟨einfo,ed,e1,e2,e3,e4,e5,⟨z,z1,z2,z3,z4⟩,_⟩:=C.tok _ _ hei
    have hsz1:(P.info? e).map (·.size)=some 1:=by rw[e1];simp[e4,hes1]
    obtain⟨hl,dst⟩:look l s.σ=some (.row e' 1 es)∧∃ A dc,a.eval xo=.slice A n dc∧i+n≤es.length∧(n≠0→∃ g cap cur,m l=.slice (some ⟨g,0,none⟩) es.length cap∧A=some ⟨g,i,none⟩∧B0 g∧w.heap[g]?=some (.cells cur e' (0,0))∧es.length≤cap∧cap≤maxLen∧cur.size=cap*1):=by
     unfold viewOf at hview
     split at hview
     ·rename_i l'
      split at hview
      ·rename_i e2 k' es' hl
       simp only[Option.some.injEq,Prod.mk.injEq] at hview
       obtain⟨rfl,rfl,rfl,rfl,rfl,rfl⟩:=hview
       refine⟨hl,?_⟩
       obtain⟨us,hown,hr,h1,hk0,hkk⟩:=S.ob l' _ hl
       simp only[AV.rel] at hx
       obtain⟨hxe,_⟩:=hx
       rcases hown.1.2 with⟨hn,hn0⟩ | ⟨g,cap,cur,hv,hB,hg,hnc,hcm,hcs,htake⟩
       ·exact⟨none,0,by rw[hxe,hn,hn0],by omega,fun h=>absurd hn0 h⟩
       ·exact⟨some ⟨g,0,none⟩,cap,by rw[hxe,hv],by omega,fun _=>⟨g,cap,cur,hv,rfl,hown.2 g (by rw[hv];rfl),hg,hnc,hcm,hcs⟩⟩
      ·cases hview
     ·rename_i l' i' n'
      split at hview
      ·rename_i e2 k' es' hl
       simp only[Option.some.injEq,Prod.mk.injEq] at hview
       obtain⟨rfl,rfl,rfl,rfl,rfl,rfl⟩:=hview
       refine⟨hl,?_⟩
       obtain⟨us,hown,hr,h1,hk0,hkk⟩:=S.ob l' _ hl
       simp only[AV.rel] at hx
       rcases hx with⟨g,M,c,A,hm,hy,hAb,hA,hA0,hin⟩ | ⟨hm,hy,rfl,rfl⟩
       ·rcases hown.1.2 with⟨hn,_⟩ | ⟨g',cap,cur,hv,hB,hg,hnc,hcm,hcs,htake⟩
        ·rw[hm] at hn;simp at hn
        ·have hv0:=hv
         rw[hm] at hv;simp at hv
         obtain⟨hgg,hMM,hcc⟩:=hv
         subst hgg;subst hMM;subst hcc
         refine⟨some A,c-i',hy,hin,fun h0=>⟨g,c,cur,hv0,?_,hown.2 g (by rw[hm];rfl),hg,hnc,hcm,hcs⟩⟩
         rw[hA (.inl h0),hkk,Nat.mul_one]
         clear hcm
         unfold Addr.add
         split
         ·rename_i e;simp[e]
         ·simp
       ·exact⟨none,0,by rw[hy],by omega,fun h=>absurd rfl h⟩
      ·cases hview
     ·cases hview
    obtain⟨A,dc,hxe,hin,hown2⟩:=dst
    have hm2:(srcs.take n).length=Nat.min sn n:=by rw[List.length_take,hslen];exact Nat.min_comm _ _
    by_cases h0:(srcs.take n).length=0
    ·have htk:srcs.take n=[]:=List.eq_nil_of_length_eq_zero h0
     have hrow:es.take i++srcs.take n++es.drop (i+(srcs.take n).length)=es:=by rw[htk];simp
     rw[hrow] at h
     have hlook:∀ l' q,look l' ((l,AO.row e' 1 es)::s.σ)=some q→look l' s.σ=some q:=by
      intro l' q h
      rw[look_cons] at h
      by_cases e:l'=l
      ·subst e;simp at h;rw[←h];exact hl
      ·simpa only[e,if_false] using h
     have hkp:Keeps w (Fc F0 B0 s.σ m) w (Fc F0 B0 ((l,AO.row e' 1 es)::s.σ) m):=keeps_mono fun b hb=>Fc.mono (fun l' o h=>⟨o,hlook l' o h⟩) hb
     have S':Sim N B0 F0 w0 ⟨s.φ,(l,.row e' 1 es)::s.σ⟩ m kk a w:=⟨⟨S.base,S.below,S.gm,fun l' q hq=>AO.rel_keep hkp (fun _ _=>rfl) (S.ob l' q (hlook l' q hq)),fun l1 l2 o1 o2 h1 h2 hne=>S.dj l1 l2 o1 o2 (hlook _ _ h1) (hlook _ _ h2) hne⟩,fun t v hv=>AV.rel_same hkp v _ (S.fr t v hv),S.df,S.sz,S.pn⟩
     refine goes_value h S' rel_vi ?_ (y:=.int .i64 ((srcs.take n).length:Nat))
     have hrun:=run_copy_none (P:=P) w t t' o.type e A A2 n dc sn sc i2 hsz1 (by rw[←hm2];exact h0)
     rw[h0]
     simp[execOp,ho,resolve,has,hts,hxe,hye,invoke,builtin,hrun,goInt]
    ·have hn0:n≠0:=by intro e;rw[e] at h0;simp at h0
     have hs0:srcs≠[]:=by intro e;rw[e] at h0;simp at h0
     obtain⟨g,cap,cur,hm,rfl,hB,hg,hnc,hcm,hcs⟩:=hown2 hn0
     have hsul:=TV.relR_length hsr
     obtain⟨a2,rfl,hcell⟩:∃ a2,A2=some a2∧CellsAt w a2 su:=by
      rcases hsA with h | h
      ·rw[h] at hsul
       have:srcs.length=0:=by simpa using hsul.symm
       exact absurd (List.eq_nil_of_length_eq_zero this) hs0
      ·exact h
     have hcsr:=TV.relR_take n hsr
     rw[Nat.mul_one] at hcsr
     generalize hcs':su.take n=cs at hcsr
     have hcsl:cs.length=(srcs.take n).length:=by rw[TV.relR_length hcsr,Nat.mul_one]
     have hcs1:∀ v∈cs,v.oneCell'=true:=fun v hv=>hs1 v (by rw[←hcs'] at hv;exact List.mem_of_mem_take hv)
     have hle:(srcs.take n).length≤n:=by rw[List.length_take];omega
     have hfit:i+cs.length≤cur.size:=by rw[hcsl,hcs];omega
     have hrun:=run_copy_row (P:=P) w t t' o.type e g i n dc a2 sn sc cur e' cs i2 hsz1 hg (by rw[hcsl];exact hm2) (by rw[←hcs'];exact hcell.take n) hfit hcs1
     obtain⟨us,hown,hr,h1,hk0,hkk⟩:=S.ob l _ hl
     have hgo:obk (m l)=some g:=by rw[hm];rfl
     have hkp:=keep_set S hl hgo (cur.toList.take i++cs++cur.toList.drop (i+cs.length)).toArray
     have hul:=TV.relR_length hr
     rw[Nat.mul_one] at hul
     have htake:cur.toList.take es.length=us:=by
      rcases hown.1.2 with⟨hn,_⟩ | ⟨g',cap',cur',hv,_,hg',_,_,_,ht'⟩
      ·rw[hm] at hn;simp at hn
      ·rw[hm] at hv;simp at hv
       obtain⟨rfl,_⟩:=hv
       rw[hg] at hg';injection hg' with hg';injection hg' with hg' _ _
       subst hg';rw[Nat.mul_one] at ht';exact ht'
     have hcl:cur.toList.length=cur.size:=Array.length_toList
     have hlen:(es.take i++srcs.take n++es.drop (i+(srcs.take n).length)).length=es.length:=by simp only[List.length_append,List.length_take,List.length_drop] at *;omega
     have hfin:(cur.toList.take i++cs++cur.toList.drop (i+cs.length)).take es.length=us.take i++cs++us.drop (i+cs.length):=by
      conv=>rhs;rw[←htake]
      rw[List.take_append,List.take_append]
      simp only[List.length_append,List.length_take]
      rw[List.take_take,List.take_take,List.drop_take]
      have a1:min i cur.toList.length=i:=by omega
      rw[a1]
      have a2:min es.length i=i:=by omega
      have a3:min i es.length=i:=by omega
      rw[a2,a3]
      congr 1
      ·congr 1
       rw[List.take_of_length_le (by omega)]
     refine goes_value h (S.write hl hgo _ _ rfl ?_) rel_vi ?_ (y:=.int .i64 ((srcs.take n).length:Nat)) (w':=w.setRow g (cur.toList.take i++cs++cur.toList.drop (i+cs.length)).toArray)
     ·refine⟨us.take i++cs++us.drop (i+cs.length),⟨⟨?_,.inr ⟨g,cap,_,by rw[hm,hlen],Nat.zero_le _,setRow_heap w g _ _ e' _ hg,by rw[hlen];exact hnc,hcm,?_,?_⟩⟩,hown.2⟩,?_,?_,by omega,hkk⟩
      ·rw[hlen];simp only[List.length_append,List.length_take,List.length_drop];omega
      ·simp only[List.size_toArray,List.length_append,List.length_take,List.length_drop];omega
      ·rw[hlen,Nat.mul_one];exact hfin
      ·refine TV.relR_keep hkp _ _ _ ?_
       have p1:=(relR_split i hr).1
       have p2:=(relR_split (i+(srcs.take n).length) hr).2
       rw[Nat.mul_one] at p1 p2
       rw[hcsl]
       exact TV.relR_append (TV.relR_append p1 hcsr) p2
      ·intro u hu
       simp only[List.mem_append] at hu
       rcases hu with (hu | hu) | hu
       ·exact h1 u (List.mem_of_mem_take hu)
       ·exact hcs1 u hu
       ·exact h1 u (List.mem_of_mem_drop hu)
     ·rw[hcsl] at hrun
      simp[execOp,ho,resolve,has,hts,hxe,hye,invoke,builtin,hrun,goInt,hcsl]
  ·exact h.elim
 ·exact h.elim
end
end
section
section
variable {P:Program} {T:TyTab} {w:World} {N:Nat} {B0:Nat→Prop} {F0:Nat→Prop} {w0:PW} {m:Nat→Value} {kk:Nat→Nat}
omit [Gm] in
theorem plain_rel {w w':World} {F F':Nat→Prop} {r:TV} {y:Value} (hp:r.plain=true) (h:r.rel w F y):r.rel w' F' y:=by
 unfold TV.plain at hp
 split at hp
 ·simpa only[TV.rel] using h
 ·simpa only[TV.rel,TV.relL] using h
 ·simpa only[TV.rel,TV.relL] using h
 ·simpa only[TV.rel,TV.relL] using h
 ·cases hp
theorem scallP_goes {o:Oper} {a:Act} {s:St} {K KP:St→Prop} (S:Sim N B0 F0 w0 s m kk a w) {g:FuncId} {vs:List AV} {us:List Value} (hent:Ent P g)
  (hr:AV.relL w (Fc F0 B0 s.σ m) m kk vs us) (h:scallP P N o.dst s K KP g vs) (hrun:(execOp a.eval o).run P w=(callFunc g us.toArray).run P w):GoesP P N B0 F0 w0 o a w K KP:=by
 obtain⟨ls,os,args,R,hsc,hnd,rfl,hob,hK,hKP⟩:=h
 have hlen:=hob.len
 have hlbl:∀ (i:Nat) (l:Nat),ls[i]?=some l→lbl ls (1000+i)=l:=fun i l hi=>by
  unfold lbl
  rw[Nat.add_sub_cancel_left,List.getD_eq_getElem?_getD,hi];rfl
 have hget:∀ {os':List AO} (l:Nat) (q:AO),os'.length=os.length→look l (lab 1000 os')=some q→∃ i l',l=1000+i∧ls[i]?=some l'∧os'[i]?=some q∧lbl ls l=l':=by
  intro os' l q hl' hl
  obtain⟨h1,h2⟩:=look_lab.1 hl
  have hlt:l-1000<os'.length:=(List.getElem?_eq_some_iff.1 h2).1
  have hlt':l-1000<ls.length:=by omega
  refine⟨l-1000,ls[l-1000],by omega,List.getElem?_eq_getElem hlt',h2,?_⟩
  have:=hlbl (l-1000) ls[l-1000] (List.getElem?_eq_getElem hlt')
  rwa [show 1000+(l-1000)=l by omega] at this
 have hold:∀ (i l':Nat),ls[i]?=some l'→∃ q q',os[i]?=some q∧look l' s.σ=some q'∧q'=q.ren (lbl ls):=by
  intro i l' hi
  have hlt:i<os.length:=by have:=(List.getElem?_eq_some_iff.1 hi).1;omega
  obtain⟨l2,h1,h2⟩:=hob.get i os[i] (List.getElem?_eq_getElem hlt)
  rw[hi] at h1;injection h1 with h1;subst h1
  exact⟨_,_,List.getElem?_eq_getElem hlt,h2,rfl⟩
 have hinj:=nodupB_inj hnd
 generalize hB:(fun b=>w.heap.size≤b∨∃ l q,look l (lab 1000 os)=some q∧obk (m (lbl ls l))=some b:Nat→Prop)=B1
 have hB1:∀ b,B1 b→B0 b:=by
  intro b hb
  rw[←hB] at hb
  rcases hb with hb | ⟨l,q,h1,h2⟩
  ·exact S.newB b hb
  ·obtain⟨i,l',rfl,h3,h4,h5⟩:=hget l q rfl h1
   obtain⟨q1,q2,_,h6,_⟩:=hold i l' h3
   rw[h5] at h2
   exact (AO.blk_lt (S.ob l' _ h6) h2).1
 generalize hF:(fun b=>Fc F0 B0 s.σ m b∧b<w.heap.size:Nat→Prop)=F1
 have hFc:∀ b,Fc F0 B0 s.σ m b→b<w.heap.size→Fc F1 B1 (lab 1000 os) (fun l=>m (lbl ls l)) b:=by
  intro b hb hlt
  refine⟨.inl (by rw[←hF];exact⟨hb,hlt⟩),fun l q hl=>?_⟩
  obtain⟨i,l',rfl,h3,h4,h5⟩:=hget l q rfl hl
  obtain⟨q1,q2,_,h6,_⟩:=hold i l' h3
  show obk (m (lbl ls (1000+i)))≠some b
  rw[h5];exact hb.2 l' _ h6
 have hkF:Keeps w (Fc F0 B0 s.σ m) w (Fc F1 B1 (lab 1000 os) (fun l=>m (lbl ls l))):=fun b hb hlt=>⟨hFc b hb hlt,rfl⟩
 have H1:Heap B1 F1 w (lab 1000 os) (fun l=>m (lbl ls l)) (fun l=>kk (lbl ls l)) w:=by
  refine⟨fun b hb=>by rw[←hB];exact .inl hb,⟨rfl,rfl,rfl,Nat.le_refl _,fun _ _ _=>rfl⟩,fun w' hk=>?_,?_,?_⟩
  ·exact S.gm w' (S.below.trans hk.os hk.tape hk.output hk.size fun b hb hno=>hk.block b (Nat.lt_of_lt_of_le hb S.below.size) (fun h=>hno (hB1 b h)))
  ·intro l q hl
   obtain⟨i,l',rfl,h3,h4,h5⟩:=hget l q rfl hl
   obtain⟨q1,q2,h7,h6,rfl⟩:=hold i l' h3
   rw[h4] at h7;injection h7 with h7;subst h7
   have hrel:=S.ob l' _ h6
   rw[←h5] at hrel
   refine AO.rel_sub hkF (fun b hb=>?_) (AO.rel_ren.1 hrel)
   rw[←hB];exact .inr ⟨_,_,hl,hb⟩
  ·intro l l2 q q2 hl hl2 hne
   obtain⟨i,l',rfl,h3,h4,h5⟩:=hget l q rfl hl
   obtain⟨j,l2',rfl,h3',h4',h5'⟩:=hget l2 q2 rfl hl2
   obtain⟨q1,_,_,h6,_⟩:=hold i l' h3
   obtain⟨q1',_,_,h6',_⟩:=hold j l2' h3'
   show obk (m (lbl ls (1000+i)))=none∨obk (m (lbl ls (1000+i)))≠obk (m (lbl ls (1000+j)))
   rw[h5,h5']
   refine S.dj l' l2' _ _ h6 h6' fun e=>?_
   subst e
   have:=hinj i j _ h3 h3'
   omega
 have hc:=hsc B1 F1 w _ _ us H1 (fun b hb=>by rw[←hF] at hb;exact hb.2) (AV.relL_same hkF _ _ ((AV.relL_ren _ _).1 hr))
 intro next Q hn hp
 unfold Oper.wp
 rw[hrun,hent,Oper.upon_enter]
 refine hc.mono ?_
 rintro e w' ⟨x,os',hR,hl',H2,hfit⟩
 have hnotB:∀ (l:Nat) (q:AO),look l s.σ=some q→(∀ i:Nat,ls[i]?≠some l)→∀ b,obk (m l)=some b→¬ B1 b:=by
  intro l q hl hno b hbl hB1b
  rw[←hB] at hB1b
  have hlt:=(AO.blk_lt (S.ob l q hl) hbl).2
  rcases hB1b with hb | ⟨l1,q1,h1,h2⟩
  ·omega
  ·obtain⟨i,l',rfl,h3,h4,h5⟩:=hget l1 q1 rfl h1
   obtain⟨_,_,_,h6,_⟩:=hold i l' h3
   rw[h5] at h2
   rcases S.dj l l' _ _ hl h6 (fun e=>hno i (by rw[e];exact h3)) with h7 | h7
   ·rw[hbl] at h7;cases h7
   ·exact h7 (hbl.trans h2.symm)
 have hsame:∀ l q,look l (zipO ls (renO (lbl ls) os')++s.σ)=some q→∃ q',look l s.σ=some q':=by
  intro l q hl
  rw[look_app] at hl
  split at hl
  ·rename_i q1 hq1
   obtain⟨i,h1,h2⟩:=look_zipO hq1
   obtain⟨_,q2,_,h3,_⟩:=hold i l h1
   exact⟨q2,h3⟩
  ·exact⟨q,hl⟩
 have hFcB:∀ b,Fc F0 B0 s.σ m b→b<w.heap.size→¬ B1 b:=by
  intro b hb hlt hB1b
  rw[←hB] at hB1b
  rcases hB1b with h | ⟨l1,q1,h1,h2⟩
  ·omega
  ·obtain⟨i,l',rfl,h3,h4,h5⟩:=hget l1 q1 rfl h1
   obtain⟨_,_,_,h6,_⟩:=hold i l' h3
   rw[h5] at h2
   exact hb.2 l' _ h6 h2
 have hk2:Keeps w (Fc F0 B0 s.σ m) w' (Fc F0 B0 (zipO ls (renO (lbl ls) os')++s.σ) m):=by
  intro b hb hlt
  exact⟨⟨hb.1,fun l q hl=>by obtain⟨q',hq'⟩:=hsame l q hl;exact hb.2 l q' hq'⟩,H2.below.block b hlt (hFcB b hb hlt)⟩
 have hk3:Keeps w' (Fc F1 B1 (lab 1000 os') (fun l=>m (lbl ls l))) w' (Fc F0 B0 (zipO ls (renO (lbl ls) os')++s.σ) m):=by
  intro b hb hlt
  refine⟨⟨?_,fun l q hl hbl=>?_⟩,rfl⟩
  ·rcases hb.1 with h | h
   ·rw[←hF] at h;exact h.1.1
   ·exact .inr (hB1 b h)
  ·obtain⟨q',hq'⟩:=hsame l q hl
   by_cases hin:∃ i:Nat,ls[i]?=some l
   ·obtain⟨i,hi⟩:=hin
    have hlti:i<os'.length:=by have:=(List.getElem?_eq_some_iff.1 hi).1;omega
    have:=hb.2 (1000+i) os'[i] (look_lab.2 ⟨by omega,by rw[Nat.add_sub_cancel_left];exact List.getElem?_eq_getElem hlti⟩)
    simp only[hlbl i l hi] at this
    exact this hbl
   ·have hno:∀ i:Nat,ls[i]?≠some l:=fun i hi=>hin ⟨i,hi⟩
    rcases hb.1 with h | h
    ·rw[←hF] at h;exact h.1.2 l q' hq' hbl
    ·exact hnotB l q' hq' hno b hbl h
 have S1:Sim N B0 F0 w0 ⟨s.φ,zipO ls (renO (lbl ls) os')++s.σ⟩ m kk a w':=by
  refine⟨⟨S.base,S.below.trans H2.below.os H2.below.tape H2.below.output H2.below.size fun b hb hno=>H2.below.block b (Nat.lt_of_lt_of_le hb S.below.size) (fun h=>hno (hB1 b h)),S.gm,?_,?_⟩,?_,S.df,S.sz,S.pn⟩
  ·intro l q hl
   rw[look_app] at hl
   split at hl
   ·rename_i q1 hq1
    injection hl with hl;subst hl
    obtain⟨i,h1,h2⟩:=look_zipO hq1
    obtain⟨o',h3,rfl⟩:=renO_get h2
    have hrel:=H2.ob (1000+i) o' (look_lab.2 ⟨by omega,by rw[Nat.add_sub_cancel_left];exact h3⟩)
    have hrel2:=AO.rel_ren.2 hrel
    rw[hlbl i l h1] at hrel2
    exact AO.rel_sub hk3 (fun b hb=>by
     obtain⟨_,_,_,h6,_⟩:=hold i l h1
     exact (AO.blk_lt (S.ob l _ h6) hb).1) hrel2
   ·rename_i hq1
    have hno:∀ i:Nat,ls[i]?≠some l:=fun i hi=>by
     obtain⟨q1,h⟩:=look_zipO_some (os:=renO (lbl ls) os') (by rw[renO_len,hl'];exact hlen) hi
     rw[hq1] at h;cases h
    refine AO.rel_keep hk2 (fun b hb=>?_) (S.ob l q hl)
    exact H2.below.block b (AO.blk_lt (S.ob l q hl) hb).2 (hnotB l q hl hno b hb)
  ·intro l l2 q q2 hl hl2 hne
   obtain⟨q',hq'⟩:=hsame l q hl
   obtain⟨q2',hq2'⟩:=hsame l2 q2 hl2
   exact S.dj l l2 _ _ hq' hq2' hne
  ·intro t x hx
   exact AV.rel_same hk2 x _ (S.fr t x hx)
 have up:∀ (r:TV) (v:Value),r.rel w' (Fc F1 B1 (lab 1000 os') (fun l=>m (lbl ls l))) v→r.rel w' (Fc F0 B0 (zipO ls (renO (lbl ls) os')++s.σ) m) v:=fun r v h=>TV.rel_keep hk3 r v h
 cases x with
 | ret r =>
  obtain⟨v,rfl,hrv⟩:=hfit
  have hb:=hK r os' hl' hR
  unfold bindK at hb
  split at hb
  ·rename_i d hd
   cases hlt:Nat.blt d N with
   | false=>rw[hlt] at hb;exact hb.elim
   | true =>
    rw[hlt,cond_true] at hb
    rw[hd]
    exact hn _ _ _ _ _ hb (S1.put (Nat.le_of_ble_eq_true hlt) (by simp only[AV.rel];exact up r v hrv))
  ·exact hb.elim
 | pan r =>
  obtain⟨v,rfl,hrv⟩:=hfit
  exact hp _ _ _ _ _ r v (hKP r os' hl' hR) S1 (up r v hrv)
omit [Gm] in
theorem rowsOK_spec:∀ {n:Nat} {ls:List Nat} {i l:Nat},rowsOK n ls=true→i<n→ls[i]?=some l→l<1000
 | 0,_,_,_,_,h,_=>absurd h (Nat.not_lt_zero _)
 | n+1,[],_,_,_,_,h=>by simp at h
 | n+1,x::ls,i,l,h,hi,hl=>by
  simp only[rowsOK,Bool.and_eq_true] at h
  cases i with
  | zero=>simp at hl;subst hl;exact Nat.le_of_ble_eq_true h.1
  | succ i=>exact rowsOK_spec h.2 (Nat.lt_of_succ_lt_succ hi) (by simpa using hl)
theorem scallR_goes {o:Oper} {a:Act} {s:St} {K:St→Prop} (S:Sim N B0 F0 w0 s m kk a w) {g:FuncId} {vs:List AV} {us:List Value} (hent:Ent P g)
  (hr:AV.relL w (Fc F0 B0 s.σ m) m kk vs us) (h:scallR P N o.dst s K g vs) (hrun:(execOp a.eval o).run P w=(callFunc g us.toArray).run P w):Goes P N B0 F0 w0 o a w K:=by
 obtain⟨bs,ls,os,args,R,hsc,hnd,hrows,hbn,rfl,hob,hK,hKP⟩:=h
 have hbn:=Nat.le_of_ble_eq_true hbn
 have hlen:=hob.len
 have hlbl:∀ (i:Nat) (l:Nat),ls[i]?=some l→lblB bs ls (bs+i)=l:=fun i l hi=>by
  unfold lblB
  rw[Nat.add_sub_cancel_left,List.getD_eq_getElem?_getD,hi];rfl
 have hget:∀ {os':List AO} (l:Nat) (q:AO),os'.length=os.length→look l (lab bs os')=some q→∃ i l',l=bs+i∧ls[i]?=some l'∧os'[i]?=some q∧lblB bs ls l=l':=by
  intro os' l q hl' hl
  obtain⟨h1,h2⟩:=look_lab.1 hl
  have hlt:l-bs<os'.length:=(List.getElem?_eq_some_iff.1 h2).1
  have hlt':l-bs<ls.length:=by omega
  refine⟨l-bs,ls[l-bs],by omega,List.getElem?_eq_getElem hlt',h2,?_⟩
  have:=hlbl (l-bs) ls[l-bs] (List.getElem?_eq_getElem hlt')
  rwa [show bs+(l-bs)=l by omega] at this
 have hold:∀ (i l':Nat),ls[i]?=some l'→∃ q q',os[i]?=some q∧look l' s.σ=some q'∧q'=q.ren (lblB bs ls):=by
  intro i l' hi
  have hlt:i<os.length:=by have:=(List.getElem?_eq_some_iff.1 hi).1;omega
  obtain⟨l2,h1,h2⟩:=hob.get i os[i] (List.getElem?_eq_getElem hlt)
  rw[hi] at h1;injection h1 with h1;subst h1
  exact⟨_,_,List.getElem?_eq_getElem hlt,h2,rfl⟩
 have hinj:=nodupB_inj hnd
 generalize hB:(fun b=>w.heap.size≤b∨∃ l q,look l (lab bs os)=some q∧obk (m (lblB bs ls l))=some b:Nat→Prop)=B1
 have hB1:∀ b,B1 b→B0 b:=by
  intro b hb
  rw[←hB] at hb
  rcases hb with hb | ⟨l,q,h1,h2⟩
  ·exact S.newB b hb
  ·obtain⟨i,l',rfl,h3,h4,h5⟩:=hget l q rfl h1
   obtain⟨q1,q2,_,h6,_⟩:=hold i l' h3
   rw[h5] at h2
   exact (AO.blk_lt (S.ob l' _ h6) h2).1
 generalize hF:(fun b=>Fc F0 B0 s.σ m b∧b<w.heap.size:Nat→Prop)=F1
 have hFc:∀ b,Fc F0 B0 s.σ m b→b<w.heap.size→Fc F1 B1 (lab bs os) (fun l=>m (lblB bs ls l)) b:=by
  intro b hb hlt
  refine⟨.inl (by rw[←hF];exact⟨hb,hlt⟩),fun l q hl=>?_⟩
  obtain⟨i,l',rfl,h3,h4,h5⟩:=hget l q rfl hl
  obtain⟨q1,q2,_,h6,_⟩:=hold i l' h3
  show obk (m (lblB bs ls (bs+i)))≠some b
  rw[h5];exact hb.2 l' _ h6
 have hkF:Keeps w (Fc F0 B0 s.σ m) w (Fc F1 B1 (lab bs os) (fun l=>m (lblB bs ls l))):=fun b hb hlt=>⟨hFc b hb hlt,rfl⟩
 have H1:Heap B1 F1 w (lab bs os) (fun l=>m (lblB bs ls l)) (fun l=>kk (lblB bs ls l)) w:=by
  refine⟨fun b hb=>by rw[←hB];exact .inl hb,⟨rfl,rfl,rfl,Nat.le_refl _,fun _ _ _=>rfl⟩,fun w' hk=>?_,?_,?_⟩
  ·exact S.gm w' (S.below.trans hk.os hk.tape hk.output hk.size fun b hb hno=>hk.block b (Nat.lt_of_lt_of_le hb S.below.size) (fun h=>hno (hB1 b h)))
  ·intro l q hl
   obtain⟨i,l',rfl,h3,h4,h5⟩:=hget l q rfl hl
   obtain⟨q1,q2,h7,h6,rfl⟩:=hold i l' h3
   rw[h4] at h7;injection h7 with h7;subst h7
   have hrel:=S.ob l' _ h6
   rw[←h5] at hrel
   refine AO.rel_sub hkF (fun b hb=>?_) (AO.rel_ren.1 hrel)
   rw[←hB];exact .inr ⟨_,_,hl,hb⟩
  ·intro l l2 q q2 hl hl2 hne
   obtain⟨i,l',rfl,h3,h4,h5⟩:=hget l q rfl hl
   obtain⟨j,l2',rfl,h3',h4',h5'⟩:=hget l2 q2 rfl hl2
   obtain⟨q1,_,_,h6,_⟩:=hold i l' h3
   obtain⟨q1',_,_,h6',_⟩:=hold j l2' h3'
   show obk (m (lblB bs ls (bs+i)))=none∨obk (m (lblB bs ls (bs+i)))≠obk (m (lblB bs ls (bs+j)))
   rw[h5,h5']
   refine S.dj l' l2' _ _ h6 h6' fun e=>?_
   subst e
   have:=hinj i j _ h3 h3'
   omega
 have hc:=hsc B1 F1 w _ _ us H1 (fun b hb=>by rw[←hF] at hb;exact hb.2) (AV.relL_same hkF _ _ ((AV.relL_ren _ _).1 hr))
 intro next Q hn
 unfold Oper.wp
 rw[hrun,hent,Oper.upon_enter]
 refine hc.mono ?_
 rintro e w' ⟨x,os',m',kk',hR,hl',hge,hmk,H2,hfit⟩
 generalize hrl:ls.take (1000-bs)=rls at hK
 have hrls:∀ (i l:Nat),ls[i]?=some l→(l∈rls↔bs+i<1000):=by
  intro i l hi
  rw[←hrl]
  constructor
  ·intro h
   obtain⟨j,hj⟩:=List.getElem?_of_mem h
   rw[List.getElem?_take] at hj
   split at hj
   ·have:=hinj i j l hi hj;omega
   ·cases hj
  ·intro h
   exact List.mem_of_getElem? (i:=i) (by rw[List.getElem?_take,if_pos (by omega)];exact hi)
 have hrin:∀ l,l∈rls→∃ i:Nat,ls[i]?=some l∧bs+i<1000:=by
  intro l h
  rw[←hrl] at h
  obtain⟨j,hj⟩:=List.getElem?_of_mem h
  rw[List.getElem?_take] at hj
  split at hj
  ·exact⟨j,hj,by omega⟩
  ·cases hj
 obtain⟨m2,kk2,hm2,hmo⟩:∃ (m2:Nat→Value) (kk2:Nat→Nat),(∀ (i l:Nat),ls[i]?=some l→m2 l=m' (bs+i)∧kk2 l=kk' (bs+i))∧(∀ l,l∉rls→m2 l=m l∧kk2 l=kk l):=by
  classical
  refine⟨fun l=>if h:∃ i:Nat,ls[i]?=some l then m' (bs+h.choose) else m l,fun l=>if h:∃ i:Nat,ls[i]?=some l then kk' (bs+h.choose) else kk l,?_,?_⟩
  ·intro i l hi
   have h:∃ i:Nat,ls[i]?=some l:=⟨i,hi⟩
   have:=hinj _ _ l h.choose_spec hi
   simp only[dif_pos h,this,and_self]
  ·intro l hl
   by_cases h:∃ i:Nat,ls[i]?=some l
   ·have h1:=h.choose_spec
    have h2:¬ (bs+h.choose<1000):=fun hh=>hl ((hrls _ l h1).2 hh)
    have h3:=hmk (bs+h.choose) (by omega)
    simp only[dif_pos h]
    rw[h3.1,h3.2]
    show m (lblB bs ls (bs+h.choose))=m l∧kk (lblB bs ls (bs+h.choose))=kk l
    rw[hlbl _ l h1]
    exact⟨rfl,rfl⟩
   ·simp only[dif_neg h,and_self]
 have hnotB:∀ (l:Nat) (q:AO),look l s.σ=some q→(∀ i:Nat,ls[i]?≠some l)→∀ b,obk (m l)=some b→¬ B1 b:=by
  intro l q hl hno b hbl hB1b
  rw[←hB] at hB1b
  have hlt:=(AO.blk_lt (S.ob l q hl) hbl).2
  rcases hB1b with hb | ⟨l1,q1,h1,h2⟩
  ·omega
  ·obtain⟨i,l',rfl,h3,h4,h5⟩:=hget l1 q1 rfl h1
   obtain⟨_,_,_,h6,_⟩:=hold i l' h3
   rw[h5] at h2
   rcases S.dj l l' _ _ hl h6 (fun e=>hno i (by rw[e];exact h3)) with h7 | h7
   ·rw[hbl] at h7;cases h7
   ·exact h7 (hbl.trans h2.symm)
 have hFcB:∀ b,Fc F0 B0 s.σ m b→b<w.heap.size→¬ B1 b:=by
  intro b hb hlt hB1b
  rw[←hB] at hB1b
  rcases hB1b with h | ⟨l1,q1,h1,h2⟩
  ·omega
  ·obtain⟨i,l',rfl,h3,h4,h5⟩:=hget l1 q1 rfl h1
   obtain⟨_,_,_,h6,_⟩:=hold i l' h3
   rw[h5] at h2
   exact hb.2 l' _ h6 h2
 have hcase:∀ l q,look l (zipO ls (renO (lblB bs ls) os')++killsS rls s.σ)=some q →
   (∃ (i:Nat) (o':AO),ls[i]?=some l∧os'[i]?=some o'∧q=o'.ren (lblB bs ls))∨((∀ i:Nat,ls[i]?≠some l)∧l∉rls∧∃ q',look l s.σ=some q'∧q=killsO rls q'):=by
  intro l q hl
  rw[look_app] at hl
  split at hl
  ·rename_i q1 hq1
   injection hl with hl;subst hl
   obtain⟨i,h1,h2⟩:=look_zipO hq1
   obtain⟨o',h3,h4⟩:=renO_get h2
   exact .inl ⟨i,o',h1,h3,h4⟩
  ·rename_i hq1
   have hno:∀ i:Nat,ls[i]?≠some l:=fun i hi=>by
    obtain⟨q1,h⟩:=look_zipO_some (os:=renO (lblB bs ls) os') (by rw[renO_len,hl'];exact hlen) hi
    rw[hq1] at h;cases h
   obtain⟨h1,q',h2,h3⟩:=look_killsS hl
   exact .inr ⟨hno,h1,q',h2,h3⟩
 have hblk:∀ (i l:Nat) (o':AO),ls[i]?=some l→os'[i]?=some o'→∀ b,obk (m2 l)=some b→B1 b:=by
  intro i l o' h1 h2 b hb
  have h3:=H2.ob (bs+i) o' (look_lab.2 ⟨by omega,by rw[Nat.add_sub_cancel_left];exact h2⟩)
  rw[(hm2 i l h1).1] at hb
  exact (AO.blk_lt h3 hb).1
 have hk2:Keeps w (Fc F0 B0 s.σ m) w' (Fc F0 B0 (zipO ls (renO (lblB bs ls) os')++killsS rls s.σ) m2):=by
  intro b hb hlt
  refine⟨⟨hb.1,fun l q hl e=>?_⟩,H2.below.block b hlt (hFcB b hb hlt)⟩
  rcases hcase l q hl with⟨i,o',h1,h2,_⟩ | ⟨_,h1,q',h2,_⟩
  ·exact hFcB b hb hlt (hblk i l o' h1 h2 b e)
  ·rw[(hmo l h1).1] at e
   exact hb.2 l q' h2 e
 have hk3:Keeps w' (Fc F1 B1 (lab bs os') m') w' (Fc F0 B0 (zipO ls (renO (lblB bs ls) os')++killsS rls s.σ) m2):=by
  intro b hb hlt
  refine⟨⟨?_,fun l q hl hbl=>?_⟩,rfl⟩
  ·rcases hb.1 with h | h
   ·rw[←hF] at h;exact h.1.1
   ·exact .inr (hB1 b h)
  ·rcases hcase l q hl with⟨i,o',h1,h2,_⟩ | ⟨hno,h1,q',h2,_⟩
   ·rw[(hm2 i l h1).1] at hbl
    exact hb.2 (bs+i) o' (look_lab.2 ⟨by omega,by rw[Nat.add_sub_cancel_left];exact h2⟩) hbl
   ·rw[(hmo l h1).1] at hbl
    rcases hb.1 with h | h
    ·rw[←hF] at h;exact h.1.2 l q' h2 hbl
    ·exact hnotB l q' h2 hno b hbl h
 have hkm:∀ (x:AV) (y:Value),x.rel w (Fc F0 B0 s.σ m) m kk y→(killsV rls x).rel w' (Fc F0 B0 (zipO ls (renO (lblB bs ls) os')++killsS rls s.σ) m2) m2 kk2 y:=fun x y h =>
  AV.rel_kills rls hmo (AV.rel_same hk2 x _ h)
 have hr1000:∀ l,l∈rls→l<1000:=by
  intro l h
  obtain⟨i,h1,h2⟩:=hrin l h
  exact rowsOK_spec hrows (show i<1000-bs by omega) h1
 have hmr:∀ l,bs≤l→m2 (lblB bs ls l)=m' l∧kk2 (lblB bs ls l)=kk' l:=by
  intro l hl
  by_cases hlt:l-bs<ls.length
  ·have h1:=List.getElem?_eq_getElem hlt
   have h2:=hm2 _ _ h1
   have h3:=hlbl _ _ h1
   rw[show bs+(l-bs)=l by omega] at h2 h3
   rw[h3];exact h2
  ·have e:lblB bs ls l=l:=by
    unfold lblB
    rw[List.getD_eq_getElem?_getD,List.getElem?_eq_none (by omega)];rfl
   have h1000:1000≤l:=by omega
   have h3:=hmk l h1000
   have h4:=hmo l (fun h=>by have:=hr1000 l h;omega)
   rw[e,h4.1,h4.2,h3.1,h3.2]
   simp only[e,and_self]
 have S1:Sim N B0 F0 w0 ⟨killsF rls s.φ,zipO ls (renO (lblB bs ls) os')++killsS rls s.σ⟩ m2 kk2 a w':=by
  refine⟨⟨S.base,S.below.trans H2.below.os H2.below.tape H2.below.output H2.below.size fun b hb hno=>H2.below.block b (Nat.lt_of_lt_of_le hb S.below.size) (fun h=>hno (hB1 b h)),S.gm,?_,?_⟩,?_,S.df,S.sz,?_⟩
  ·intro l q hl
   rcases hcase l q hl with⟨i,o',h1,h2,rfl⟩ | ⟨hno,h1,q',h2,rfl⟩
   ·have hlk:=look_lab (l:=bs+i) (o:=o') (os:=os') (n:=bs) |>.2 ⟨by omega,by rw[Nat.add_sub_cancel_left];exact h2⟩
    have hrel:=H2.ob (bs+i) o' hlk
    have hrel3:=AO.rel_sub hk3 (fun b hb=>hB1 b (AO.blk_lt hrel hb).1) hrel
    rw[←hlbl i l h1]
    exact AO.rel_ren.2 (AO.rel_ge hmr (by omega) (geO_get hge _ _ h2) hrel3)
   ·refine AO.rel_kills rls hmo h1 (AO.rel_keep hk2 (fun b hb=>?_) (S.ob l q' h2))
    exact H2.below.block b (AO.blk_lt (S.ob l q' h2) hb).2 (hnotB l q' h2 hno b hb)
  ·intro l l2 q q2 hl hl2 hne
   have mix:∀ (i l l2:Nat) (o' q':AO),ls[i]?=some l→os'[i]?=some o'→(∀ i:Nat,ls[i]?≠some l2)→l2∉rls→look l2 s.σ=some q'→obk (m2 l)=none∨obk (m2 l)≠obk (m2 l2):=by
    intro i l l2 o' q' h1 h2 h3 h4 h5
    cases hb:obk (m2 l) with
    | none=>exact .inl rfl
    | some b =>
     refine .inr fun e=>?_
     rw[(hmo l2 h4).1] at e
     exact hnotB l2 q' h5 h3 b e.symm (hblk i l o' h1 h2 b hb)
   rcases hcase l q hl with⟨i,o',h1,h2,rfl⟩ | ⟨hno,h1,q',h2,rfl⟩
   ·rcases hcase l2 q2 hl2 with⟨j,o2',g1,g2,rfl⟩ | ⟨gno,g1,q2',g2,rfl⟩
    ·rw[(hm2 i l h1).1,(hm2 j l2 g1).1]
     refine H2.dj (bs+i) (bs+j) o' o2' (look_lab.2 ⟨by omega,by rw[Nat.add_sub_cancel_left];exact h2⟩) (look_lab.2 ⟨by omega,by rw[Nat.add_sub_cancel_left];exact g2⟩) (fun e=>?_)
     have:i=j:=by omega
     subst this
     rw[h1] at g1;injection g1 with g1;exact hne g1
    ·exact mix i l l2 o' q2' h1 h2 gno g1 g2
   ·rcases hcase l2 q2 hl2 with⟨j,o2',g1,g2,rfl⟩ | ⟨gno,g1,q2',g2,rfl⟩
    ·cases hb:obk (m2 l) with
     | none=>exact .inl rfl
     | some b =>
      rcases mix j l2 l o2' q' g1 g2 hno h1 h2 with h | h
      ·exact .inr fun e=>by rw[←e] at h;cases h
      ·exact .inr fun e=>by rw[hb] at h;exact h e.symm
    ·rw[(hmo l h1).1,(hmo l2 g1).1]
     exact S.dj l l2 _ _ h2 g2 hne
  ·intro t x hx
   rw[look_killsF] at hx
   cases hq:look t s.φ with
   | none=>simp[hq] at hx
   | some x' =>
    simp only[hq,Option.map_some,Option.some.injEq] at hx
    subst hx
    exact hkm x' _ (S.fr t x' hq)
  ·intro l hl hl2
   have hni:l∉rls:=by
    intro h
    have:=hr1000 l h;omega
   rw[(hmo l hni).1,(hmo l hni).2]
   exact S.pn l hl hl2
 cases x with
 | ret r =>
  obtain⟨v,rfl,hrv⟩:=hfit
  have hb:=hK r os' hl' hR
  rw[killsK_eq] at hb
  unfold bindK at hb
  split at hb
  ·rename_i d hd
   cases hlt:Nat.blt d N with
   | false=>rw[hlt] at hb;exact hb.elim
   | true =>
    rw[hlt,cond_true] at hb
    rw[hd]
    exact hn _ _ _ _ _ hb (S1.put (Nat.le_of_ble_eq_true hlt) (by simp only[AV.rel];exact TV.rel_keep hk3 r v hrv))
  ·exact hb.elim
 | pan r=>exact (hKP r os' hl' hR).elim
theorem scallK_goes {o:Oper} {a:Act} {s:St} {K:St→Prop} (S:Sim N B0 F0 w0 s m kk a w) {g:FuncId} {vs:List AV} {us:List Value} (hent:Ent P g)
  (hr:AV.relL w (Fc F0 B0 s.σ m) m kk vs us) (h:scallK P N o.dst s K g vs) (hrun:(execOp a.eval o).run P w=(callFunc g us.toArray).run P w):Goes P N B0 F0 w0 o a w K :=
 fun next Q hn=>scallP_goes S hent hr h hrun next Q hn (fun _ _ _ _ _ _ _ h=>h.elim)
theorem callK0_goes {o:Oper} {a:Act} {s:St} {K:St→Prop} (S:Sim N B0 F0 w0 s m kk a w) {g:FuncId} {vs:List AV} {us:List Value}
  (hr:AV.relL w (Fc F0 B0 s.σ m) m kk vs us) (h:callK0 P N o.dst s K g vs) (hrun:(execOp a.eval o).run P w=(callFunc g us.toArray).run P w):Goes P N B0 F0 w0 o a w K:=by
 have hsz:=S.newB
 unfold callK0 at h
 rcases freezeE_spec h with⟨xs,s',hfr,h⟩ | ⟨hent,h⟩
 rotate_left 1
 ·exact scallK_goes S hent hr h hrun
 ·obtain⟨hent,h⟩:=h
  obtain⟨S',hxr⟩:=S.freeze hfr hr
  have hxr':TV.relL w (fun b=>Fc F0 B0 s'.σ m b∧b<w.heap.size) xs us:=TV.relL_keep (fun b hb hlt=>⟨⟨hb,hlt⟩,rfl⟩) _ _ hxr
  have hsub:∀ {w':World},Below w.heap.size w w'→∀ b,((Fc F0 B0 s'.σ m b∧b<w.heap.size)∨w.heap.size≤b)→Fc F0 B0 s'.σ m b:=by
   intro w' _ b hb
   rcases hb with hb | hb
   ·exact hb.1
   ·refine⟨.inr (hsz _ hb),fun l o' hl e=>?_⟩
    have:=(AO.blk_lt (S'.ob l o' hl) e).2;omega
  rcases h with⟨r,hpc,h⟩ | ⟨e,k,es,hoc,h⟩ | h | ⟨str,es,hmc,h⟩ | h
  ·have hc:=hpc w _ us (S.gm w S.below) (fun b hb=>hb.2) hxr'
   intro next Q hn
   unfold Oper.wp
   rw[hrun,hent,Oper.upon_enter]
   refine hc.mono ?_
   rintro e w' ⟨v,rfl,hbel,hv⟩
   have hv':r.rel w' (Fc F0 B0 s'.σ m) v:=TV.rel_keep (keeps_mono (hsub hbel)) _ _ hv
   have go:∀ (s1:St),Sim N B0 F0 w0 s1 m kk a w'→bindK N o.dst s1 K (.t r)→r.rel w' (Fc F0 B0 s1.σ m) v→next (a.put o.dst v) w':=by
    intro s1 S1 hb hrel
    unfold bindK at hb
    split at hb
    ·rename_i d hd
     cases hlt:Nat.blt d N with
     | false=>rw[hlt] at hb;exact hb.elim
     | true =>
      rw[hlt,cond_true] at hb
      rw[hd]
      exact hn _ _ _ _ _ hb (S1.put (Nat.le_of_ble_eq_true hlt) (by simpa only[AV.rel] using hrel))
    ·exact hb.elim
   cases hp:r.plain with
   | true=>rw[hp,cond_true] at h;exact go s (S.grow hbel) h (plain_rel hp hv')
   | false=>rw[hp,cond_false] at h;exact go s' (S'.grow hbel) h hv'
  ·have hc:=hoc w _ us (S.gm w S.below) (fun b hb=>hb.2) hxr'
   intro next Q hn
   unfold Oper.wp
   rw[hrun,hent,Oper.upon_enter]
   refine hc.mono ?_
   rintro e' w' ⟨v,vs',rfl,hbel,hk0,hown,h1,hrel⟩
   unfold layK at h
   split at h
   ·rename_i d hd
    cases hlt:Nat.blt d N with
    | false=>rw[hlt] at h;exact h.elim
    | true =>
     rw[hlt,cond_true,killK_eq] at h
     obtain⟨H',hkp⟩:=heap_row S' d e k es v vs' hk0 hbel hown (TV.relR_keep (keeps_mono fun b hb=>⟨hsub hbel b hb.1,hb.2⟩) _ _ _ hrel) h1
     have S1:Sim N B0 F0 w0 ⟨killF d s'.φ,(d,.row e k es)::killS d s'.σ⟩ (upd m d v) (upd kk d k) a w':=by
      refine⟨H',?_,S'.df,S'.sz,pn_upd S'.pn (Nat.le_of_ble_eq_true hlt) _ _⟩
      intro t u hu
      simp only[look_killF] at hu
      cases hq:look t s'.φ with
      | none=>simp[hq] at hu
      | some u' =>
       simp only[hq,Option.map_some,Option.some.injEq] at hu
       subst hu
       exact AV.rel_kill hkp (fun l' h=>⟨upd_ne _ _ h,upd_ne _ _ h⟩) (S'.fr t u' hq)
     rw[hd]
     obtain⟨A',c',he'⟩:=ownsRow_slice hown
     exact hn _ _ _ _ _ h (S1.put (Nat.le_of_ble_eq_true hlt) (by simp only[AV.rel];exact⟨(upd_same _ _ _).symm,.inl ⟨A',_,c',by rw[upd_same];exact he'⟩⟩))
   ·exact h.elim
  ·exact scallK_goes S hent hr h hrun
  ·have hc:=hmc w _ us (S.gm w S.below) (fun b hb=>hb.2) hxr'
   intro next Q hn
   unfold Oper.wp
   rw[hrun,hent,Oper.upon_enter]
   refine hc.mono ?_
   rintro e' w' ⟨g',l',rfl,hbel,hg1,hg2,hrel⟩
   unfold layK at h
   split at h
   ·rename_i d hd
    cases hlt:Nat.blt d N with
    | false=>rw[hlt] at h;exact h.elim
    | true =>
     rw[hlt,cond_true,killK_eq] at h
     obtain⟨H',hkp⟩:=heap_map S' d str es g' l' hbel hg1 hg2 (MR_keep (keeps_mono fun b hb=>⟨hsub hbel b hb.1,hb.2⟩) hrel)
     have S1:Sim N B0 F0 w0 ⟨killF d s'.φ,(d,.mo (.map str es))::killS d s'.σ⟩ (upd m d (.map (some g'))) (upd kk d 0) a w':=by
      refine⟨H',?_,S'.df,S'.sz,pn_upd S'.pn (Nat.le_of_ble_eq_true hlt) _ _⟩
      intro t u hu
      simp only[look_killF] at hu
      cases hq:look t s'.φ with
      | none=>simp[hq] at hu
      | some u' =>
       simp only[hq,Option.map_some,Option.some.injEq] at hu
       subst hu
       exact AV.rel_kill hkp (fun l' h=>⟨upd_ne _ _ h,upd_ne _ _ h⟩) (S'.fr t u' hq)
     rw[hd]
     exact hn _ _ _ _ _ h (S1.put (Nat.le_of_ble_eq_true hlt) (by simp only[AV.rel];exact⟨(upd_same _ _ _).symm,.inr ⟨g',upd_same _ _ _⟩⟩))
   ·exact h.elim
  ·exact scallR_goes S hent hr h hrun
omit [Gm] in
theorem relR_plain {w':World} {F F':Nat→Prop} {k:Nat}:∀ {es:List (List TV)} {us:List Value},(∀ c∈es,∀ x∈c,x.plain=true)→TV.relR w' F k es us→TV.relR w' F' k es us
 | [],us,_,h=>by simpa only[TV.relR] using h
 | e::es,us,hp,h=>by
  simp only[TV.relR] at h ⊢
  obtain⟨u1,u2,h1,h2,h3,h4⟩:=h
  refine⟨u1,u2,h1,h2,?_,relR_plain (fun c hc=>hp c (by simp[hc])) h4⟩
  have key:∀ (xs:List TV) (vs:List Value),(∀ x∈xs,x.plain=true)→TV.relL w' F xs vs→TV.relL w' F' xs vs:=by
   intro xs
   induction xs with
   | nil=>intro vs _ h;simpa only[TV.relL] using h
   | cons x xs ih =>
    intro vs hx h
    simp only[TV.relL] at h ⊢
    obtain⟨u,us',q1,q2,q3⟩:=h
    exact⟨u,us',q1,plain_rel (hx x (by simp)) q2,ih us' (fun y hy=>hx y (by simp[hy])) q3⟩
  exact key e u1 (hp e (by simp)) h3
theorem Sim.relay {s:St} {a:Act} {w':World} (S:Sim N B0 F0 w0 s m kk a w) {l:Nat} (hlN:(Nat.blt l N||Nat.blt l 1000)=true) {e:TypeId} {k:Nat} {es es':List (List TV)} (hl:look l s.σ=some (.row e k es)) {v':Value} {vs':List Value}
  (hkept:Kept (fun g=>w.heap.size≤g∨obk (m l)=some g) w w') (hown:w'.ownsRow 0 e k v' es'.length vs') (hob:∀ g,obk v'=some g→w.heap.size≤g∨obk (m l)=some g) (h1:OneAll vs')
  (hrel:TV.relR w' (Fc F0 B0 ((l,.row e k es')::killS l s.σ) (upd m l v')) k es' vs'):Sim N B0 F0 w0 ⟨killF l s.φ,(l,.row e k es')::killS l s.σ⟩ (upd m l v') (upd kk l k) a w':=by
 obtain⟨us0,hown0,hr0,h10,hk0,hkk0⟩:=S.ob l _ hl
 obtain⟨H',hkp⟩:=Heap.lay (w':=w') S.toHeap l v' k (.row e k es')
  (fun b hb hne=>hkept.block b hb (fun h=>h.elim (fun h=>absurd hb (Nat.not_lt.2 h)) (hne _ hl))) hkept.size hkept.os hkept.tape hkept.output
  (fun g hg=>(hob g hg).elim .inl (fun h=>.inr ⟨_,hl,h⟩))
  ⟨vs',⟨by rw[upd_same];exact hown,fun g hg=>by
   rw[upd_same] at hg
   rcases hob g hg with h | h
   ·exact S.newB g h
   ·exact (AO.blk_lt (S.ob l _ hl) h).1⟩,hrel,h1,hk0,upd_same _ _ _⟩
 refine⟨H',?_,S.df,S.sz,pn_updL S.pn hlN _ _⟩
 intro t' u hu
 simp only[look_killF] at hu
 cases hq:look t' s.φ with
 | none=>simp[hq] at hu
 | some u' =>
  simp only[hq,Option.map_some,Option.some.injEq] at hu
  subst hu
  exact AV.rel_kill hkp (fun l' h=>⟨upd_ne _ _ h,upd_ne _ _ h⟩) (S.fr t' u' hq)
omit [Gm] in
theorem look_freeze {s s':St} {vs:List AV} {xs:List TV} (h:s.freeze vs=some (xs,s')) {l:Nat} {e:TypeId} {k:Nat} {es:List (List TV)} (hl:look l s'.σ=some (.row e k es)):look l s.σ=some (.row e k es):=by
 unfold St.freeze at h
 split at h
 ·simp only[Option.some.injEq,Prod.mk.injEq] at h;rw[h.2];exact hl
 ·split at h
  ·simp only[Option.some.injEq,Prod.mk.injEq] at h
   obtain⟨_,rfl⟩:=h
   have hl:=(look_seal _ s l).symm.trans hl
   split at hl
   ·cases hl
   ·cases hq:look l s.σ with
    | none=>simp[hq] at hl
    | some o =>
     simp only[hq,Option.map_some,Option.some.injEq] at hl
     cases o with
     | var cs=>simp[AO.frz] at hl
     | row e' k' es'=>simp only[AO.frz] at hl;rw[hl]
     | mo x=>simp[AO.frz] at hl
  ·cases h
theorem icallK_goes {o:Oper} {a:Act} {s:St} {K:St→Prop} (S:Sim N B0 F0 w0 s m kk a w) {g:FuncId} {l:Nat} {rest:List AV} {us:List Value}
  (hr:AV.relL w (Fc F0 B0 s.σ m) m kk (.sl l::rest) us) (h:icallK P N o.dst s K g l rest) (hrun:(execOp a.eval o).run P w=(callFunc g us.toArray).run P w):Goes P N B0 F0 w0 o a w K:=by
 have hsz:=S.newB
 simp only[AV.relL,AV.rel] at hr
 obtain⟨u,us',rfl,⟨rfl,_⟩,hr⟩:=hr
 unfold icallK at h
 obtain⟨xs,s',hfr,hent,h⟩:=freezeK_spec h
 obtain⟨S',hxr⟩:=S.freeze hfr hr
 split at h
 ·rename_i e k es hl
  obtain⟨es',hic,h⟩:=h
  cases hb:(Nat.blt l N||Nat.blt l 1000) with
  | false=>rw[hb] at h;exact h.elim
  | true =>
  rw[hb,cond_true] at h
  have hlN:(Nat.blt l N||Nat.blt l 1000)=true:=hb
  have hl0:=look_freeze hfr hl
  obtain⟨us0,hown,hr0,h10,hk0,hkk⟩:=S'.ob l _ hl
  have hxr':TV.relL w (fun b=>Fc F0 B0 s'.σ m b∧b<w.heap.size) xs us':=TV.relL_keep (fun b hb hlt=>⟨⟨hb,hlt⟩,rfl⟩) _ _ hxr
  have hr0':TV.relR w (fun b=>Fc F0 B0 s'.σ m b∧b<w.heap.size) k es us0:=TV.relR_keep (fun b hb hlt=>⟨⟨hb,hlt⟩,rfl⟩) _ _ _ hr0
  have hgm:∀ w',Kept (fun g=>w.heap.size≤g∨obk (m l)=some g) w w'→Gm.g w':=fun w' hk=>S.gm w' (S.below.trans hk.os hk.tape hk.output hk.size fun k hk0 hnB=>hk.block k (Nat.lt_of_lt_of_le hk0 S.below.size) (by
   rintro (h' | h')
   ·have:=S.below.size;omega
   ·exact hnB (AO.blk_lt (S'.ob l _ hl) h').1))
  have hc:=hic w _ (m l) us0 us' hgm (fun b hb=>hb.2) hk0 hown.1 h10 hr0' hxr' (fun g hg hF=>hF.1.2 l _ hl hg)
  intro next Q hn
  unfold Oper.wp
  rw[hrun,hent,Oper.upon_enter]
  refine hc.mono ?_
  rintro en w' ⟨v',vs',rfl,hkept,hown',hob,h1,hrel⟩
  obtain⟨A',c',he'⟩:=ownsRow_slice hown'
  have go:∀ (s1:St),Sim N B0 F0 w0 s1 m kk a w→look l s1.σ=some (.row e k es)→killK l s1.φ s1.σ (fun φ' σ'=>bindK N o.dst ⟨φ',(l,.row e k es')::σ'⟩ K (.sl l)) →
    TV.relR w' (Fc F0 B0 ((l,.row e k es')::killS l s1.σ) (upd m l v')) k es' vs'→next (a.put o.dst v') w':=by
   intro s1 S1 hl1 hb hrel1
   rw[killK_eq] at hb
   have S2:=S1.relay hlN hl1 hkept hown' hob h1 hrel1
   unfold bindK at hb
   split at hb
   ·rename_i d hd
    cases hlt:Nat.blt d N with
    | false=>rw[hlt] at hb;exact hb.elim
    | true =>
     rw[hlt,cond_true] at hb
     rw[hd]
     exact hn _ _ _ _ _ hb (S2.put (Nat.le_of_ble_eq_true hlt) (by simp only[AV.rel];exact⟨(upd_same _ _ _).symm,.inl ⟨A',_,c',by rw[upd_same];exact he'⟩⟩))
   ·exact hb.elim
  rcases h with⟨hpl,h⟩ | h
  ·exact go s S hl0 h (relR_plain hpl hrel)
  ·refine go s' S' hl h (TV.relR_keep (keeps_mono ?_) _ _ _ hrel)
   rintro b ⟨hb,hne⟩
   refine⟨?_,?_⟩
   ·rcases hb with hb | hb | hb
    ·exact hb.1.1
    ·exact .inr (hsz b hb)
    ·exact .inr (AO.blk_lt (S'.ob l _ hl) hb).1
   ·intro l' o' hl'
    rw[look_cons] at hl'
    by_cases hll:l'=l
    ·subst hll;rw[upd_same];exact hne
    ·simp only[hll,if_false,look_killS] at hl'
     rw[upd_ne _ _ hll]
     cases hq:look l' s'.σ with
     | none=>simp[hq] at hl'
     | some q =>
      rcases hb with hb | hb | hb
      ·exact hb.1.2 l' q hq
      ·intro e'
       have:=(AO.blk_lt (S'.ob l' q hq) e').2;omega
      ·rcases S'.dj l' l q _ hq hl hll with h' | h'
       ·rw[h'];simp
       ·rw[←hb];exact h'
 ·exact h.elim
theorem callK_goes {o:Oper} {a:Act} {s:St} {K:St→Prop} (S:Sim N B0 F0 w0 s m kk a w) {g:FuncId} {vs:List AV} {us:List Value}
  (hr:AV.relL w (Fc F0 B0 s.σ m) m kk vs us) (h:callK P N o.dst s K g vs) (hrun:(execOp a.eval o).run P w=(callFunc g us.toArray).run P w):Goes P N B0 F0 w0 o a w K:=by
 unfold callK at h
 split at h
 ·rcases h with h | h
  ·exact callK0_goes S hr h hrun
  ·exact icallK_goes S hr h hrun
 ·exact callK0_goes S hr h hrun
omit [Gm] in
theorem freeze_trees:∀ (xs:List TV),allT (xs.map .t)=some xs
 | []=>rfl
 | x::xs=>by simp only[List.map_cons,allT,freeze_trees xs]
omit [Gm] in
theorem allT_eq:∀ {vs:List AV} {xs:List TV},allT vs=some xs→vs=xs.map .t
 | [],xs,h=>by simp only[allT,Option.some.injEq] at h;subst h;rfl
 | v::vs,xs,h=>by
  cases v <;> simp only[allT] at h <;> try (cases h;done)
  split at h
  ·rename_i ys hy
   injection h with h;subst h
   rw[allT_eq hy];rfl
  ·cases h
theorem callF_callK {d:Option Tmp} {s:St} {K:St→Prop} {f:FuncId} {vs:List AV} {caps:List TV} (h:callF P N d s K f vs caps):callK P N d s K f (vs++caps.map .t):=by
 unfold callF at h
 split at h
 ·rename_i xs hxs
  rw[allT_eq hxs,←List.map_append]
  generalize xs++caps=zs at h
  have h0:callK0 P N d s K f (zs.map .t):=by
   unfold callK0 freezeE
   simp only[freeze_trees]
   obtain⟨h1,h2⟩:=h
   refine⟨h1,?_⟩
   rcases h2 with⟨r,h3,h4⟩ | h2
   ·exact .inl ⟨r,h3,by cases r.plain <;> exact h4⟩
   ·exact .inr (.inl h2)
  cases zs with
  | nil=>exact h0
  | cons z zs=>exact h0
 ·exact h
theorem evOp_sound (C:Ctx P T) {own:List Nat} {o:Oper} {a:Act} {s:St} {K:St→Prop} (S:Sim N B0 F0 w0 s m kk a w) {lk:Operand→Option AV}
  (hl:∀ x v,lk x=some v→v.rel w (Fc F0 B0 s.σ m) m kk (a.eval x)) (h:evOp T P own N o lk s K):Goes P N B0 F0 w0 o a w K:=by
 unfold evOp at h
 split at h
 ·rename_i t x ho
  split at h
  ·rename_i ti v ht hv
   split at h
   ·rename_i cs hcs
    cases hb:Nat.beq cs.length ti.size with
    | false=>rw[hb] at h;exact h.elim
    | true =>
     rw[hb,cond_true] at h
     split at h
     ·rename_i d hd
      exact box_goes S ho ht (hl x v hv) hcs hd h
     ·exact h.elim
   ·exact h.elim
  ·exact h.elim
 ·rename_i t ho
  split at h
  ·rename_i ti ht
   exact alloc_goes C S ho ht h
  ·exact h.elim
 ·rename_i t n parts ho
  exact buildSlice_goes C S ho hl h
 ·rename_i t n c ho
  split at h
  ·rename_i vn vc hvn hvc
   exact makeSlice_goes C S ho (hl n vn hvn) (hl c vc hvc) h
  ·exact h.elim
 ·rename_i t p x ho
  split at h
  ·rename_i ti pa v ht hp hv hd
   exact store_goes C S ho ht (hl p pa hp) (hl x v hv) hd h
  ·exact h.elim
 ·rename_i t ho
  split at h
  ·rename_i kt e sz by' z q ht
   exact makeMap_goes C S ho ht h
  ·exact h.elim
 ·rename_i t q k x ho
  split at h
  ·rename_i a b c ha hb hc hd
   exact mapSet_goes C S (.inl ho) (hl q a ha) (hl k b hb) (hl x c hc) hd h
  ·exact h.elim
 ·rename_i t q k x ho
  split at h
  ·rename_i a b c ha hb hc hd
   exact mapSet_goes C S (.inr ho) (hl q a ha) (hl k b hb) (hl x c hc) hd h
  ·exact h.elim
 ·rename_i t x ho
  split at h
  ·rename_i v hv
   exact range_goes C S ho (hl x v hv) h
  ·exact h.elim
 ·rename_i x str ho
  split at h
  ·rename_i v hv
   exact next_goes S ho (hl x v hv) h
  ·exact h.elim
 ·rename_i x ho
  split at h
  ·rename_i v hv
   exact entry_goes S ho (hl x v hv) h
  ·exact h.elim
 ·rename_i as ts ho
  split at h
  ·rename_i b x t t' hbx hts
   have hall:=lkAll_rel hl _ _ hbx
   have hlen:as.toList.length=2:=by
    have:=AV.relL_length hall;simpa using this
   obtain⟨bo,xo,has⟩:∃ bo xo,as.toList=[bo,xo]:=by
    match as.toList,hlen with
    | [p,q],_=>exact⟨p,q,rfl⟩
   have has':as=#[bo,xo]:=by rw[←Array.toArray_toList (xs:=as),has]
   have hts':ts=#[t,t']:=by rw[←Array.toArray_toList (xs:=ts),hts]
   rw[has] at hbx
   simp only[lkAll] at hbx
   split at hbx
   ·rename_i v vs hv hvs
    split at hvs
    ·rename_i v2 vs2 hv2 hvs2
     simp only[Option.some.injEq] at hvs2 hvs hbx
     subst hvs2;subst hvs
     simp only[List.cons.injEq,and_true] at hbx
     obtain⟨rfl,rfl⟩:=hbx
     exact append_goes C S ho (by rw[has'];simp) hts' (hl _ _ hv) (hl _ _ hv2) h
    ·cases hvs
   ·cases hbx
  ·exact h.elim
 ·rename_i as ts ho
  split at h
  ·rename_i x y t t' hxy hts
   have hall:=lkAll_rel hl _ _ hxy
   have hlen:as.toList.length=2:=by
    have:=AV.relL_length hall;simpa using this
   obtain⟨xo,yo,has⟩:∃ xo yo,as.toList=[xo,yo]:=by
    match as.toList,hlen with
    | [p,q],_=>exact⟨p,q,rfl⟩
   have has':as=#[xo,yo]:=by rw[←Array.toArray_toList (xs:=as),has]
   have hts':ts=#[t,t']:=by rw[←Array.toArray_toList (xs:=ts),hts]
   rw[has] at hall
   simp only[List.map_cons,List.map_nil,AV.relL] at hall
   obtain⟨_,_,he,hxr,_,_,he2,hyr,rfl⟩:=hall
   subst he2
   simp only[List.cons.injEq,and_true] at he
   obtain⟨rfl,rfl⟩:=he
   exact copy_goes C S ho (by rw[has'];simp) hts' hxr hyr h
  ·exact h.elim
 ·rename_i as ts ho
  split at h
  ·rename_i x t hx hts hd
   have hall:=lkAll_rel hl _ _ hx
   have hlen:as.toList.length=1:=by
    have:=AV.relL_length hall;simpa using this
   obtain⟨xo,has⟩:∃ xo,as.toList=[xo]:=by
    match as.toList,hlen with
    | [p],_=>exact⟨p,rfl⟩
   have has':as=#[xo]:=by rw[←Array.toArray_toList (xs:=as),has]
   have hts':ts=#[t]:=by rw[←Array.toArray_toList (xs:=ts),hts]
   rw[has] at hall
   simp only[List.map_cons,List.map_nil,AV.relL] at hall
   obtain⟨_,_,he,hxr,rfl⟩:=hall
   simp only[List.cons.injEq,and_true] at he
   subst he
   exact clear_goes C S ho (by rw[has'];simp) hts' hxr hd h
  ·exact h.elim
 ·rename_i f as ts ho
  split at h
  ·rename_i g caps vs hf hvs
   have hfr:=hl f _ hf
   simp only[AV.rel,TV.rel] at hfr
   obtain⟨us,hfe,hcr⟩:=hfr
   refine callK_goes S (AV.relL_append (lkAll_rel hl _ _ hvs) (relL_map.1 hcr)) (callF_callK h) ?_
   simp only[execOp,ho,resolve,hfe,Deferred.ofValue,Sem.run_bind,Sem.run_pure,Result.andThen_ok,invoke]
   congr 2
   simp
  ·rename_i g caps vs hf hvs
   have hfr:=hl f _ hf
   simp only[AV.rel] at hfr
   obtain⟨us,hfe,hcr⟩:=hfr
   refine callK_goes S (AV.relL_append (lkAll_rel hl _ _ hvs) hcr) h ?_
   simp only[execOp,ho,resolve,hfe,Deferred.ofValue,Sem.run_bind,Sem.run_pure,Result.andThen_ok,invoke]
   congr 2
   simp
  ·exact h.elim
 ·obtain⟨r,z,hk,hrel,hrun⟩:=yieldK_sound C S.toHeap hl (W:=id) (fun _ h=>h) h
  exact goes_value hk S hrel hrun
end
end
end Go.Proofs.YtihbimigddlbaaaGreatDoor.Pl
end
noncomputable section
set_option linter.all false
namespace Go.Proofs.YtihbimigddlbaaaGreatDoor.Pl
section
section
variable {T:TyTab} {σ:List (Nat×AO)} {W:Prop→Prop} {K:AV→Prop}
theorem loadK_some {ti:TI} {p:AV} (h:loadK ti σ K p):∃ v,K v:=by
 unfold loadK at h
 simp only[Bool.cond_eq_ite] at h
 (repeat' split at h) <;> first | exact⟨_,h⟩ | exact h.elim | (obtain⟨c,_,h⟩:=h;(repeat' split at h) <;> first | exact⟨_,h⟩ | exact h.elim)
theorem fieldAddrK_some {s:TypeId} {f:Nat} {p:AV} (h:fieldAddrK T s f K p):∃ v,K v:=by
 unfold fieldAddrK at h
 simp only[Bool.cond_eq_ite] at h
 (repeat' split at h) <;> first | exact⟨_,h⟩ | exact h.elim
theorem fieldK_some {s:TypeId} {f:Nat} {p:AV} (h:fieldK T s f K p):∃ v,K v:=by
 unfold fieldK at h
 simp only[Bool.cond_eq_ite] at h
 (repeat' split at h) <;> first | exact⟨_,h⟩ | exact h.elim
theorem indexAddrK_some {t:TypeId} {x j:AV} (h:indexAddrK T σ W t K x j):∃ v,K v:=by
 unfold indexAddrK at h
 simp only[Bool.cond_eq_ite] at h
 (repeat' split at h) <;> first | exact⟨_,h⟩ | exact h.elim | exact⟨_,h.2⟩ | (obtain⟨c,_,h⟩:=h;exact⟨_,h⟩)
theorem indexK_some {t:TypeId} {x j:AV} (h:indexK T W t K x j):∃ v,K v:=by
 unfold indexK at h
 (repeat' split at h) <;> first | exact⟨_,h⟩ | exact h.elim | exact⟨_,h.2⟩
theorem binK_some {op:BinOp} {t:TypeId} {x y:AV} (h:binK T σ W op t K x y):∃ v,K v:=by
 unfold binK at h
 simp only[Bool.cond_eq_ite] at h
 (repeat' split at h) <;> first | exact⟨_,h⟩ | exact h.elim | exact⟨_,h.2⟩ | exact⟨_,h false (fun e=>by cases e)⟩ | (obtain⟨_,h⟩:=h;(repeat' split at h) <;> first | exact⟨_,h⟩ | exact h.elim)
theorem unK_some {op:UnOp} {x:AV} (h:unK op K x):∃ v,K v:=by
 unfold unK at h
 (repeat' split at h) <;> first | exact⟨_,h⟩ | exact h.elim
theorem extractK_some {i:Nat} {x:AV} (h:extractK i K x):∃ v,K v:=by
 unfold extractK at h
 (repeat' split at h) <;> first | exact⟨_,h⟩ | exact h.elim
theorem buildK_some {lk:Operand→Option AV} {t:TypeId} {ps:Array (Nat×Operand)} (h:buildK T lk t ps K):∃ v,K v:=by
 unfold buildK at h
 (repeat' split at h) <;> first | exact⟨_,h⟩ | exact h.elim
theorem sliceK_some {lk:Operand→Option AV} {t:TypeId} {lo hi mx:Option Operand} {x:AV} (h:sliceK T lk σ W t lo hi mx K x):∃ v,K v:=by
 unfold sliceK at h
 simp only[Bool.cond_eq_ite] at h
 (repeat' split at h) <;> first | exact⟨_,h⟩ | exact h.elim | exact⟨_,h.2⟩
theorem lenK_some {t:TypeId} {x:AV} (h:lenK T σ t K x):∃ v,K v:=by
 unfold lenK at h
 (repeat' split at h) <;> first | exact⟨_,h⟩ | exact h.elim
theorem maxMinK_some {mx:Bool} {xs:List AV} (h:maxMinK mx K xs):∃ v,K v:=by
 unfold maxMinK at h
 simp only[Bool.cond_eq_ite] at h
 (repeat' split at h) <;> first | exact⟨_,h⟩ | exact h.elim
theorem lookupK_some {t:TypeId} {ok:Bool} {x k:AV} (h:lookupK T σ W t ok K x k):∃ v,K v:=by
 unfold lookupK at h
 simp only[Bool.cond_eq_ite] at h
 (repeat' split at h) <;> first | exact h.elim | (obtain⟨b,v,_,h⟩:=h;exact⟨_,h⟩) | (obtain⟨v,_,h⟩:=h;exact⟨_,h⟩)
theorem yieldK_some {lk:Operand→Option AV} {op:Op} (h:yieldK T lk σ W op K):∃ v,K v:=by
 unfold yieldK at h
 (repeat' split at h) <;> first | exact⟨_,h⟩ | exact h.elim | exact loadK_some h | exact fieldAddrK_some h | exact fieldK_some h | exact indexAddrK_some h | exact indexK_some h | exact binK_some h | exact unK_some h | exact extractK_some h | exact buildK_some h | exact sliceK_some h | exact lenK_some h | exact lookupK_some h | exact maxMinK_some h
end
end
end Go.Proofs.YtihbimigddlbaaaGreatDoor.Pl
end
noncomputable section
set_option linter.all false
namespace Go.Proofs.YtihbimigddlbaaaGreatDoor.Pl
open Go.RowKit
variable [Gm]
section
structure GE where
 gs:List (Nat×Bool)
 G:Prop
 v:AV
def eqG:List (Nat×Bool)→List (Nat×Bool)→Bool
 | [],[]=>true
 | (t,true)::r,(t',true)::r'=>Nat.beq t t'&&eqG r r'
 | (t,false)::r,(t',false)::r'=>Nat.beq t t'&&eqG r r'
 | _,_=>false
def sfx (a:List (Nat×Bool)):List (Nat×Bool)→Bool
 | []=>eqG a []
 | x::r=>eqG a (x::r)||sfx a r
def opd (ψ:List (Nat×GE)) (φ:List (Nat×AV)) (gs:List (Nat×Bool)):Operand→Option AV
 | .tmp t=>match look t ψ with
  | some e=>bif sfx e.gs gs then some e.v else none
  | none=>look t φ
 | .const v=>constA v
 | .func f=>some (.t (.fn f []))
 | .global _=>none
def guardOf (ops:Array Oper) (ψ:List (Nat×GE)) (φ:List (Nat×AV)) (j:Nat) (want:Bool):Option (List (Nat×Bool)×Prop) :=
 match ops[j]? with
 | some oj=>match oj.dst with
  | some g=>match look g ψ with
   | some e=>match e.v with
    | .t (.v (.bool b))=>some ((g,want)::e.gs,e.G∧b=want)
    | _=>none
   | none=>match look g φ with
    | some (.t (.v (.bool b)))=>some ([(g,want)],b=want)
    | _=>none
  | none=>none
 | none=>none
def namesG (d:Nat):List (Nat×Bool)→Bool
 | []=>false
 | (t,_)::r=>Nat.beq d t||namesG d r
def clashG (d:Nat):List (Nat×GE)→Bool
 | []=>false
 | (t,e)::r=>Nat.beq t d||namesG d e.gs||clashG d r
def dropG (d:Nat) (ψ:List (Nat×GE)):List (Nat×GE):=ψ.filter fun e=>!(Nat.beq e.1 d||namesG d e.2.gs)
def isPick:Op→Option (Operand×Operand×Operand)
 | .pick c a b=>some (c,a,b)
 | _=>none
def isConstB (want:Bool):Operand→Bool
 | .const (.bool b)=>bif want then b else !b
 | _=>false
def pickV (lk:List (Nat×Bool)→Operand→Option AV) (gs:List (Nat×Bool)) (c a b:Operand):Option Bool :=
 match c,lk gs c with
 | .tmp ct,some (.t (.v (.bool p))) =>
  bif isConstB false b then (match lk ((ct,true)::gs) a with | some (.t (.v (.bool x)))=>some (p&&x) | _=>none)
  else bif isConstB true a then (match lk ((ct,false)::gs) b with | some (.t (.v (.bool y)))=>some (p||y) | _=>none)
  else match lk ((ct,true)::gs) a,lk ((ct,false)::gs) b with
   | some (.t (.v (.bool x))),some (.t (.v (.bool y)))=>some (bif p then x else y)
   | _,_=>none
 | _,_=>none
def callG (P:Program) (G:Prop) (s:St) (K:AV→Prop) (f:FuncId) (args:List AV):Prop :=
 match mapO (borrow s.σ 8) args with
 | some xs=>Ent P f∧∃ r,(G→PC P f xs r)∧(bif r.plain then K (.t r) else bif (allT args).isSome then K (.t r) else False)
 | none=>False
def evG (T:TyTab) (P:Program) (G:Prop) (o:Oper) (lk:Operand→Option AV) (s:St) (K:AV→Prop):Prop :=
 match o.op with
 | .call { callee:=.value f,args:=as,.. }=>match lk f,lkAll lk as.toList with
  | some (.t (.fn g caps)),some vs=>callG P G s K g (vs++caps.map .t)
  | some (.fn g caps),some vs=>callG P G s K g (vs++caps)
  | _,_=>False
 | op=>yieldK T lk s.σ (fun p=>G→p) op K
def quietOp:Op→Bool
 | .box .. | .alloc _ | .buildSlice .. | .makeSlice .. | .store .. | .makeMap .. | .mapUpdate .. | .insert .. | .range .. | .next .. | .entry .. | .call { callee:=.builtin .append,.. } | .call { callee:=.builtin .copy,.. } | .call { callee:=.builtin .clear,.. } | .call { callee:=.value _,.. }=>false
 | _=>true
def guardB (ops:Array Oper) (ψ:List (Nat×GE)) (φ:List (Nat×AV)) (j:Nat):Option (Nat×Bool) :=
 match ops[j]? with
 | some oj=>match oj.dst with
  | some g=>match look g ψ with
   | some _=>none
   | none=>match look g φ with
    | some (.t (.v (.bool b)))=>some (g,b)
    | _=>none
  | none=>none
 | none=>none
def splitG (own:List Nat) (ops:Array Oper) (ψ:List (Nat×GE)) (φ:List (Nat×AV)) (op:Op) (j:Nat) (want:Bool):Option (Nat×Bool) :=
 match op with
 | .call { callee:=.value f,.. }=>match guardB ops ψ φ j with
  | some (g,b)=>match opd ψ φ [(g,want)] f with
   | some (.t (.fn h _))=>bif mem (30000+h) own then some (g,b) else none
   | some (.fn h _)=>bif mem (30000+h) own then some (g,b) else none
   | _=>none
  | none=>none
 | _=>none
def evOps (T:TyTab) (P:Program) (own:List Nat) (N:Nat) (ops:Array Oper):List Oper→List (Nat×GE)→St→(St→Prop)→Prop
 | [],_,s,Q=>Q s
 | o::os,ψ,s,Q =>
  match o.guard with
  | none=>match isPick o.op with
   | some (c,a,b)=>match pickV (opd ψ s.φ) [] c a b with
    | some x=>match o.dst with
     | some d=>bif Nat.blt d N then (bif clashG d ψ then evOps T P own N ops os [] ⟨(d,vb x)::s.φ,s.σ⟩ Q else evOps T P own N ops os ψ ⟨(d,vb x)::s.φ,s.σ⟩ Q) else False
     | none=>False
    | none=>False
   | none=>bif quietOp o.op then yieldK T (opd ψ s.φ []) s.σ id o.op (fun v=>match o.dst with
     | some d=>bif Nat.blt d N then (bif clashG d ψ then evOps T P own N ops os [] ⟨(d,v)::s.φ,s.σ⟩ Q else evOps T P own N ops os ψ ⟨(d,v)::s.φ,s.σ⟩ Q) else False
     | none=>False)
    else evOp T P own N o (opd ψ s.φ []) s (fun s'=>evOps T P own N ops os [] s' Q)
  | some (j,want)=>match splitG own ops ψ s.φ o.op j want with
   | some (g,b)=>match o.dst with
    | some d=>bif Nat.blt d N&&!Nat.beq d g&&!clashG d ψ then
      (b=want→evOp T P own N o (opd ψ s.φ [(g,want)]) s (fun s'=>evOps T P own N ops os [] s' Q)) ∧
      (b=(!want)→evOps T P own N ops os ((d,⟨[(g,want)],b=want,vb false⟩)::ψ) ⟨(d,.junk)::s.φ,s.σ⟩ Q) else False
    | none=>False
   | none=>match guardOf ops ψ s.φ j want,o.dst with
   | some (gs,G),some d=>bif Nat.blt d N&&!namesG d gs&&!clashG d ψ then (match isPick o.op with
    | some (c,a,b)=>match pickV (opd ψ s.φ) gs c a b with
     | some x=>evOps T P own N ops os ((d,⟨gs,G,vb x⟩)::ψ) ⟨(d,.junk)::s.φ,s.σ⟩ Q
     | none=>False
    | none=>evG T P G o (opd ψ s.φ gs) s (fun v=>evOps T P own N ops os ((d,⟨gs,G,v⟩)::ψ) ⟨(d,.junk)::s.φ,s.σ⟩ Q)) else False
   | _,_=>False
def HoldsG (gs:List (Nat×Bool)) (a:Act):Prop:=∀ p∈gs,a.tmps.getD p.1 undef=.bool p.2
section
variable {P:Program} {T:TyTab} {N:Nat} {B0:Nat→Prop} {F0:Nat→Prop} {w0:PW}
def Psi (ψ:List (Nat×GE)) (F:Nat→Prop) (m:Nat→Value) (kk:Nat→Nat) (a:Act) (w:World):Prop :=
 ∀ t e,(t,e)∈ψ→(HoldsG e.gs a∧e.G∧e.v.rel w F m kk (a.tmps.getD t undef))∨(¬ HoldsG e.gs a∧a.tmps.getD t undef=undef)
omit [Gm] in
theorem look_mem {α:Type} {t:Nat} {v:α}:∀ {l:List (Nat×α)},look t l=some v→(t,v)∈l
 | [],h=>by simp[look] at h
 | (k,x)::r,h=>by
  rw[look_cons] at h
  by_cases e:t=k
  ·simp only[e,if_true,Option.some.injEq] at h;subst h;subst e;exact List.mem_cons_self ..
  ·simp only[e,if_false] at h;exact List.mem_cons_of_mem _ (look_mem h)
omit [Gm] in
theorem eqG_spec:∀ {a b:List (Nat×Bool)},eqG a b=true→a=b
 | [],[],_=>rfl
 | [],_::_,h=>by simp[eqG] at h
 | (t,true)::r,[],h=>by simp[eqG] at h
 | (t,false)::r,[],h=>by simp[eqG] at h
 | (t,true)::r,(t',true)::r',h=>by
  simp only[eqG,Bool.and_eq_true] at h
  rw[Nat.eq_of_beq_eq_true h.1,eqG_spec h.2]
 | (t,false)::r,(t',false)::r',h=>by
  simp only[eqG,Bool.and_eq_true] at h
  rw[Nat.eq_of_beq_eq_true h.1,eqG_spec h.2]
 | (t,true)::r,(t',false)::r',h=>by simp[eqG] at h
 | (t,false)::r,(t',true)::r',h=>by simp[eqG] at h
omit [Gm] in
theorem sfx_holds {a:Act} {x:List (Nat×Bool)}:∀ {gs:List (Nat×Bool)},sfx x gs=true→HoldsG gs a→HoldsG x a
 | [],h,hg=>by rw[eqG_spec h];exact hg
 | p::r,h,hg=>by
  simp only[sfx,Bool.or_eq_true] at h
  rcases h with h | h
  ·rw[eqG_spec h];exact hg
  ·exact sfx_holds h (fun q hq=>hg q (List.mem_cons_of_mem _ hq))
omit [Gm] in
theorem constA_rel {w:World} {F:Nat→Prop} {m:Nat→Value} {kk:Nat→Nat} {v:Value} {x:AV} (h:constA v=some x):x.rel w F m kk v:=by
 unfold constA at h
 split at h
 ·rename_i f first caps
  cases hb:Nat.beq first.size 0&&Nat.beq caps.size 0 with
  | false=>rw[hb] at h;cases h
  | true =>
   rw[hb,cond_true] at h
   injection h with h;subst h
   simp only[Bool.and_eq_true] at hb
   have h1:=Array.eq_empty_of_size_eq_zero (Nat.eq_of_beq_eq_true hb.1)
   have h2:=Array.eq_empty_of_size_eq_zero (Nat.eq_of_beq_eq_true hb.2)
   subst h1;subst h2
   simp only[AV.rel,TV.rel]
   exact⟨[],rfl,by simp[TV.relL]⟩
 ·cases hs:scal v with
  | false=>rw[hs] at h;cases h
  | true=>rw[hs,cond_true] at h;injection h with h;subst h;exact rel_v hs
theorem opd_rel {s:St} {m:Nat→Value} {kk:Nat→Nat} {a:Act} {w:World} (S:Sim N B0 F0 w0 s m kk a w) {ψ:List (Nat×GE)} (hψ:Psi ψ (Fc F0 B0 s.σ m) m kk a w) {gs:List (Nat×Bool)} (hg:HoldsG gs a)
  (x:Operand) (v:AV) (h:opd ψ s.φ gs x=some v):v.rel w (Fc F0 B0 s.σ m) m kk (a.eval x):=by
 cases x with
 | tmp t =>
  simp only[opd] at h
  split at h
  ·rename_i e he
   cases hs:sfx e.gs gs with
   | false=>rw[hs] at h;cases h
   | true =>
    rw[hs,cond_true] at h
    injection h with h;subst h
    rcases hψ t e (look_mem he) with⟨_,_,h3⟩ | ⟨h3,_⟩
    ·exact h3
    ·exact absurd (sfx_holds hs hg) h3
  ·exact S.fr t v h
 | const c=>simp only[opd] at h;exact constA_rel h
 | func f =>
  simp only[opd,Option.some.injEq] at h;subst h
  simp only[AV.rel,TV.rel,Act.eval]
  exact⟨[],rfl,by simp[TV.relL]⟩
 | global g=>simp[opd] at h
omit [Gm] in
theorem namesG_spec {d:Nat}:∀ {gs:List (Nat×Bool)},namesG d gs=false→∀ p∈gs,p.1≠d
 | [],_,p,h=>by simp at h
 | (t,b)::r,h,p,hp=>by
  simp only[namesG,Bool.or_eq_false_iff] at h
  rcases List.mem_cons.1 hp with rfl | hp
  ·intro e;rw[show t=d from e] at h;simp at h
  ·exact namesG_spec h.2 p hp
omit [Gm] in
theorem Psi.put {ψ:List (Nat×GE)} {F:Nat→Prop} {m:Nat→Value} {kk:Nat→Nat} {a:Act} {w:World} (h:Psi ψ F m kk a w) {d:Nat} (hd:d<a.tmps.size) (y:Value):Psi (dropG d ψ) F m kk (a.put (some d) y) w:=by
 intro t e hm
 unfold dropG at hm
 rw[List.mem_filter] at hm
 obtain⟨hm,hq⟩:=hm
 simp only[Bool.not_eq_true',Bool.or_eq_false_iff] at hq
 have ht:t≠d:=by intro e';subst e';simp at hq
 have hgs:=namesG_spec hq.2
 have hH:HoldsG e.gs (a.put (some d) y)↔HoldsG e.gs a:=by
  unfold HoldsG
  constructor
  ·intro h p hp
   have:=h p hp
   simp only[Act.put] at this
   rw[getD_set hd,if_neg (hgs p hp)] at this
   exact this
  ·intro h p hp
   simp only[Act.put]
   rw[getD_set hd,if_neg (hgs p hp)]
   exact h p hp
 have hv:(a.put (some d) y).tmps.getD t undef=a.tmps.getD t undef:=by
  simp only[Act.put];rw[getD_set hd,if_neg ht]
 rw[hH,hv]
 exact h t e hm
omit [Gm] in
theorem dropG_clash {d:Nat}:∀ {ψ:List (Nat×GE)},clashG d ψ=false→dropG d ψ=ψ
 | [],_=>rfl
 | (t,e)::r,h=>by
  simp only[clashG,Bool.or_eq_false_iff] at h
  unfold dropG
  rw[List.filter_cons]
  simp only[h.1.1,h.1.2,Bool.or_self,Bool.not_false,if_true]
  congr 1
  exact dropG_clash h.2
omit [Gm] in
theorem Psi.put' {ψ:List (Nat×GE)} {F:Nat→Prop} {m:Nat→Value} {kk:Nat→Nat} {a:Act} {w:World} (h:Psi ψ F m kk a w) {d:Nat} (hd:d<a.tmps.size) (hc:clashG d ψ=false) (y:Value):Psi ψ F m kk (a.put (some d) y) w:=by
 have:=h.put hd y
 rwa [dropG_clash hc] at this
theorem Psi.world {ψ:List (Nat×GE)} {F:Nat→Prop} {m:Nat→Value} {kk:Nat→Nat} {a:Act} {w w':World} (h:Psi ψ F m kk a w) (hk:Keeps w F w' F):Psi ψ F m kk a w':=by
 intro t e hm
 rcases h t e hm with⟨h1,h2,h3⟩ | h1
 ·exact .inl ⟨h1,h2,AV.rel_same hk _ _ h3⟩
 ·exact .inr h1
omit [Gm] in
theorem yielded_iff {ops:Array Oper} {tmps:Array Value} {j g:Nat} {oj:Oper} {want:Bool} (hj:ops[j]?=some oj) (hg:oj.dst=some g):yielded ops tmps j=some want↔tmps.getD g undef=.bool want:=by
 unfold yielded
 simp only[hj,Option.bind_some,hg,Array.getD_eq_getD_getElem?]
 cases h:tmps[g]? with
 | none=>simp[undef]
 | some v=>cases v <;> simp
theorem guard_spec {ops:Array Oper} {s:St} {m:Nat→Value} {kk:Nat→Nat} {a:Act} {w:World} (S:Sim N B0 F0 w0 s m kk a w) {ψ:List (Nat×GE)} (hψ:Psi ψ (Fc F0 B0 s.σ m) m kk a w) {o:Oper} {j:Nat} {want:Bool}
  (ho:o.guard=some (j,want)) {gs:List (Nat×Bool)} {G:Prop} (h:guardOf ops ψ s.φ j want=some (gs,G)) :
  (Region.wanted o (yielded ops a.tmps)=true→HoldsG gs a∧G)∧(Region.wanted o (yielded ops a.tmps)=false→¬ HoldsG gs a):=by
 unfold guardOf at h
 split at h
 ·rename_i oj hj
  split at h
  ·rename_i g hg
   have hw:Region.wanted o (yielded ops a.tmps)=true↔a.tmps.getD g undef=.bool want:=by
    unfold Region.wanted
    simp only[ho]
    rw[←yielded_iff hj hg]
    simp
   have hnw:Region.wanted o (yielded ops a.tmps)=false→a.tmps.getD g undef≠.bool want:=fun h e=>by rw[hw.2 e] at h;cases h
   split at h
   ·rename_i e he
    split at h
    ·rename_i b hb
     simp only[Option.some.injEq,Prod.mk.injEq] at h
     obtain⟨rfl,rfl⟩:=h
     refine⟨fun h=>?_,fun h hH=>hnw h (hH (g,want) (List.mem_cons_self ..))⟩
     have hval:=hw.1 h
     rcases hψ g e (look_mem he) with⟨h1,h2,h3⟩ | ⟨_,h2⟩
     ·rw[hb] at h3
      simp only[AV.rel,TV.rel] at h3
      rw[h3.1] at hval
      injection hval with hval
      refine⟨?_,h2,hval⟩
      intro p hp
      rcases List.mem_cons.1 hp with rfl | hp
      ·exact hw.1 h
      ·exact h1 p hp
     ·rw[h2] at hval;cases hval
    ·cases h
   ·split at h
    ·rename_i b hb
     simp only[Option.some.injEq,Prod.mk.injEq] at h
     obtain⟨rfl,rfl⟩:=h
     refine⟨fun h=>?_,fun h hH=>hnw h (hH (g,want) (List.mem_cons_self ..))⟩
     have hval:=hw.1 h
     have h3:=S.fr g _ hb
     simp only[AV.rel,TV.rel] at h3
     rw[h3.1] at hval
     injection hval with hval
     refine⟨?_,hval⟩
     intro p hp
     simp only[List.mem_singleton] at hp
     subst hp;exact hw.1 h
    ·cases h
  ·cases h
 ·cases h
theorem guardB_spec {ops:Array Oper} {s:St} {m:Nat→Value} {kk:Nat→Nat} {a:Act} {w:World} (S:Sim N B0 F0 w0 s m kk a w) {ψ:List (Nat×GE)} {o:Oper} {j:Nat} {want:Bool}
  (ho:o.guard=some (j,want)) {g:Nat} {b:Bool} (h:guardB ops ψ s.φ j=some (g,b)) :
  (Region.wanted o (yielded ops a.tmps)=true→b=want∧HoldsG [(g,want)] a)∧(Region.wanted o (yielded ops a.tmps)=false→b=(!want)∧¬ HoldsG [(g,want)] a):=by
 unfold guardB at h
 split at h
 ·rename_i oj hj
  split at h
  ·rename_i g' hg
   have hw:Region.wanted o (yielded ops a.tmps)=true↔a.tmps.getD g' undef=.bool want:=by
    unfold Region.wanted
    simp only[ho]
    rw[←yielded_iff hj hg]
    simp
   split at h
   ·cases h
   ·split at h
    ·rename_i b' hb
     simp only[Option.some.injEq,Prod.mk.injEq] at h
     obtain⟨rfl,rfl⟩:=h
     have h3:=S.fr g' _ hb
     simp only[AV.rel,TV.rel] at h3
     have hH:HoldsG [(g',want)] a↔b'=want:=by
      unfold HoldsG
      simp only[List.mem_singleton,forall_eq,h3.1,Value.bool.injEq]
     constructor
     ·intro h
      have:=hw.1 h
      rw[h3.1] at this
      injection this with this
      exact⟨this,hH.2 this⟩
     ·intro h
      have hne:b'≠want:=fun e=>by
       rw[hw.2 (by rw[h3.1,e])] at h;cases h
      refine⟨?_,fun hh=>hne (hH.1 hh)⟩
      cases b' <;> cases want <;> simp_all
    ·cases h
  ·cases h
 ·cases h
omit [Gm] in
theorem splitG_spec {own:List Nat} {ops:Array Oper} {ψ:List (Nat×GE)} {φ:List (Nat×AV)} {op:Op} {j:Nat} {want:Bool} {g:Nat} {b:Bool} (h:splitG own ops ψ φ op j want=some (g,b)):guardB ops ψ φ j=some (g,b):=by
 unfold splitG at h
 split at h
 ·split at h
  ·rename_i g' b' hgb
   rw[hgb]
   split at h
   ·rename_i h0 _ _
    cases hm:mem (30000+h0) own with
    | true=>rw[hm,cond_true] at h;exact h
    | false=>rw[hm] at h;cases h
   ·rename_i h0 _ _
    cases hm:mem (30000+h0) own with
    | true=>rw[hm,cond_true] at h;exact h
    | false=>rw[hm] at h;cases h
   ·cases h
  ·cases h
 ·cases h
omit [Gm] in
theorem isConstB_spec {want:Bool} {x:Operand} (h:isConstB want x=true):x=.const (.bool want):=by
 unfold isConstB at h
 split at h
 ·rename_i b;cases want <;> cases b <;> simp_all
 ·cases h
omit [Gm] in
theorem isPick_spec {op:Op} {c a b:Operand} (h:isPick op=some (c,a,b)):op=.pick c a b:=by
 unfold isPick at h
 split at h
 ·simp only[Option.some.injEq,Prod.mk.injEq] at h;obtain⟨rfl,rfl,rfl⟩:=h;rfl
 ·cases h
theorem pick_run {s:St} {m:Nat→Value} {kk:Nat→Nat} {a:Act} {w:World} (S:Sim N B0 F0 w0 s m kk a w) {ψ:List (Nat×GE)} (hψ:Psi ψ (Fc F0 B0 s.σ m) m kk a w) {gs:List (Nat×Bool)} (hg:HoldsG gs a)
  {o:Oper} {c x y:Operand} (ho:o.op=.pick c x y) {r:Bool} (h:pickV (opd ψ s.φ) gs c x y=some r):(execOp a.eval o).run P w=.ok (.value (.bool r)) w:=by
 unfold pickV at h
 split at h
 ·rename_i ct p hp
  have hc:=opd_rel S hψ hg _ _ hp
  simp only[AV.rel,TV.rel] at hc
  have hc:=hc.1
  have hgp:HoldsG ((ct,p)::gs) a:=by
   intro q hq
   rcases List.mem_cons.1 hq with rfl | hq
   ·exact hc
   ·exact hg q hq
  have key:∀ {z:Operand} {v:Bool},opd ψ s.φ ((ct,p)::gs) z=some (.t (.v (.bool v)))→a.eval z=.bool v:=by
   intro z v hz
   have:=opd_rel S hψ hgp _ _ hz
   simp only[AV.rel,TV.rel] at this
   exact this.1
  have hrun:(execOp a.eval o).run P w=.ok (.value (if p then a.eval x else a.eval y)) w:=by
   simp[execOp,ho,hc,asBool]
  rw[hrun]
  congr 2
  cases hb1:isConstB false y with
  | true =>
   rw[hb1,cond_true] at h
   split at h
   ·rename_i v hv
    injection h with h;subst h
    have hy:=isConstB_spec hb1;subst hy
    cases p with
    | true=>rw[key hv];rfl
    | false=>rfl
   ·cases h
  | false =>
   rw[hb1,cond_false] at h
   cases hb2:isConstB true x with
   | true =>
    rw[hb2,cond_true] at h
    split at h
    ·rename_i v hv
     injection h with h;subst h
     have hx:=isConstB_spec hb2;subst hx
     cases p with
     | true=>rfl
     | false=>rw[key hv];rfl
    ·cases h
   | false =>
    rw[hb2,cond_false] at h
    split at h
    ·rename_i v u hv hu
     injection h with h;subst h
     cases p with
     | true=>rw[key hv];rfl
     | false=>rw[key hu];rfl
    ·cases h
 ·cases h
def QP (F:Nat→Prop) (Q:Exit→St→Prop):Exit→St→World→Prop
 | .panic ch,s,w=>∃ r v,Q (.panic []) ⟨[(0,.t r)],s.σ⟩∧ch=[{ v:=v,recovered:=false }]∧r.rel w F v
 | e,s,_=>Q e s
def Post (N:Nat) (B0:Nat→Prop) (F0:Nat→Prop) (w0:PW) (Q:Exit→St→Prop) (e:Exit) (a:Act) (w:World):Prop :=
 ∃ s m kk,QP (Fc F0 B0 s.σ m) Q e s w∧Sim N B0 F0 w0 s m kk a w
theorem Sim.junk {s:St} {m:Nat→Value} {kk:Nat→Nat} {a:Act} {w:World} (S:Sim N B0 F0 w0 s m kk a w) {d:Nat} (hd:d<N) (y:Value):Sim N B0 F0 w0 ⟨(d,.junk)::s.φ,s.σ⟩ m kk (a.put (some d) y) w :=
 S.put hd (by simp only[AV.rel])
omit [Gm] in
theorem mapO_allT {σ:List (Nat×AO)} {n:Nat}:∀ {vs:List AV} {xs ys:List TV},allT vs=some ys→mapO (borrow σ (n+1)) vs=some xs→xs=ys
 | [],xs,ys,h,h'=>by
  simp only[allT,mapO,Option.some.injEq] at h h';rw[←h,←h']
 | v::vs,xs,ys,h,h'=>by
  cases v <;> simp only[allT] at h <;> try (cases h;done)
  rename_i x
  split at h
  ·rename_i zs hz
   injection h with h;subst h
   simp only[mapO,borrow] at h'
   split at h'
   ·rename_i y ys' hy hys
    injection hy with hy;subst hy
    injection h' with h';subst h'
    rw[mapO_allT hz hys]
   ·cases h'
  ·cases h
def Quiets (P:Program) (F:Nat→Prop) (m:Nat→Value) (kk:Nat→Nat) (o:Oper) (a:Act) (w:World) (K:AV→Prop):Prop :=
 ∀ (next:Act→World→Prop) (Q:Exit→Act→World→Prop),(∀ v y w',K v→Below w.heap.size w w'→v.rel w' F m kk y→next (a.put o.dst y) w')→o.wp P a w next Q
theorem evG_sound (C:Ctx P T) {G:Prop} (hG:G) {o:Oper} {a:Act} {s:St} {m:Nat→Value} {kk:Nat→Nat} {w:World} {K:AV→Prop} (S:Sim N B0 F0 w0 s m kk a w) {lk:Operand→Option AV}
  (hl:∀ x v,lk x=some v→v.rel w (Fc F0 B0 s.σ m) m kk (a.eval x)) (h:evG T P G o lk s K):Quiets P (Fc F0 B0 s.σ m) m kk o a w K:=by
 have hcall:∀ {g:FuncId} {vs:List AV} {us:List Value},AV.relL w (Fc F0 B0 s.σ m) m kk vs us→callG P G s K g vs→(execOp a.eval o).run P w=(callFunc g us.toArray).run P w→Quiets P (Fc F0 B0 s.σ m) m kk o a w K:=by
  intro g vs us hr h hrun
  have hsz:=S.newB
  unfold callG at h
  split at h
  ·rename_i xs hxs
   obtain⟨hent,r,hpc,h⟩:=h
   have hpc:=hpc hG
   intro next Q hn
   unfold Oper.wp
   rw[hrun,hent,Oper.upon_enter]
   cases hp:r.plain with
   | true =>
    rw[hp,cond_true] at h
    have hxr:=mapO_sound (ls:=vs.flatMap (reach s.σ 8)) (borrow_sound S.toHeap (seal_sub (vs.flatMap (reach s.σ 8)) s) 8) _ _ _ hxs (fun l h=>mem_spec.2 h) hr
    have hxr':TV.relL w (fun b=>Fc F0 B0 (s.frz (vs.flatMap (reach s.σ 8))).σ m b∧b<w.heap.size) xs us:=TV.relL_keep (fun b hb hlt=>⟨⟨hb,hlt⟩,rfl⟩) _ _ hxr
    refine (hpc w _ us (S.gm w S.below) (fun b hb=>hb.2) hxr').mono ?_
    rintro e w' ⟨v,rfl,hbel,hv⟩
    exact hn _ _ _ h hbel (by simp only[AV.rel];exact plain_rel hp hv)
   | false =>
    rw[hp,cond_false] at h
    cases hall:(allT vs).isSome with
    | false=>rw[hall] at h;exact h.elim
    | true =>
     rw[hall,cond_true] at h
     obtain⟨ys,hys⟩:=Option.isSome_iff_exists.1 hall
     have:=mapO_allT (n:=7) hys hxs
     subst this
     have hxr:=relL_allT hr hys
     have hxr':TV.relL w (fun b=>Fc F0 B0 s.σ m b∧b<w.heap.size) xs us:=TV.relL_keep (fun b hb hlt=>⟨⟨hb,hlt⟩,rfl⟩) _ _ hxr
     refine (hpc w _ us (S.gm w S.below) (fun b hb=>hb.2) hxr').mono ?_
     rintro e w' ⟨v,rfl,hbel,hv⟩
     refine hn _ _ _ h hbel ?_
     simp only[AV.rel]
     refine TV.rel_keep (keeps_mono ?_) _ _ hv
     rintro b (hb | hb)
     ·exact hb.1
     ·exact⟨.inr (hsz _ hb),fun l o' hl' e'=>by have:=(AO.blk_lt (S.ob l o' hl') e').2;omega⟩
  ·exact h.elim
 unfold evG at h
 split at h
 ·rename_i f as ts ho
  split at h
  ·rename_i g caps vs hf hvs
   have hfr:=hl f _ hf
   simp only[AV.rel,TV.rel] at hfr
   obtain⟨us,hfe,hcr⟩:=hfr
   refine hcall (AV.relL_append (lkAll_rel hl _ _ hvs) (relL_map.1 hcr)) h ?_
   simp only[execOp,ho,resolve,hfe,Deferred.ofValue,Sem.run_bind,Sem.run_pure,Result.andThen_ok,invoke]
   congr 2
   simp
  ·rename_i g caps vs hf hvs
   have hfr:=hl f _ hf
   simp only[AV.rel] at hfr
   obtain⟨us,hfe,hcr⟩:=hfr
   refine hcall (AV.relL_append (lkAll_rel hl _ _ hvs) hcr) h ?_
   simp only[execOp,ho,resolve,hfe,Deferred.ofValue,Sem.run_bind,Sem.run_pure,Result.andThen_ok,invoke]
   congr 2
   simp
  ·exact h.elim
 ·obtain⟨r,z,hk,hrel,hrun⟩:=yieldK_sound C S.toHeap hl (W:=fun p=>G→p) (fun _ h=>h hG) h
  intro next Q hn
  unfold Oper.wp
  rw[hrun,Oper.upon_value]
  exact hn _ _ _ hk (Below.refl _ _) hrel
theorem evG_some {G:Prop} {o:Oper} {s:St} {K:AV→Prop} {lk:Operand→Option AV} (h:evG T P G o lk s K):∃ v,K v:=by
 have hc:∀ {f:FuncId} {vs:List AV},callG P G s K f vs→∃ v,K v:=by
  intro f vs h
  unfold callG at h
  simp only[Bool.cond_eq_ite] at h
  split at h
  ·obtain⟨_,r,_,h⟩:=h
   (repeat' split at h) <;> first | exact⟨_,h⟩ | exact h.elim
  ·exact h.elim
 unfold evG at h
 split at h
 ·split at h
  ·exact hc h
  ·exact hc h
  ·exact h.elim
 ·exact yieldK_some h
omit [Gm] in
theorem psi_nil {F:Nat→Prop} {m:Nat→Value} {kk:Nat→Nat} {a:Act} {w:World}:Psi [] F m kk a w:=fun t e h=>by simp at h
theorem evOps_go (C:Ctx P T) {own:List Nat} {ops:Array Oper} {R:Exit→Act→World→Prop} {K0:St→Prop} {rest:List Oper} (hR:∀ s m kk a w,K0 s→Sim N B0 F0 w0 s m kk a w→wpList P ops R rest a w):∀ (l:List Oper) (ψ:List (Nat×GE)) (s:St) (m:Nat→Value) (kk:Nat→Nat) (a:Act) (w:World),
  Sim N B0 F0 w0 s m kk a w→Psi ψ (Fc F0 B0 s.σ m) m kk a w→evOps T P own N ops l ψ s K0→wpList P ops R (l++rest) a w
 | [],ψ,s,m,kk,a,w,S,hψ,h=>by
  simp only[evOps] at h
  exact hR s m kk a w h S
 | o::os,ψ,s,m,kk,a,w,S,hψ,h=>by
  have hnil:HoldsG [] a:=fun p hp=>by simp at hp
  simp only[evOps] at h
  rw[List.cons_append]
  refine wpList_step fun K hK=>?_
  split at h
  ·rename_i hgd
   rw[if_pos (by simp[Region.wanted,hgd])]
   split at h
   ·rename_i c x y hpk
    split at h
    ·rename_i r hr
     split at h
     ·rename_i d hd
      cases hlt:Nat.blt d N with
      | false=>rw[hlt] at h;exact h.elim
      | true =>
       rw[hlt,cond_true] at h
       have hlt:=Nat.le_of_ble_eq_true hlt
       unfold Oper.wp
       rw[pick_run S hψ hnil (isPick_spec hpk) hr,Oper.upon_value,hd]
       cases hcl:clashG d ψ with
       | true=>rw[hcl,cond_true] at h;exact hK _ _ (evOps_go C hR os _ _ m kk _ w (S.put hlt rel_vb) psi_nil h)
       | false=>rw[hcl,cond_false] at h;exact hK _ _ (evOps_go C hR os _ _ m kk _ w (S.put hlt rel_vb) (hψ.put' (by rw[S.sz];exact hlt) hcl _) h)
     ·exact h.elim
    ·exact h.elim
   ·cases hq:quietOp o.op with
    | true =>
     rw[hq,cond_true] at h
     obtain⟨r,z,hk,hrel,hrun⟩:=yieldK_sound C S.toHeap (opd_rel S hψ hnil) (W:=id) (fun _ h=>h) h
     split at hk
     ·rename_i d hd
      cases hlt:Nat.blt d N with
      | false=>rw[hlt] at hk;exact hk.elim
      | true =>
       rw[hlt,cond_true] at hk
       have hlt:=Nat.le_of_ble_eq_true hlt
       unfold Oper.wp
       rw[hrun,Oper.upon_value,hd]
       cases hcl:clashG d ψ with
       | true=>rw[hcl,cond_true] at hk;exact hK _ _ (evOps_go C hR os _ _ m kk _ w (S.put hlt hrel) psi_nil hk)
       | false=>rw[hcl,cond_false] at hk;exact hK _ _ (evOps_go C hR os _ _ m kk _ w (S.put hlt hrel) (hψ.put' (by rw[S.sz];exact hlt) hcl _) hk)
     ·exact hk.elim
    | false =>
     rw[hq,cond_false] at h
     exact evOp_sound C S (opd_rel S hψ hnil) h K _ (fun a' w' s' m' kk' hs S'=>hK _ _ (evOps_go C hR os [] s' m' kk' a' w' S' psi_nil hs))
  ·rename_i j want hgd
   split at h
   ·rename_i g b hsp
    split at h
    ·rename_i d hd
     obtain⟨hw1,hw2⟩:=guardB_spec S hgd (splitG_spec hsp)
     cases hb:Nat.blt d N&&!Nat.beq d g&&!clashG d ψ with
     | false=>rw[hb] at h;exact h.elim
     | true =>
      rw[hb,cond_true] at h
      simp only[Bool.and_eq_true] at hb
      have hlt:=Nat.le_of_ble_eq_true hb.1.1
      have hdg:g≠d:=by intro e;subst e;simp at hb
      have hcl:clashG d ψ=false:=by simpa using hb.2
      split
      ·rename_i hw
       exact evOp_sound C S (opd_rel S hψ (hw1 hw).2) (h.1 (hw1 hw).1) K _ (fun a' w' s' m' kk' hs S'=>hK _ _ (evOps_go C hR os [] s' m' kk' a' w' S' psi_nil hs))
      ·rename_i hw
       have hw:Region.wanted o (yielded ops a.tmps)=false:=by simpa using hw
       rw[hd]
       refine hK _ _ (evOps_go C hR os _ _ m kk _ w (S.junk hlt _) ?_ (h.2 (hw2 hw).1))
       intro t e hm
       rcases List.mem_cons.1 hm with hm | hm
       ·injection hm with h1 h2
        subst h1;subst h2
        refine .inr ⟨fun hh=>(hw2 hw).2 ?_,?_⟩
        ·intro p hp
         have:=hh p hp
         simp only[Act.put] at this
         simp only[List.mem_singleton] at hp
         rw[getD_set (by rw[S.sz];exact hlt),if_neg (by rw[hp];exact hdg)] at this
         exact this
        ·simp only[Act.put]
         rw[getD_set (by rw[S.sz];exact hlt),if_pos rfl]
       ·exact hψ.put' (by rw[S.sz];exact hlt) hcl undef t e hm
    ·exact h.elim
   split at h
   ·rename_i gs G d hgo hd
    cases hb:Nat.blt d N&&!namesG d gs&&!clashG d ψ with
    | false=>rw[hb] at h;exact h.elim
    | true =>
     rw[hb,cond_true] at h
     simp only[Bool.and_eq_true] at hb
     have hlt:=Nat.le_of_ble_eq_true hb.1.1
     have hng:namesG d gs=false:=by simpa using hb.1.2
     have hcl:clashG d ψ=false:=by simpa using hb.2
     have hnames:=namesG_spec hng
     obtain⟨hw1,hw2⟩:=guard_spec S hψ hgd hgo
     have hgput:∀ y,HoldsG gs (a.put (some d) y)↔HoldsG gs a:=by
      intro y
      unfold HoldsG
      constructor
      ·intro h p hp
       have:=h p hp
       simp only[Act.put] at this
       rw[getD_set (by rw[S.sz];exact hlt),if_neg (hnames p hp)] at this
       exact this
      ·intro h p hp
       simp only[Act.put]
       rw[getD_set (by rw[S.sz];exact hlt),if_neg (hnames p hp)]
       exact h p hp
     have hat:∀ y,(a.put (some d) y).tmps.getD d undef=y:=by
      intro y
      simp only[Act.put]
      rw[getD_set (by rw[S.sz];exact hlt),if_pos rfl]
     have skip:∀ (v:AV),Region.wanted o (yielded ops a.tmps)=false→Psi ((d,⟨gs,G,v⟩)::ψ) (Fc F0 B0 s.σ m) m kk (a.put (some d) undef) w:=by
      intro v hnw t e hm
      rcases List.mem_cons.1 hm with hm | hm
      ·injection hm with h1 h2
       subst h1;subst h2
       exact .inr ⟨fun hh=>hw2 hnw ((hgput _).1 hh),hat _⟩
      ·exact hψ.put' (by rw[S.sz];exact hlt) hcl undef t e hm
     have take:∀ (v:AV) (y:Value) (w':World),Region.wanted o (yielded ops a.tmps)=true→Below w.heap.size w w'→v.rel w' (Fc F0 B0 s.σ m) m kk y →
       Psi ((d,⟨gs,G,v⟩)::ψ) (Fc F0 B0 s.σ m) m kk (a.put (some d) y) w':=by
      intro v y w' hw hbel hv t e hm
      obtain⟨h1,h2⟩:=hw1 hw
      rcases List.mem_cons.1 hm with hm | hm
      ·injection hm with h3 h4
       subst h3;subst h4
       exact .inl ⟨(hgput _).2 h1,h2,by rw[hat];exact hv⟩
      ·exact ((hψ.world (Keeps.below hbel (Nat.le_refl _) (fun _ h _=>h))).put' (by rw[S.sz];exact hlt) hcl y) t e hm
     split at h
     ·rename_i c x y hpk
      split at h
      ·rename_i r hr
       split
       ·rename_i hw
        unfold Oper.wp
        rw[pick_run S hψ (hw1 hw).1 (isPick_spec hpk) hr,Oper.upon_value,hd]
        exact hK _ _ (evOps_go C hR os _ _ m kk _ w (S.junk hlt _) (take _ _ _ hw (Below.refl _ _) rel_vb) h)
       ·rename_i hw
        rw[hd]
        exact hK _ _ (evOps_go C hR os _ _ m kk _ w (S.junk hlt _) (skip _ (by simpa using hw)) h)
      ·exact h.elim
     ·split
      ·rename_i hw
       refine evG_sound C (hw1 hw).2 S (opd_rel S hψ (hw1 hw).1) h K _ ?_
       intro v y w' hv hbel hrel
       rw[hd]
       exact hK _ _ (evOps_go C hR os _ _ m kk _ w' ((S.grow hbel).junk hlt _) (take v y w' hw hbel hrel) hv)
      ·rename_i hw
       rw[hd]
       obtain⟨v,hv⟩:=evG_some h
       exact hK _ _ (evOps_go C hR os _ _ m kk _ w (S.junk hlt _) (skip v (by simpa using hw)) hv)
   ·exact h.elim
theorem evOps_sound (C:Ctx P T) {own:List Nat} {ops:Array Oper} {Q:Exit→St→Prop} (l:List Oper) (ψ:List (Nat×GE)) (s:St) (m:Nat→Value) (kk:Nat→Nat) (a:Act) (w:World)
  (S:Sim N B0 F0 w0 s m kk a w) (hψ:Psi ψ (Fc F0 B0 s.σ m) m kk a w) (h:evOps T P own N ops l ψ s (Q .normal)):wpList P ops (Post N B0 F0 w0 Q) l a w:=by
 have:=evOps_go C (R:=Post N B0 F0 w0 Q) (rest:=[]) (fun s m kk a w h S=>wpList_nil ⟨s,m,kk,h,S⟩) l ψ s m kk a w S hψ h
 rwa [List.append_nil] at this
end
end
end Go.Proofs.YtihbimigddlbaaaGreatDoor.Pl
end
