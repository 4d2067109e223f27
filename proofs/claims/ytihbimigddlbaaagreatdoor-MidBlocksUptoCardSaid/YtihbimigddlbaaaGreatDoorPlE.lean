/- A part of the proof: PlArg PlRow PlArgB PlRowB. -/
import Derived.Test.YtihbimigddlbaaaGreatDoorPlD
import Derived.ProofKit
import Derived.Deep.Slices
import Derived.SizedLaws
import Derived.Deep.DeepHandedRow
noncomputable section
set_option linter.all false
namespace Go.Proofs.YtihbimigddlbaaaGreatDoor.Pl
open Go.RowKit Go.ChangeShapes Go.WideShapes
variable [Gm]
section
def HasFs (H:TypeId→List TV→Prop):List TypeId→List TV→Prop
 | [],xs=>xs=[]
 | t::ts,xs=>∃ a b,xs=a++b∧H t a∧HasFs H ts b
def HasTy (T:TyTab):Nat→TypeId→List TV→Prop
 | 0,_,_=>False
 | n+1,t,xs=>match T t with
  | some i=>match i.d with
   | .bool=>∃ b,xs=[.v (.bool b)]
   | .int k=>∃ z,xs=[.v (.int k z)]∧(Lit.int k z).wf=true
   | .string=>∃ s,xs=[.v (.string s)]∧s.size≤maxLen∧s.size≤140737488355328
   | .slice e=>match T e with
    | some ei=>xs=[.v (.slice none 0 0)]∨∃ es,xs=[.sl ei.size es]∧es.length≤maxLen∧es.length*ei.bytes≤140737488355328∧∀ r∈es,HasTy T n e r
    | none=>False
   | .struct fs=>HasFs (HasTy T n) (fs.map (·.2)) xs
   | _=>False
  | none=>False
def ArgTy (T:TyTab) (n:Nat) (t:TypeId) (x:TV):Prop :=
 match T t with
 | some { d:=.struct _,.. }=>∃ cs,x=.agg cs∧HasTy T n t cs
 | _=>HasTy T n t [x]
def contig (T:TyTab) (as:List TypeId):Nat→Nat→List (Nat×TypeId)→Bool
 | sz,off,[]=>Nat.beq off sz
 | sz,off,(o,t)::r=>Nat.beq o off&&as.contains t&&(match T t with | some i=>contig T as sz (off+i.size) r | none=>false)
def argB (T:TyTab) (as:List TypeId) (t:TypeId):Bool :=
 match T t with
 | some i=>match i.d with
  | .bool | .int _ | .string=>Nat.beq i.size 1
  | .slice e=>Nat.beq i.size 1&&as.contains e&&(match T e with | some ei=>Nat.blt 0 ei.size | none=>false)
  | .struct fs=>contig T as i.size 0 fs
  | _=>false
 | none=>false
def argsB (T:TyTab) (as:List TypeId):Bool:=as.all (argB T as)
section
variable {P:Program} {T:TyTab} {w:World} {H:Type} {enc:TypeId×Value→H} {base:Nat} {spare:Nat→Bool} {held:Bool}
omit [Gm] in
theorem TOK.cellsOf (h:TOK P T) {t:TypeId} {i:TI} (ht:T t=some i):P.cellsOf t=i.size:=by
 obtain⟨info,d,h1,_,_,h4,_⟩:=h t i ht
 simp[Program.cellsOf,h1,h4]
omit [Gm] in
theorem TOK.und (h:TOK P T) {t:TypeId} {i:TI} (ht:T t=some i):∃ d,P.underlying t=some d∧i.d.fits d:=by
 obtain⟨info,d,_,h2,h3,_⟩:=h t i ht
 exact⟨d,h2,h3⟩
omit [Gm] in
theorem TOK.bytesOf (h:TOK P T) {t:TypeId} {i:TI} (ht:T t=some i):P.bytesOf t=i.bytes:=by
 obtain⟨info,d,h1,_,_,_,h5,_⟩:=h t i ht
 simp[Program.bytesOf,h1,h5]
def Light (P:Program) (t:TypeId) (d:DataW H):Prop:=∀ n∈d.weights P t,n≤reachBytes
omit [Gm] in
theorem weights_all {e:TypeId}:∀ {ds:List (DataW H)} {d:DataW H},d∈ds→∀ n∈d.weights P e,n∈DataW.weightsAll P e ds
 | [],d,h,n,_=>by simp at h
 | d0::ds,d,h,n,hn=>by
  simp only[DataW.weightsAll,List.mem_append]
  rcases List.mem_cons.1 h with rfl | h
  ·exact .inl hn
  ·exact .inr (weights_all h n hn)
abbrev Fw (w:World):Nat→Prop:=fun b=>b<w.heap.size
omit [Gm] in
theorem relL_append {F:Nat→Prop}:∀ {xs ys:List TV} {us vs:List Value},TV.relL w F xs us→TV.relL w F ys vs→TV.relL w F (xs++ys) (us++vs)
 | [],ys,us,vs,h1,h2=>by
  simp only[TV.relL] at h1;subst h1;exact h2
 | x::xs,ys,us,vs,h1,h2=>by
  simp only[TV.relL] at h1
  obtain⟨u,us',rfl,h3,h4⟩:=h1
  simp only[List.cons_append,TV.relL]
  exact⟨u,_,rfl,h3,relL_append h4 h2⟩
omit [Gm] in
theorem flat_cells {a:Addr} {k:Nat}:∀ (n:Nat) (G:Nat→List Value),(∀ i,i<n→(G i).length=k∧∀ j,j<k→w.cell? ((a.add (i*k)).add j)=(G i)[j]?)→CellsAt w a ((List.range n).flatMap G)
 | 0,G,_=>fun j u hj=>by simp at hj
 | n+1,G,h=>by
  have ih:=flat_cells n G (fun i hi=>h i (by omega))
  have hlen:∀ n,(∀ i,i<n→(G i).length=k)→((List.range n).flatMap G).length=n*k:=by
   intro n
   induction n with
   | zero=>intro _;simp
   | succ n ihn =>
    intro hh
    rw[List.range_succ,List.flatMap_append,List.length_append,ihn (fun i hi=>hh i (by omega))]
    simp[hh n (by omega),Nat.succ_mul]
  have hl:=hlen n (fun i hi=>(h i (by omega)).1)
  obtain⟨h1,h2⟩:=h n (by omega)
  intro j u hj
  rw[List.range_succ,List.flatMap_append] at hj
  by_cases hlt:j<n*k
  ·rw[List.getElem?_append_left (by rw[hl];exact hlt)] at hj
   exact ih j u hj
  ·rw[List.getElem?_append_right (by omega),hl] at hj
   simp only[List.flatMap_cons,List.flatMap_nil,List.append_nil] at hj
   have hjk:j-n*k<k:=by
    have:=(List.getElem?_eq_some_iff.1 hj).1
    omega
   have:=h2 _ hjk
   rw[Go.Deep.add_add] at this
   have e:n*k+(j-n*k)=j:=by omega
   rw[e] at this
   rw[this];exact hj
omit [Gm] in
theorem one_cell {v:Value} {c:Value} (h:v=c) (hc:c.oneCell'=true):OneAll [v]:=by
 intro u hu;simp at hu;subst hu;subst h;exact hc
end
end
end Go.Proofs.YtihbimigddlbaaaGreatDoor.Pl
end
noncomputable section
set_option linter.all false
namespace Go.Proofs.YtihbimigddlbaaaGreatDoor.Pl
open Go.RowKit Go.ChangeShapes Go.WideShapes Go.ChangeAt
variable [Gm]
section
section
variable {P:Program} {T:TyTab} {w:World} {H:Type} {enc:TypeId×Value→H} {base:Nat} {spare:Nat→Bool} {held:Bool}
def ArgsTy (T:TyTab):List TypeId→List TV→Prop
 | [],xs=>xs=[]
 | t::ts,xs=>∃ x r,xs=x::r∧(∃ n,ArgTy T n t x)∧ArgsTy T ts r
omit [Gm] in
theorem all_below (hl:laidOutB P=true) {W W':World} (hb:Below W.heap.size W W'):∀ (ts:List TypeId) (vs:List Value) (ds:List (DataW H)) (ps:List MemPlace),(∀ t∈ts,P.readableRec t=true∧t<P.types.size) →
  (∀ x∈ps,x.block<W.heap.size)→DataW.TrodAll enc P W 0 (fun _=>true) true ts vs ds ps→DataW.TrodAll enc P W' 0 (fun b=>decide (b<W.heap.size)) true ts vs ds ps
 | [],[],[],ps,_,_,h=>h
 | t::ts,v::vs,d::ds,ps,hm,hlt,h=>by
  obtain⟨p,q,h1,h2,rfl⟩:=h
  exact⟨p,q,Below.trod hl (hm t (List.mem_cons_self ..)).1 (hm t (List.mem_cons_self ..)).2 h1 hb (fun x hx=>hlt x (List.mem_append.2 (.inl hx))),
   all_below hl hb ts vs ds q (fun t ht=>hm t (List.mem_cons_of_mem _ ht)) (fun x hx=>hlt x (List.mem_append.2 (.inr hx))) h2,rfl⟩
 | [],[],_::_,_,_,_,h=>h.elim
 | [],_::_,_,_,_,_,h=>by cases ‹List (DataW H)› <;> exact h.elim
 | _::_,[],_,_,_,_,h=>by cases ‹List (DataW H)› <;> exact h.elim
 | _::_,_::_,[],_,_,_,h=>h.elim
end
end
section
mutual
def TV.bk:TV→Nat
 | .sl _ es=>bkR es+1
 | .agg cs=>bkL cs
 | .tup cs=>bkL cs
 | _=>1
def bkL:List TV→Nat
 | []=>0
 | x::r=>x.bk+bkL r
def bkR:List (List TV)→Nat
 | []=>0
 | e::r=>bkL e+bkR r
end
omit [Gm] in
theorem bkL_append (a b:List TV):bkL (a++b)=bkL a+bkL b:=by
 induction a with
 | nil=>simp[bkL]
 | cons x a ih=>simp only[List.cons_append,bkL,ih];omega
structure Msr (H:Type) where
 b:DataW H→Nat
 one:∀ d,1≤b d
 sl:∀ elems spare,(elems.map b).sum+1≤b (.slice elems spare)
 ag:∀ parts,(parts.map b).sum≤b (.agg parts)
section
variable {P:Program} {T:TyTab} {w:World} {H:Type} {enc:TypeId×Value→H} {base:Nat} {spare:Nat→Bool} {held:Bool}
omit [Gm] in
theorem rows_readB {F:Nat→Prop} {k:Nat} {R:List TV→Prop}:∀ (n:Nat) (G:Nat→List Value) (c:Nat→Nat),(∀ i,i<n→(G i).length=k∧OneAll (G i)∧∃ xs,TV.relL w F xs (G i)∧R xs∧bkL xs≤c i) →
  ∃ es,es.length=n∧TV.relR w F k es ((List.range n).flatMap G)∧OneAll ((List.range n).flatMap G)∧(∀ r∈es,R r)∧bkR es≤((List.range n).map c).sum
 | 0,G,c,_=>⟨[],rfl,by simp[TV.relR],fun u hu=>by simp at hu,fun r hr=>by simp at hr,Nat.le_refl _⟩
 | n+1,G,c,h=>by
  obtain⟨es,h1,h2,h3,h4,h5⟩:=rows_readB n (fun i=>G (i+1)) (fun i=>c (i+1)) (fun i hi=>h (i+1) (by omega))
  obtain⟨g1,g2,xs,g3,g4,g5⟩:=h 0 (by omega)
  have e:(List.range (n+1)).flatMap G=G 0++(List.range n).flatMap (fun i=>G (i+1)):=by
   rw[List.range_succ_eq_map,List.flatMap_cons,List.flatMap_map]
  refine⟨xs::es,by simp[h1],?_,?_,?_,?_⟩
  ·rw[e];simp only[TV.relR]
   refine⟨G 0,_,rfl,?_,g3,h2⟩
   rw[←TV.relL_length g3];exact g1
  ·rw[e]
   intro u hu
   rcases List.mem_append.1 hu with hu | hu
   ·exact g2 u hu
   ·exact h3 u hu
  ·intro r hr
   rcases List.mem_cons.1 hr with rfl | hr
   ·exact g4
   ·exact h4 r hr
  ·rw[List.range_succ_eq_map,List.map_cons,List.sum_cons,List.map_map]
   simp only[bkR]
   have:((List.range n).map (c ∘ Nat.succ)).sum=((List.range n).map fun i=>c (i+1)).sum:=rfl
   omega
omit [Gm] in
theorem fs_readB (μ:Msr H) (C:TOK P T) {as:List TypeId} {n:Nat} (ih:∀ (t:TypeId) (cs:List Value) (x:DataW H×List MemPlace),t∈as→Light P t x.1→DataW.trod enc P w base spare held n t cs=some x→∃ xs,TV.relL w (Fw w) xs cs∧OneAll cs∧HasTy T n t xs∧bkL xs≤μ.b x.1)
  {cs:List Value} {sz:Nat}:∀ (l:List Field) (ys:List (DataW H×List MemPlace)) (off:Nat),contig T as sz off (l.map fun f=>(f.offset,f.type))=true→cs.length=sz →
   (∀ (j:Nat) (f:Field),l[j]?=some f→∃ y:DataW H×List MemPlace,ys[j]?=some y∧DataW.trod enc P w base spare held n f.type ((cs.drop f.offset).take (P.cellsOf f.type))=some y∧Light P f.type y.1) →
   ∃ xs,TV.relL w (Fw w) xs (cs.drop off)∧OneAll (cs.drop off)∧HasFs (HasTy T n) (l.map (·.type)) xs∧bkL xs≤(ys.map fun y=>μ.b y.1).sum
 | [],ys,off,hb,hl,_=>by
  have:=Nat.eq_of_beq_eq_true hb
  have e:cs.drop off=[]:=List.drop_eq_nil_of_le (by omega)
  rw[e]
  exact⟨[],by simp[TV.relL],fun u hu=>by simp at hu,rfl,Nat.zero_le _⟩
 | f::l,ys,off,hb,hl,h=>by
  simp only[List.map_cons,contig,Bool.and_eq_true] at hb
  obtain⟨⟨h1,h2⟩,h3⟩:=hb
  have h1:=Nat.eq_of_beq_eq_true h1
  have h2:f.type∈as:=by simpa using h2
  split at h3
  ·rename_i i hi
   obtain⟨y,hy0,hy,hly⟩:=h 0 f rfl
   cases ys with
   | nil=>simp at hy0
   | cons y0 ys =>
   simp at hy0;subst hy0
   rw[C.cellsOf hi,h1] at hy
   obtain⟨a,a1,a2,a3,a4⟩:=ih _ _ _ h2 hly hy
   obtain⟨b,b1,b2,b3,b4⟩:=fs_readB μ C ih l ys (off+i.size) h3 hl (fun j f hf=>by
    obtain⟨y,g1,g2,g3⟩:=h (j+1) f (by simpa using hf)
    exact⟨y,by simpa using g1,g2,g3⟩)
   have e:cs.drop off=(cs.drop off).take i.size++cs.drop (off+i.size):=by
    rw[←List.drop_drop,List.take_append_drop]
   refine⟨a++b,?_,?_,?_,?_⟩
   ·rw[e];exact relL_append a1 b1
   ·rw[e]
    intro u hu
    rcases List.mem_append.1 hu with hu | hu
    ·exact a2 u hu
    ·exact b2 u hu
   ·simp only[List.map_cons,HasFs]
    exact⟨a,b,rfl,a3,b3⟩
   ·rw[bkL_append]
    simp only[List.map_cons,List.sum_cons]
    omega
  ·cases h3
omit [Gm] in
theorem trod_treeB (μ:Msr H) (C:TOK P T) {as:List TypeId} (hA:argsB T as=true):∀ (fuel:Nat) (t:TypeId) (cs:List Value) (x:DataW H×List MemPlace),t∈as→Light P t x.1→DataW.trod enc P w base spare held fuel t cs=some x →
  ∃ xs,TV.relL w (Fw w) xs cs∧OneAll cs∧HasTy T fuel t xs∧bkL xs≤μ.b x.1
 | 0,t,cs,x,_,_,h=>by simp[DataW.trod] at h
 | n+1,t,cs,x,hm,hlt,h=>by
  have hb:argB T as t=true:=by
   unfold argsB at hA
   rw[List.all_eq_true] at hA
   exact hA t hm
  have h1x:=μ.one x.1
  unfold argB at hb
  split at hb
  ·rename_i i hi
   obtain⟨d,hu,hfit⟩:=C.und hi
   have hsize:=C.cellsOf hi
   simp only[HasTy,hi]
   split at hb
   ·rename_i hd
    rw[hd] at hfit;simp only[Ty.fits] at hfit;subst hfit
    rcases cs with _ | ⟨c,_ | ⟨c2,cs⟩⟩
    ·simp[DataW.trod,hu] at h
    ·cases c <;> simp[DataW.trod,hu] at h
     rename_i b
     exact⟨[.v (.bool b)],by simp[TV.relL,TV.rel,scal],one_cell rfl rfl,⟨b,rfl⟩,h1x⟩
    ·simp[DataW.trod,hu] at h
   ·rename_i k hd
    rw[hd] at hfit;simp only[Ty.fits] at hfit;subst hfit
    rcases cs with _ | ⟨c,_ | ⟨c2,cs⟩⟩
    ·simp[DataW.trod,hu] at h
    ·cases c <;> simp[DataW.trod,hu] at h
     rename_i k' z
     obtain⟨⟨rfl,hw⟩,_⟩:=h
     exact⟨[.v (.int k' z)],by simp[TV.relL,TV.rel,scal],one_cell rfl rfl,⟨z,rfl,hw⟩,h1x⟩
    ·simp[DataW.trod,hu] at h
   ·rename_i hd
    rw[hd] at hfit;simp only[Ty.fits] at hfit;subst hfit
    rcases cs with _ | ⟨c,_ | ⟨c2,cs⟩⟩
    ·simp[DataW.trod,hu] at h
    ·cases c <;> simp[DataW.trod,hu] at h
     rename_i b
     obtain⟨hb1,rfl⟩:=h
     have:=hlt b.data.toList.length (by simp[DataW.weights])
     exact⟨[.v (.string b)],by simp[TV.relL,TV.rel,scal],one_cell rfl rfl,⟨b,rfl,hb1,by
      have e:b.data.toList.length=b.size:=by simp
      rw[e] at this;exact Nat.le_trans this (by decide)⟩,h1x⟩
    ·simp[DataW.trod,hu] at h
   ·rename_i e hd
    rw[hd] at hfit;simp only[Ty.fits] at hfit;subst hfit
    simp only[Bool.and_eq_true] at hb
    obtain⟨⟨_,hem⟩,hb⟩:=hb
    have hem:e∈as:=by simpa using hem
    split at hb
    ·rename_i ei hei
     have hpos:0<ei.size:=Nat.le_of_ble_eq_true hb
     have hce:=C.cellsOf hei
     have goal:∃ xs,TV.relL w (Fw w) xs cs∧OneAll cs∧(xs=[.v (.slice none 0 0)]∨∃ es,xs=[.sl ei.size es]∧es.length≤maxLen∧es.length*ei.bytes≤140737488355328∧∀ r∈es,HasTy T n e r)∧bkL xs≤μ.b x.1:=by
      rcases DataW.trod_slice hu h with⟨rfl,_⟩ | ⟨a,len,cap,elems,rest,n',hn,rfl,hxe,_,hl,hm',hel,hrows,_,_⟩
      ·exact⟨[.v (.slice none 0 0)],by simp[TV.relL,TV.rel,scal],one_cell rfl rfl,.inl rfl,h1x⟩
      ·injection hn with hn;subst hn
       rw[hce] at hrows
       have hbig:len*ei.bytes≤140737488355328:=by
        have h1:=hlt (((elems.map (·.1)).length+(rest.map (·.1)).length)*P.bytesOf e) (by rw[hxe];simp[DataW.weights,hu])
        rw[C.bytesOf hei] at h1
        have h2:len*ei.bytes≤((elems.map (·.1)).length+(rest.map (·.1)).length)*ei.bytes:=Nat.mul_le_mul_right _ (by simp;omega)
        exact Nat.le_trans h2 (Nat.le_trans h1 (by decide))
       have hG:∀ i,∃ us,i<len→us.length=ei.size∧OneAll us∧(∃ xs,TV.relL w (Fw w) xs us∧HasTy T n e xs∧bkL xs≤((elems.map fun y=>μ.b y.1)[i]?).getD 0)∧∀ j,j<ei.size→w.cell? ((a.add (i*ei.size)).add j)=us[j]?:=by
        intro i
        by_cases hi':i<len
        ·have hr:=hrows i hi'
         have hlt':i<elems.length:=by omega
         rw[List.getElem?_eq_getElem hlt',Option.bind_eq_some_iff] at hr
         obtain⟨us,hc,ht⟩:=hr
         obtain⟨_,h2,h3⟩:=World.cells?_some hc
         obtain⟨xs,r1,r2,r3,r4⟩:=trod_treeB μ C hA n e us _ hem (fun q hq=>hlt q (by rw[hxe];simp only[DataW.weights,hu,List.mem_cons,List.mem_append];exact .inr (.inl (weights_all (List.mem_map_of_mem (List.getElem_mem hlt')) q hq)))) ht
         exact⟨us,fun _=>⟨h2,r2,⟨xs,r1,r3,by rw[List.getElem?_map,List.getElem?_eq_getElem hlt'];exact r4⟩,h3⟩⟩
        ·exact⟨[],fun h=>absurd h hi'⟩
       let G:Nat→List Value:=fun i=>Classical.choose (hG i)
       have hGs:∀ i,i<len→(G i).length=ei.size∧OneAll (G i)∧(∃ xs,TV.relL w (Fw w) xs (G i)∧HasTy T n e xs∧bkL xs≤((elems.map fun y=>μ.b y.1)[i]?).getD 0)∧∀ j,j<ei.size→w.cell? ((a.add (i*ei.size)).add j)=(G i)[j]?:=fun i hi=>Classical.choose_spec (hG i) hi
       obtain⟨es,e1,e2,e3,e4,e5⟩:=rows_readB (w:=w) (F:=Fw w) (k:=ei.size) (R:=HasTy T n e) len G (fun i=>((elems.map fun y=>μ.b y.1)[i]?).getD 0) (fun i hi=>⟨(hGs i hi).1,(hGs i hi).2.1,(hGs i hi).2.2.1⟩)
       subst e1
       refine⟨[.sl ei.size es],?_,one_cell rfl rfl,.inr ⟨es,rfl,by omega,hbig,e4⟩,?_⟩
       ·simp only[TV.relL,TV.rel]
        refine⟨_,[],rfl,⟨some a,cap,_,rfl,hl,hm',hpos,e2,e3,?_⟩,rfl⟩
        by_cases h0:(List.range es.length).flatMap G=[]
        ·exact .inl h0
        ·refine .inr ⟨a,rfl,?_⟩
         have hcells:CellsAt w a ((List.range es.length).flatMap G):=flat_cells es.length G (fun i hi=>⟨(hGs i hi).1,(hGs i hi).2.2.2⟩)
         exact⟨hcells.lt h0,hcells⟩
       ·have hs:((List.range es.length).map fun i=>((elems.map fun y=>μ.b y.1)[i]?).getD 0)=elems.map fun y=>μ.b y.1:=by
         apply List.ext_getElem?
         intro i
         by_cases hi:i<es.length
         ·simp[hi,show i<elems.length by omega]
         ·simp[hi,List.getElem?_eq_none (show elems.length≤i by omega)]
        rw[hs] at e5
        have hsl:=μ.sl (elems.map (·.1)) (rest.map (·.1))
        rw[List.map_map] at hsl
        have hsl:(elems.map fun y=>μ.b y.1).sum+1≤μ.b (.slice (elems.map (·.1)) (rest.map (·.1))):=hsl
        rw[hxe]
        simp only[bkL,TV.bk]
        omega
     obtain⟨xs,g1,g2,g3,g4⟩:=goal
     exact⟨xs,g1,g2,g3,g4⟩
    ·cases hb
   ·rename_i fs hd
    rw[hd] at hfit;simp only[Ty.fits] at hfit
    obtain⟨ff,rfl,rfl⟩:=hfit
    obtain⟨xs,n',hn,hxe,hlen,hxl,hf'⟩:=DataW.trod_struct hu h
    injection hn with hn;subst hn
    have:=fs_readB μ (ih:=fun t cs x hm hl h=>trod_treeB μ C hA n t cs x hm hl h) C (cs:=cs) ff.toList xs 0 hb (hlen.trans hsize) (fun j f hj0=>by
     have hj':ff[j]?=some f:=by simpa using hj0
     have hlt':j<xs.length:=by rw[hxl];exact (Array.getElem?_eq_some_iff.1 hj').1
     refine⟨xs[j],List.getElem?_eq_getElem hlt',by rw[hf' j f hj',List.getElem?_eq_getElem hlt'],fun q hq=>hlt q ?_⟩
     rw[hxe];simp only[DataW.weights,hu]
     exact DataW.weights_mem_each (j:=j) (t:=f.type) (d:=xs[j].1) (by simp[hj']) (by simp[hlt']) q hq)
    obtain⟨ys,h1,h2,h3,h4⟩:=this
    refine⟨ys,h1,h2,?_,?_⟩
    ·have e:(ff.toList.map fun f=>(f.offset,f.type)).map (·.2)=ff.toList.map (·.type):=by simp
     rw[e];exact h3
    ·have hag:=μ.ag (xs.map (·.1))
     rw[List.map_map] at hag
     have hag:(xs.map fun y=>μ.b y.1).sum≤μ.b (.agg (xs.map (·.1))):=hag
     rw[hxe]
     exact Nat.le_trans h4 hag
   ·cases hb
  ·cases hb
end
end
section
section
variable {P:Program} {T:TyTab} {w:World} {H:Type} {enc:TypeId×Value→H} {base:Nat} {spare:Nat→Bool} {held:Bool}
omit [Gm] in
theorem arg_treeB (μ:Msr H) (C:TOK P T) {as:List TypeId} (hA:argsB T as=true) {t:TypeId} {v:Value} {d:DataW H} {ps:List MemPlace} {b0:Nat} (hm:t∈as) (hlt:Light P t d) (hv:Value.okWide P w .any b0 t v) (h:DataW.Trod enc P w base spare held t v d ps) :
  ∃ x:TV,x.rel w (Fw w) v∧(∃ n,ArgTy T n t x)∧x.bk≤μ.b d:=by
 obtain⟨fuel,hf⟩:=h
 obtain⟨xs,h1,h2,h3,h4⟩:=trod_treeB μ C hA fuel t _ _ hm hlt hf
 have h4:bkL xs≤μ.b d:=h4
 have hb:argB T as t=true:=by
  unfold argsB at hA
  rw[List.all_eq_true] at hA
  exact hA t hm
 unfold argB at hb
 split at hb
 ·rename_i i hi
  obtain⟨d',hu,hfit⟩:=C.und hi
  have one:(∃ c,v=c∧v.cells=#[c])→(∀ fs,i.d≠.struct fs)→∃ x:TV,x.rel w (Fw w) v∧(∃ n,ArgTy T n t x)∧x.bk≤μ.b d:=by
   rintro⟨c,rfl,hc⟩ hns
   rw[hc] at h1
   obtain⟨x,rfl⟩:∃ x,xs=[x]:=by
    have:=TV.relL_length h1
    simp at this
    match xs,this with
    | [x],_=>exact⟨x,rfl⟩
   simp only[TV.relL] at h1
   obtain⟨u,us,e,hx,_⟩:=h1
   injection e with e _;subst e
   refine⟨x,hx,⟨fuel,?_⟩,by simpa [bkL] using h4⟩
   unfold ArgTy
   split
   ·rename_i fs _ _ _ _ hi'
    rw[hi] at hi';injection hi' with hi';subst hi'
    exact absurd rfl (hns fs)
   ·exact h3
  split at hb
  ·rename_i hd
   rw[hd] at hfit;simp only[Ty.fits] at hfit;subst hfit
   obtain⟨b,rfl⟩:=okWide_bool hu hv
   exact one ⟨_,rfl,rfl⟩ (fun fs e=>by rw[hd] at e;cases e)
  ·rename_i k hd
   rw[hd] at hfit;simp only[Ty.fits] at hfit;subst hfit
   obtain⟨b,rfl⟩:=okWide_int hu hv
   exact one ⟨_,rfl,rfl⟩ (fun fs e=>by rw[hd] at e;cases e)
  ·rename_i hd
   rw[hd] at hfit;simp only[Ty.fits] at hfit;subst hfit
   obtain⟨b,rfl⟩:=okWide_string hu hv
   exact one ⟨_,rfl,rfl⟩ (fun fs e=>by rw[hd] at e;cases e)
  ·rename_i e hd
   rw[hd] at hfit;simp only[Ty.fits] at hfit;subst hfit
   obtain⟨a,l,c,rfl⟩:=okWide_slice hu hv
   exact one ⟨_,rfl,rfl⟩ (fun fs e=>by rw[hd] at e;cases e)
  ·rename_i fs hd
   rw[hd] at hfit;simp only[Ty.fits] at hfit
   obtain⟨ff,rfl,rfl⟩:=hfit
   obtain⟨cs,rfl,hsz⟩:=okWide_struct hu hv
   refine⟨.agg xs,?_,⟨fuel,?_⟩,by simpa only[TV.bk] using h4⟩
   ·simp only[TV.rel]
    exact⟨cs.toList,by simp,h1,h2⟩
   ·unfold ArgTy
    split
    ·exact⟨xs,rfl,h3⟩
    ·rename_i hno
     obtain⟨d',sz,by',z,q⟩:=i
     simp only at hd
     subst hd
     exact absurd hi (hno _ _ _ _ _)
  ·cases hb
 ·cases hb
omit [Gm] in
theorem args_treeB (μ:Msr H) (C:TOK P T) {as:List TypeId} (hA:argsB T as=true) {b0:Nat}:∀ (ts:List TypeId) (vs:List Value) (ds:List (DataW H)) (ps:List MemPlace),(∀ t∈ts,t∈as)→(∀ (j:Nat) t v,ts[j]?=some t→vs[j]?=some v→Value.okWide P w .any b0 t v) →
  (∀ n∈DataW.weightsEach P ts ds,n≤reachBytes)→DataW.TrodAll enc P w base spare held ts vs ds ps→∃ xs,TV.relL w (Fw w) xs vs∧ArgsTy T ts xs∧ds.length=ts.length∧bkL xs≤(ds.map μ.b).sum
 | [],[],[],ps,_,_,_,_=>⟨[],by simp[TV.relL],rfl,rfl,Nat.le_refl _⟩
 | t::ts,v::vs,d::ds,ps,hm,hv,hlt,h=>by
  obtain⟨p,q,h1,h2,rfl⟩:=h
  simp only[DataW.weightsEach,List.mem_append] at hlt
  obtain⟨x,x1,x2,x3⟩:=arg_treeB μ C hA (hm t (List.mem_cons_self ..)) (fun n hn=>hlt n (.inl hn)) (hv 0 t v rfl rfl) h1
  obtain⟨xs,y1,y2,y3,y4⟩:=args_treeB μ C hA ts vs ds q (fun t ht=>hm t (List.mem_cons_of_mem _ ht)) (fun j t v h1 h2=>hv (j+1) t v h1 h2) (fun n hn=>hlt n (.inr hn)) h2
  refine⟨x::xs,by simp only[TV.relL];exact⟨v,vs,rfl,x1,y1⟩,⟨x,xs,rfl,x2,y2⟩,by simp[y3],?_⟩
  simp only[bkL,List.map_cons,List.sum_cons]
  omega
 | [],[],_::_,_,_,_,_,h=>h.elim
 | [],_::_,_,_,_,_,_,h=>by cases ‹List (DataW H)› <;> exact h.elim
 | _::_,[],_,_,_,_,_,h=>by cases ‹List (DataW H)› <;> exact h.elim
 | _::_,_::_,[],_,_,_,_,h=>h.elim
theorem row_upto {C:Checked} {os:Os} {f:FuncId} {fn:Func} {s:OpenSpec} {F:Stop.Interp} {conds:List PathCond} {fresh:Bool} {T:TyTab} {ars:List TypeId} {ts:List TypeId} {tb:TypeId} {laid:List (String×DataW Unit)} (μ:Msr H) (B:Nat)
  (own:ownKnob C.prog.godebug=none) (started:os.Started) (noInit:C.prog.inits.idxOf? f=none) (hfn:C.prog.funcs[f]?=some fn) (hl:laidOutB C.prog=true)
  (witness:∃ (w:World) (tape:Tape) (i:Input),w.os=os∧(w.forCall tape i).Shaped C.prog∧i.vars=[]∧Input.okWide C.prog (w.forCall tape i) .any w.heap.size f i ∧
   s.preRow enc C.prog fn conds false laid (w.forCall tape i).memory i.args∧Assume.holds {} C.prog (lone (Frame.enter C.prog f i.args .normal) [] (w.forCall tape i)))
  (K:TOK C.prog T) (hA:argsB T ars=true) (hts:fn.params.toList=ts) (has:∀ t∈ts,t∈ars) (hread:∀ t∈ts,C.prog.readableRec t=true∧t<C.prog.types.size)
  (hres:fn.resultTypes=#[tb]) (htb:C.prog.underlying tb=some .bool)
  (hvars:s.vars=[]) (hvb:s.bare.plain.varTypes C.prog=[]) (hva:(s.at F).vars=[]) (hs:∀ (ds:List (DataW H)),ds.length=ts.length→((s.at F).fn H ds).results=[.lit (.bool true)]∧((s.at F).fn H ds).args=ds∧((s.at F).fn H ds).vars=[])
  (hcond:∃ k,s.cond=some k∧∀ ds,k H ds=true→(ds.map μ.b).sum≤B)
  (hgm:∀ W,laidMetH C.prog laid W→Gm.g W) (law:∀ xs,ArgsTy T ts xs→bkL xs≤B→PC C.prog f xs (.v (.bool true))) :
  ReturnsInHanded {} C os f .any (s.preRow enc C.prog fn conds false laid) ((s.at F).post enc C.prog fn false fresh false false):=by
 refine returnsInHanded_of_row own started noInit hfn witness ?_
 intro W base args ds gs before hval hW _ hcn hsz hX _ _
 have hW':=hW
 obtain⟨p,q,hA0,hV,rfl,hfz,_⟩:=hW
 rw[hvars] at hV hW'
 obtain⟨rfl,rfl⟩:=trodVars_none hV
 rw[hts] at hA0
 simp only[List.append_nil] at hW'
 rw[hvb,List.append_nil,List.append_nil,hts] at hsz
 have hsz:∀ n∈DataW.weightsEach C.prog ts ds,n≤reachBytes:=fun n hn=>by simpa using List.all_eq_true.1 hsz n hn
 obtain⟨xs,h1,h2,h3,h4⟩:=args_treeB μ K hA ts args.toList ds p has (fun j t v hj hv=>hval j t v (by rw[←hts] at hj;simpa using hj) (by simpa using hv)) hsz hA0
 obtain⟨k,hk1,hk2⟩:=hcond
 have hB:=hk2 _ (hcn k hk1)
 rw[List.append_nil] at hB
 have hc:=law xs h2 (Nat.le_trans h4 hB) W (Fw W) args.toList (hgm W hX) (fun _ h=>h) h1
 rw[Array.toArray_toList] at hc
 refine hc.mono ?_
 rintro e W' ⟨v,rfl,hb,hr⟩
 simp only[TV.rel] at hr
 obtain⟨rfl,_⟩:=hr
 obtain⟨s1,s2,s3⟩:=hs ds h3
 have hlt:∀ x∈p,x.block<W.heap.size:=fun x hx=>hW'.lt x (by simpa using hx)
 refine⟨_,rfl,ds,[],p,[],p,[],by rw[hva];exact hW',?_,?_,?_,hb.frame _,fun h=>by cases h⟩
 ·rw[List.append_nil,s1,hres]
  exact trodAll_mk1 ⟨1,by simp[DataW.trod,htb,Value.cells]⟩
 ·rw[List.append_nil,s2,hts]
  exact all_below hl hb ts args.toList ds p hread hlt hA0
 ·rw[List.append_nil,s3,hva]
  rfl
end
end
end Go.Proofs.YtihbimigddlbaaaGreatDoor.Pl
end
