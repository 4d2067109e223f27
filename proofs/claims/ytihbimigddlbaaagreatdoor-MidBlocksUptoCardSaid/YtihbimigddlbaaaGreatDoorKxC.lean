/- A part of the proof: Kx7 Kx8 Kx9 Kx10 Kx11. -/
import Derived.Test.YtihbimigddlbaaaGreatDoorKxB
import Derived.Test.YtihbimigddlbaaaGreatDoorPlB
import Derived.Lib.AppendZeros
noncomputable section
set_option linter.all false
namespace Go.Proofs.YtihbimigddlbaaaGreatDoor.Kx
open Go.RowKit Go.Proofs.YtihbimigddlbaaaGreatDoor.Pl
section
def Hp.new (h:Hp) (o:CO):Hp:=⟨h.σ.set o h.n,h.n+1⟩
def Hp.put (h:Hp) (l:Nat) (o:CO):Hp:=⟨h.σ.set o l,h.n⟩
def unitC:CV:=.tup []
def repC (cs:List CV):Nat→List CV
 | 0=>[]
 | n+1=>cs++repC cs n
def elemsC (σ:Tr CO) (k:Nat):CV→Option (List CV×Nat)
 | .sl l k' off len _ _=>match σ.get l with
  | some (.cells _ cs)=>bif Nat.beq k k'&&Nat.ble ((off+len)*k) cs.length then some ((cs.drop (off*k)).take (len*k),len) else none
  | _=>none
 | .e0 | .eu=>some ([],0)
 | .v (.slice none 0 0)=>some ([],0)
 | _=>none
def isSl:CV→Bool
 | .sl .. | .e0 | .eu | .v (.slice none 0 0)=>true
 | _=>false
def roomy (n bytes:Nat):Bool:=Nat.ble n 1000000&&Nat.ble (n*bytes) 140737488355328
def appendC (T:TyTab) (h:Hp) (t:TypeId) (b x:CV):Option (CV×Hp) :=
 match T t with
 | some { d:=.slice e,.. }=>match T e with
  | some ei=>match elemsC h.σ ei.size x with
   | some (news,q)=>bif Nat.beq q 0 then (bif isSl b then some (b,h) else none) else
    bif Nat.blt 0 ei.size then (match b with
    | .v (.slice none 0 0)=>bif roomy q ei.bytes then some (.sl h.n ei.size 0 q q false,h.new (.cells e news)) else none
    | .e0=>bif roomy q ei.bytes then some (.sl h.n ei.size 0 q q false,h.new (.cells e news)) else none
    | .sl l k 0 len c ex=>match h.σ.get l with
     | some (.cells e' cs)=>bif Nat.beq k ei.size&&Nat.beq e e'&&Nat.ble (len*k) cs.length then
       bif Nat.ble (len+q) c then some (.sl l k 0 (len+q) c ex,h.put l (.cells e' (putC (len*k) news cs)))
       else bif roomy (len+q) ei.bytes then (bif ex then some (.sl h.n k 0 (len+q) (len+q) false,h.new (.cells e (cs.take (len*k)++news)))
        else some (.sl h.n k 0 (len+q) (len+q) false,(h.put l .dead).new (.cells e (cs.take (len*k)++news)))) else none
      else none
     | _=>none
    | _=>none) else none
   | none=>none
  | none=>none
 | _=>none
def storeC (h:Hp) (ti:TI) (p v:CV):Option (CV×Hp) :=
 match p with
 | .ptr l off=>match h.σ.get l,cellsC v with
  | some (.cells e cs),some new=>bif Nat.beq new.length ti.size&&Nat.ble (off+new.length) cs.length then some (unitC,h.put l (.cells e (putC off new cs))) else none
  | _,_=>none
 | _=>none
def allCells (k:Nat):List CV→Option (List CV)
 | []=>some []
 | x::r=>match cellsC x with
  | some cs=>bif Nat.beq cs.length k then (match allCells k r with | some rs=>some (cs++rs) | none=>none) else none
  | none=>none
def buildSliceC (T:TyTab) (h:Hp) (lk:Operand→Option CV) (t:TypeId) (n:Nat) (parts:List (Nat×Operand)):Option (CV×Hp) :=
 match T t with
 | some { d:=.slice e,.. }=>match T e,lkAllC lk (parts.map (·.2)) with
  | some ei,some vs=>match allCells ei.size vs with
   | some cs=>bif seqFrom 0 parts&&Nat.beq parts.length n&&Nat.ble (n*ei.size) 16777216&&Nat.blt 0 ei.size then
     some (.sl h.n ei.size 0 n n true,h.new (.cells e cs)) else none
   | none=>none
  | _,_=>none
 | _=>none
def makeSliceC (T:TyTab) (h:Hp) (t:TypeId) (a b:CV):Option (CV×Hp) :=
 match T t with
 | some { d:=.slice e,.. }=>match a,b with
  | .v (.int .i64 (.ofNat n)),.v (.int .i64 (.ofNat c))=>match T e with
   | some ei=>match ofTVs ei.zero with
    | some zs=>bif Nat.ble n c&&roomy c ei.bytes&&Nat.blt 0 ei.size then some (.sl h.n ei.size 0 n c true,h.new (.cells e (repC zs c))) else none
    | none=>none
   | none=>none
  | _,_=>none
 | _=>none
def appendZC (T:TyTab) (h:Hp) (t:TypeId) (b x:CV):Option (CV×Hp) :=
 match T t with
 | some { d:=.slice e,.. }=>match b,x with
  | .v (.slice none 0 0),.v (.int .i64 (.ofNat q))=>match T e with
   | some ei=>match ofTVs ei.zero with
    | some zs=>bif Nat.blt 0 q&&roomy q ei.bytes&&Nat.blt 0 ei.size then some (.sl h.n ei.size 0 q q false,h.new (.cells e (repC zs q))) else none
    | none=>none
   | none=>none
  | _,_=>none
 | _=>none
def setNth {α:Type} (x:α):Nat→List α→List α
 | _,[]=>[]
 | 0,_::r=>x::r
 | n+1,y::r=>y::setNth x n r
def mapSetC (T:TyTab) (h:Hp) (t:TypeId) (q k v:CV):Option (CV×Hp) :=
 match T t,q with
 | some { d:=.map kt _,.. },.mp l=>match T kt,h.σ.get l with
  | some ki,some (.map es clock)=>bif keyTy ki.d then (match findC ki.d k es 0 with
   | some (some (i,_))=>match nth es i with
    | some (_,_,b)=>some (unitC,h.put l (.map (setNth (k,v,b) i es) clock))
    | none=>none
   | some none=>some (unitC,h.put l (.map (es++[(k,v,clock)]) (clock+1)))
   | none=>none) else none
  | _,_=>none
 | _,_=>none
def rangeC (T:TyTab) (h:Hp) (t:TypeId) (x:CV):Option (CV×Hp) :=
 match T t with
 | some { d:=.string,.. }=>match x with
  | .str bs=>some (.ptr h.n 0,h.new (.sit bs 0))
  | _=>none
 | some { d:=.map _ _,.. }=>match x with
  | .v (.map none)=>some (.ptr h.n 0,h.new (.mit none 0 [] 0))
  | .mp l=>match h.σ.get l with
   | some (.map _ clock)=>some (.ptr h.n 0,h.new (.mit (some l) clock [] clock))
   | _=>none
  | _=>none
 | _=>none
def memN (n:Nat):List Nat→Bool
 | []=>false
 | x::r=>Nat.beq n x||memN n r
def leftC (seen:List Nat):List (CV×CV×Nat)→List (CV×CV×Nat)
 | []=>[]
 | e::r=>bif memN e.2.2 seen then leftC seen r else e::leftC seen r
def allFrom (n:Nat):List (CV×CV×Nat)→Bool
 | []=>true
 | e::r=>Nat.ble n e.2.2&&allFrom n r
def isE {α:Type}:List α→Bool
 | []=>true
 | _=>false
def nextC (h:Hp) (it:CV) (s:Bool):Option (CV×Hp) :=
 match it with
 | .ptr l 0=>match h.σ.get l with
  | some (.sit bs pos)=>bif s then (bif Nat.blt pos bs.length then (match nth bs pos with
    | some b=>bif Nat.blt b 128 then some (.tup [cb true,ci pos,.v (.int .i32 (.ofNat b))],h.put l (.sit bs (pos+1))) else none
    | none=>none) else some (.tup [cb false],h)) else none
  | some (.mit none _ _ _)=>bif s then none else some (.tup [cb false],h)
  | some (.mit (some q) since seen stepped)=>bif s then none else (match h.σ.get q with
   | some (.map es clock)=>bif !isE seen&&!isE es&&allFrom stepped es then none else
    (match leftC seen es with
    | []=>some (.tup [cb false],h)
    | [e]=>bif Nat.blt e.2.2 since then some (.tup [cb true,e.1,e.2.1],h.put l (.mit (some q) since (seen++[e.2.2]) clock)) else none
    | _=>none)
   | _=>none)
  | _=>none
 | _=>none
def effC (T:TyTab) (h:Hp) (lk:Operand→Option CV) (op:Op):Option (CV×Hp) :=
 match op with
 | .alloc t=>match T t with
  | some ti=>match ofTVs ti.zero with
   | some cs=>some (.ptr h.n 0,h.new (.cells t cs))
   | none=>none
  | none=>none
 | .box t x=>match lk x with
  | some v=>match cellsC v with
   | some cs=>some (.ptr h.n 0,h.new (.cells t cs))
   | none=>none
  | none=>none
 | .buildSlice t n parts=>buildSliceC T h lk t n parts.toList
 | .makeSlice t n c=>match lk n,lk c with
  | some a,some b=>makeSliceC T h t a b
  | _,_=>none
 | .store t p x=>match T t,lk p,lk x with
  | some ti,some a,some v=>storeC h ti a v
  | _,_,_=>none
 | .makeMap _ none=>some (.mp h.n,h.new (.map [] 0))
 | .mapUpdate t q k v | .insert t q k v=>match lk q,lk k,lk v with
  | some a,some b,some c=>mapSetC T h t a b c
  | _,_,_=>none
 | .range t x=>match lk x with
  | some v=>rangeC T h t v
  | none=>none
 | .next it s=>match lk it with
  | some v=>nextC h v s
  | none=>none
 | .call { callee:=.builtin .append,args:=as,argTypes:=ts }=>match lkAllC lk as.toList,ts.toList with
  | some [b,x],[t,t']=>bif Nat.beq t t' then appendC T h t b x else (match T t' with
   | some { d:=.int _,.. }=>appendZC T h t b x
   | _=>none)
  | _,_=>none
 | _=>none
end
section
def Ef (P:Program) (G:Gl) (w0:World) (m:Pm) (h:Hp) (w:World) (s:Sem Next) (v:CV) (h':Hp):Prop :=
 ∃ r y w' m',s.run P w=.ok r w'∧(r=.value y∨(r=.skip∧y=undef))∧v.rel m' h'.n y∧Mem G w0 m' h' w'∧Stp m h w m' h' w'
section
variable {P:Program} {T:TyTab} {G:Gl} {w0 w:World} {m:Pm} {h:Hp} {n:Nat}
theorem rel_unit:unitC.rel m n undef:=by simp only[unitC,CV.rel,undef];exact⟨[],rfl,by simp only[CV.relL]⟩
theorem rel_new {m:Pm} {b sz off:Nat}:(CV.ptr h.n off).rel (m.put h.n b sz) (h.n+1) (.pointer (some ⟨b,off,none⟩)):=by
 simp only[CV.rel];exact⟨Nat.lt_succ_self _,by rw[Pm.put_b]⟩
theorem Mem.newCells (M:Mem G w0 m h w) {t:TypeId} {cs:List CV} {us:Array Value} {vs:List Value} (hr:CV.relL m h.n cs vs) (h1:OneAll vs) (hp:us.toList.take vs.length=vs) {w':World}
  (a1:w'.os=w.os) (a2:w'.tape=w.tape) (a3:w'.output=w.output) (hheap:w'.heap=w.heap.push (.cells us t (0,0))) :
  Mem G w0 (m.put h.n w.heap.size us.size) (h.new (.cells t cs)) w'∧Stp m h w (m.put h.n w.heap.size us.size) (h.new (.cells t cs)) w':=by
 refine M.new (.cells t cs) us.size a1 a2 a3 (by rw[hheap];simp) (fun b hb=>by rw[hheap,Array.getElem?_push,if_neg (by omega)]) ?_
 exact⟨us,vs,by rw[Pm.put_b,hheap];simp,(Pm.put_sz _ _ _ _).symm,CV.relL_ext (Ext.put _ _ _ _) _ _ hr,h1,hp⟩
theorem take_self {us:Array Value}:us.toList.take us.toList.length=us.toList:=List.take_length
theorem alloc_ef (C:Cx P T) (M:Mem G w0 m h w) {t:TypeId} {ti:TI} (ht:T t=some ti) {cs:List CV} (hc:ofTVs ti.zero=some cs) {ρ:Operand→Value} {o:Oper} (ho:o.op=.alloc t) :
  Ef P G w0 m h w (execOp ρ o) (.ptr h.n 0) (h.new (.cells t cs)):=by
 obtain⟨z,hz,hz2,hz3,_⟩:=C.zok t ti ht
 obtain⟨M',S⟩:=M.newCells (t:=t) (ofTVs_rel hc (hz2 w (fun _=>True))) hz3 take_self (w':=w.alloc (.cells z.cells t)) rfl rfl rfl rfl
 refine⟨_,.pointer (some ⟨w.heap.size,0,none⟩),_,_,?_,.inl rfl,rel_new,M',S⟩
 simp[execOp,ho,Instr.alloc,hz,newVar,newRow]
theorem box_ef (M:Mem G w0 m h w) {t:TypeId} {x:Operand} {v:CV} {cs:List CV} {ρ:Operand→Value} (hv:v.rel m h.n (ρ x)) (hc:cellsC v=some cs) {o:Oper} (ho:o.op=.box t x) :
  Ef P G w0 m h w (execOp ρ o) (.ptr h.n 0) (h.new (.cells t cs)):=by
 obtain⟨hr,h1⟩:=cellsC_rel hv hc
 obtain⟨M',S⟩:=M.newCells (t:=t) hr h1 take_self (w':=w.alloc (.cells (ρ x).cells t)) rfl rfl rfl rfl
 refine⟨_,.pointer (some ⟨w.heap.size,0,none⟩),_,_,?_,.inl rfl,rel_new,M',S⟩
 simp[execOp,ho,Instr.box,newVar,newRow]
theorem allCells_rel {k:Nat}:∀ {vs cs:List CV} {us:List Value},allCells k vs=some cs→CV.relL m n vs us→CV.relL m n cs (us.flatMap fun u=>u.cells.toList)∧OneAll (us.flatMap fun u=>u.cells.toList)∧(∀ u∈us,u.cells.size=k)
 | [],cs,us,hc,hr=>by
  simp only[allCells,Option.some.injEq] at hc;subst hc
  simp only[CV.relL] at hr;subst hr
  exact⟨by simp[CV.relL],fun u hu=>by simp at hu,fun u hu=>by simp at hu⟩
 | x::vs,cs,us,hc,hr=>by
  simp only[allCells] at hc
  split at hc
  ·rename_i xs hxs
   cases hb:Nat.beq xs.length k with
   | false=>rw[hb] at hc;cases hc
   | true =>
    rw[hb,cond_true] at hc
    split at hc
    ·rename_i rs hrs
     injection hc with hc;subst hc
     simp only[CV.relL] at hr
     obtain⟨u,us',rfl,hx,hr⟩:=hr
     obtain⟨g1,g2⟩:=cellsC_rel hx hxs
     obtain⟨k1,k2,k3⟩:=allCells_rel hrs hr
     simp only[List.flatMap_cons]
     refine⟨relL_append g1 k1,?_,?_⟩
     ·intro u' hu'
      rcases List.mem_append.1 hu' with hu' | hu'
      ·exact g2 u' hu'
      ·exact k2 u' hu'
     ·intro u' hu'
      rcases List.mem_cons.1 hu' with rfl | hu'
      ·have:=relL_length g1
       rw[beq_eq hb] at this;simpa using this
      ·exact k3 u' hu'
    ·cases hc
  ·cases hc
theorem buildSlice_ef (C:Cx P T) (M:Mem G w0 m h w) {lk:Operand→Option CV} {ρ:Operand→Value} (hl:∀ x v,lk x=some v→v.rel m h.n (ρ x)) {t:TypeId} {q:Nat} {parts:Array (Nat×Operand)} {v:CV} {h':Hp}
  (hv:buildSliceC T h lk t q parts.toList=some (v,h')) {o:Oper} (ho:o.op=.buildSlice t q parts):Ef P G w0 m h w (execOp ρ o) v h':=by
 unfold buildSliceC at hv
 split at hv
 ·rename_i e sz by' z0 qq ht
  split at hv
  ·rename_i ei vs hei hvs
   split at hv
   ·rename_i cs hcs
    cases hb:(seqFrom 0 parts.toList&&Nat.beq parts.toList.length q&&Nat.ble (q*ei.size) 16777216&&Nat.blt 0 ei.size) with
    | false=>rw[hb] at hv;cases hv
    | true =>
     rw[hb,cond_true] at hv
     injection hv with hv
     simp only[Prod.mk.injEq] at hv
     obtain⟨rfl,rfl⟩:=hv
     simp only[Bool.and_eq_true] at hb
     obtain⟨⟨⟨b1,b2⟩,b4⟩,b5⟩:=hb
     have hn:=beq_eq b2
     have hlim:=ble_le b4
     have hpos:=blt_lt b5
     have hrel:=lkAllC_rel hl _ _ hvs
     obtain⟨r1,r2,r3⟩:=allCells_rel hcs hrel
     obtain⟨d,hd,hun⟩:=C.tok.under (w:=w) ht
     simp only[Ty.fits] at hd;subst hd
     obtain⟨zv,hz,hz2,hz3,_⟩:=C.zok _ _ hei
     generalize hus:(parts.toList.map (·.2)).map ρ=us at *
     have hul:us.length=q:=by rw[←hus];simpa using hn
     have hseq:∀ (l:List (Nat×Operand)) (i:Nat),seqFrom i l=true→l.map (fun p=>(p.1,ρ p.2))=(((l.map (·.2)).map ρ).zipIdx i).map fun p=>(p.2,p.1):=by
      intro l
      induction l with
      | nil=>intro i _;rfl
      | cons p l ih =>
       intro i hi
       obtain⟨pi,px⟩:=p
       simp only[seqFrom,Bool.and_eq_true] at hi
       have:=Nat.eq_of_beq_eq_true hi.1;subst this
       simp only[List.map_cons,List.zipIdx_cons]
       rw[ih _ hi.2]
     have hmap:(parts.map fun p=>(p.1,ρ p.2)).toList=(us.zipIdx 0).map fun p=>(p.2,p.1):=by
      rw[Array.toList_map,hseq _ 0 b1,hus]
     let z0:Array Value:=if q*ei.size=0 then #[] else zv.cells
     obtain⟨cells',hf,hcl⟩:=fill_seq ei.size us 0 ((Array.range (q*ei.size)).map fun i=>z0[i % z0.size]!) r3 (by simp[hul])
     have hcl':cells'=(us.flatMap fun u=>u.cells.toList).toArray:=by
      have:cells'.toList=us.flatMap fun u=>u.cells.toList:=by
       rw[hcl];simp[hul]
      rw[←this]
     have hrun:(execOp ρ o).run P w=.ok (.value (.slice (some ⟨w.heap.size,0,none⟩) q q)) (w.alloc (.cells cells' e)):=by
      have hnl:¬ q*ei.size>2 ^ 24:=by show ¬ q*ei.size>16777216;omega
      have hm2:(Array.map (fun x=>(x.fst,ρ x.snd)) parts).toList=(us.zipIdx 0).map fun p=>(p.2,p.1):=hmap
      by_cases h0:q*ei.size=0
      ·have hz0:z0=#[]:=by simp only[z0,h0,if_true]
       rw[hz0] at hf
       have hr0:Array.range 0=#[]:=rfl
       simp only[execOp,ho,Sem.run_bind,Instr.buildSlice,hun,C.tok.size hei,Result.andThen_ok,Sem.run_ite,Sem.run_pure,h0,if_true,hm2]
       rw[h0,hr0] at hf
       simp only[Array.map_empty] at hf
       simp[hf,newRow,hr0]
      ·have hz0:z0=zv.cells:=by simp only[z0,h0,if_false]
       rw[hz0] at hf
       simp only[execOp,ho,Sem.run_bind,Instr.buildSlice,hun,C.tok.size hei,Result.andThen_ok,Sem.run_ite,hnl,if_false,Sem.run_pure,h0,hz,hm2]
       simp[hf,newRow]
     obtain⟨M',S⟩:=M.newCells (t:=e) (us:=cells') r1 r2 (by rw[hcl'];exact List.take_length) (w':=w.alloc (.cells cells' e)) rfl rfl rfl rfl
     refine⟨_,_,_,_,hrun,.inl rfl,?_,M',S⟩
     simp only[CV.rel]
     refine⟨Nat.lt_succ_self _,q,by rw[Pm.put_b,Nat.zero_mul],Nat.le_refl _,Nat.le_refl _,fun _=>rfl,?_,?_,hpos⟩
     ·have:q≤q*ei.size:=Nat.le_mul_of_pos_right q hpos
      simp only[maxLen];omega
     ·rw[Pm.put_sz,hcl',Nat.zero_add]
      have hlen:=relL_length r1
      have:cs.length=q*ei.size:=by
       have:∀ {vs cs:List CV},allCells ei.size vs=some cs→cs.length=vs.length*ei.size:=by
        intro vs
        induction vs with
        | nil=>intro cs hc;simp only[allCells,Option.some.injEq] at hc;subst hc;simp
        | cons x vs ih =>
         intro cs hc
         simp only[allCells] at hc
         split at hc
         ·rename_i xs hxs
          cases hb:Nat.beq xs.length ei.size with
          | false=>rw[hb] at hc;cases hc
          | true =>
           rw[hb,cond_true] at hc
           split at hc
           ·rename_i rs hrs
            injection hc with hc;subst hc
            rw[List.length_append,ih hrs,beq_eq hb,List.length_cons,Nat.add_mul];omega
           ·cases hc
         ·cases hc
       rw[this hcs,←relL_length hrel,hul]
      simp only[List.size_toArray];omega
   ·cases hv
  ·cases hv
 ·cases hv
theorem repC_rel {zs:List CV} {zc:List Value} (hz:CV.relL m n zs zc):∀ c,CV.relL m n (repC zs c) ((List.replicate c zc).flatten)
 | 0=>by simp[repC,CV.relL]
 | c+1=>by
  rw[List.replicate_succ,List.flatten_cons]
  exact relL_append hz (repC_rel hz c)
theorem flatten_len {zc:List Value}:∀ c,(List.replicate c zc).flatten.length=c*zc.length
 | 0=>by simp
 | c+1=>by rw[List.replicate_succ,List.flatten_cons,List.length_append,flatten_len c,Nat.add_mul];omega
theorem flatten_get {zc:List Value} (hk:0<zc.length):∀ c i,i<c*zc.length→(List.replicate c zc).flatten[i]?=zc[i % zc.length]?
 | 0,i,hi=>by simp at hi
 | c+1,i,hi=>by
  rw[List.replicate_succ,List.flatten_cons,List.getElem?_append]
  split
  ·rename_i hlt;rw[Nat.mod_eq_of_lt hlt]
  ·rename_i hge
   rw[Nat.add_mul] at hi
   rw[flatten_get hk c _ (by omega)]
   congr 1
   exact (Nat.mod_eq_sub_mod (by omega)).symm
theorem zeroCells_list (z:Array Value) (hk:0<z.size) (c:Nat):(Builtin.zeroCells z c).toList=(List.replicate c z.toList).flatten:=by
 apply List.ext_getElem?
 intro i
 by_cases hi:i<c*z.size
 ·rw[flatten_get (by simpa using hk) c i (by simpa using hi)]
  have hm:i % z.size<z.size:=Nat.mod_lt _ hk
  simp[Builtin.zeroCells,hi,hm]
 ·rw[List.getElem?_eq_none (by simp[Builtin.zeroCells];omega),List.getElem?_eq_none (by rw[flatten_len];simp;omega)]
theorem roomy_spec {a b:Nat} (hr:roomy a b=true):a≤1000000∧a*b≤140737488355328:=by
 unfold roomy at hr
 simp only[Bool.and_eq_true] at hr
 exact⟨ble_le hr.1,ble_le hr.2⟩
theorem makeSlice_run (C:Cx P T) {ρ:Operand→Value} {t e:TypeId} {xn xc:Operand} {sz by':Nat} {z0:List TV} {qq:List Nat} {ei:TI} (ht:T t=some { d:=.slice e,size:=sz,bytes:=by',zero:=z0,eqs:=qq }) (hei:T e=some ei)
  {z:Value} (z1:∀ w,(zeroValue e).run P w=.ok z w) (z4:z.cells.size=ei.size) {n c:Int} {o:Oper} (ho:o.op=.makeSlice t xn xc) (hne:ρ xn=.int .i64 n) (hce:ρ xc=.int .i64 c)
  (h0:0≤n) (hnc:n≤c) (hc63:c<9223372036854775808) (hby:c.toNat*ei.bytes≤140737488355328) :
  (execOp ρ o).run P w=.ok (.value (.slice (some ⟨w.heap.size,0,none⟩) n.toNat c.toNat)) (w.alloc (.cells (Builtin.zeroCells z.cells c.toNat) e)):=by
 obtain⟨d,hdd,hun⟩:=C.tok.under (w:=w) ht
 simp only[Ty.fits] at hdd;subst hdd
 obtain⟨info,ed,i1,i2,i3,i4,i5,_⟩:=C.tok _ _ hei
 have hwn:IntKind.i64.wrap n=n:=by
  unfold IntKind.wrap;simp[IntKind.bits,IntKind.signed];omega
 have hwc:IntKind.i64.wrap c=c:=by
  unfold IntKind.wrap;simp[IntKind.bits,IntKind.signed];omega
 have hcb:¬ ((info.bytes:Int)*c>2 ^ 48):=by
  rw[i5]
  have:(ei.bytes:Int)*c=((c.toNat*ei.bytes:Nat):Int):=by
   rw[Int.natCast_mul,Int.toNat_of_nonneg (by omega),Int.mul_comm]
  rw[this];omega
 have hcl:(Array.range (c.toNat*ei.size)).map (fun i=>(if c.toNat*ei.size=0 then (#[]:Array Value) else z.cells)[i % (if c.toNat*ei.size=0 then (#[]:Array Value) else z.cells).size]!)=Builtin.zeroCells z.cells c.toNat:=by
  by_cases hz:c.toNat*ei.size=0
  ·simp[Builtin.zeroCells,z4,hz]
  ·simp only[hz,if_false,Builtin.zeroCells,z4]
 have hi:(Go.typeInfo e).run P w=.ok info w:=by simp[typeInfo,i1]
 have hcond:((decide (c<0)||decide ((info.bytes:Int)*c>2 ^ 48)||decide (n<0)||decide (n>c)):Bool)=false:=by
  simp only[Bool.or_eq_false_iff,decide_eq_false_iff_not]
  exact⟨⟨⟨by omega,hcb⟩,by omega⟩,by omega⟩
 have hroom:¬ c.toNat*info.bytes>roomBytes:=by rw[i5];unfold roomBytes;omega
 simp only[execOp,ho,Instr.makeSlice,hne,hce,asInt,asIntOf,Sem.run_bind,Sem.run_pure,Result.andThen_ok,hun,hi,hwn,hwc,hcond,Bool.false_eq_true,if_false,askRoom,hroom,C.tok.size hei,Sem.run_ite]
 by_cases hz0:c.toNat*ei.size=0
 ·simp only[hz0,if_true]
  simp only[hz0,if_true] at hcl
  rw[←hcl]
  simp[newRow]
 ·simp only[hz0,if_false]
  simp only[hz0,if_false] at hcl
  rw[z1]
  simp only[Result.andThen_ok]
  rw[hcl]
  simp[newRow]
theorem makeSlice_ef (C:Cx P T) (M:Mem G w0 m h w) {ρ:Operand→Value} {t:TypeId} {xn xc:Operand} {a b v:CV} {h':Hp} (ha:a.rel m h.n (ρ xn)) (hb:b.rel m h.n (ρ xc))
  (hv:makeSliceC T h t a b=some (v,h')) {o:Oper} (ho:o.op=.makeSlice t xn xc):Ef P G w0 m h w (execOp ρ o) v h':=by
 unfold makeSliceC at hv
 split at hv
 ·rename_i e sz by' z0 qq ht
  split at hv
  ·rename_i q c
   split at hv
   ·rename_i ei hei
    split at hv
    ·rename_i zs hzs
     cases hc:(Nat.ble q c&&roomy c ei.bytes&&Nat.blt 0 ei.size) with
     | false=>rw[hc] at hv;cases hv
     | true =>
      rw[hc,cond_true] at hv
      injection hv with hv
      simp only[Prod.mk.injEq] at hv
      obtain⟨rfl,rfl⟩:=hv
      simp only[Bool.and_eq_true] at hc
      obtain⟨⟨c1,c2⟩,c3⟩:=hc
      have hqc:=ble_le c1
      obtain⟨hc6,hby⟩:=roomy_spec c2
      have hpos:=blt_lt c3
      simp only[CV.rel] at ha hb
      obtain⟨hne,_⟩:=ha
      obtain⟨hce,_⟩:=hb
      obtain⟨d,hdd,hun⟩:=C.tok.under (w:=w) ht
      simp only[Ty.fits] at hdd;subst hdd
      obtain⟨z,z1,z2,z3,z4,_⟩:=C.zok _ _ hei
      obtain⟨info,ed,i1,i2,i3,i4,i5,_⟩:=C.tok _ _ hei
      have hrun:=makeSlice_run C ht hei (w:=w) (z:=z) z1 z4 ho hne hce (by simp) (by simp;omega) (by simp;omega) (by simpa using hby)
      simp only[Int.ofNat_eq_natCast,Int.toNat_natCast] at hrun
      have hzl:=zeroCells_list z.cells (by omega) c
      have hrel:=repC_rel (ofTVs_rel (m:=m) (n:=h.n) hzs (z2 w (fun _=>True))) c
      have hone:OneAll (List.replicate c z.cells.toList).flatten:=by
       intro u hu
       obtain⟨l,hl,hu⟩:=List.mem_flatten.1 hu
       rw[List.eq_of_mem_replicate hl] at hu
       exact z3 u hu
      obtain⟨M',S⟩:=M.newCells (t:=e) (us:=Builtin.zeroCells z.cells c) hrel hone (by rw[hzl];exact List.take_length) (w':=w.alloc (.cells (Builtin.zeroCells z.cells c) e)) rfl rfl rfl rfl
      refine⟨_,_,_,_,hrun,.inl rfl,?_,M',S⟩
      simp only[CV.rel]
      refine⟨Nat.lt_succ_self _,c,by rw[Pm.put_b,Nat.zero_mul],hqc,Nat.le_refl _,fun _=>rfl,by simp only[maxLen];omega,?_,hpos⟩
      rw[Pm.put_sz,Nat.zero_add]
      simp[Builtin.zeroCells,z4]
    ·cases hv
   ·cases hv
  ·cases hv
 ·cases hv
end
end
section
section
variable {P:Program} {T:TyTab} {G:Gl} {w0 w:World} {m:Pm} {h:Hp} {n:Nat}
theorem elemsC_sound (M:Mem G w0 m h w) {k:Nat} {x:CV} {u:Value} (hx:x.rel m h.n u) {news:List CV} {q:Nat} (hc:elemsC h.σ k x=some (news,q)) :
  ∃ A cap us,u=.slice A q cap∧CV.relL m h.n news us∧OneAll us∧us.length=q*k∧(q≠0→∃ a,A=some a∧CellsAt w a us):=by
 unfold elemsC at hc
 split at hc
 ·rename_i l k' off len c ex
  split at hc
  ·rename_i e cs hl
   cases hb:Nat.beq k k'&&Nat.ble ((off+len)*k) cs.length with
   | false=>rw[hb] at hc;cases hc
   | true =>
    rw[hb,cond_true] at hc
    injection hc with hc
    simp only[Prod.mk.injEq] at hc
    obtain⟨rfl,rfl⟩:=hc
    simp only[Bool.and_eq_true] at hb
    have hk:=beq_eq hb.1;subst hk
    have hle:=ble_le hb.2
    simp only[CV.rel] at hx
    obtain⟨_,cap,rfl,_⟩:=hx
    obtain⟨us,vs,h1,h2,h3,h4,h5⟩:=M.ob l _ hl
    have hlen:=relL_length h3
    refine⟨_,cap,((vs.drop (off*k)).take (len*k)),rfl,relL_take _ (relL_drop _ h3),fun u hu=>h4 u (List.mem_of_mem_drop (List.mem_of_mem_take hu)),?_,?_⟩
    ·rw[Nat.add_mul] at hle
     rw[List.length_take,List.length_drop];omega
    ·intro _
     exact⟨_,rfl,(cellsAt_block' h1 h5).take _⟩
  ·cases hc
 ·injection hc with hc
  simp only[Prod.mk.injEq] at hc
  obtain⟨rfl,rfl⟩:=hc
  simp only[CV.rel] at hx
  obtain⟨A,rfl⟩:=hx
  exact⟨_,_,[],rfl,by simp[CV.relL],fun u hu=>by simp at hu,by simp,fun h=>absurd rfl h⟩
 ·injection hc with hc
  simp only[Prod.mk.injEq] at hc
  obtain⟨rfl,rfl⟩:=hc
  simp only[CV.rel] at hx
  obtain⟨A,c,rfl⟩:=hx
  exact⟨_,_,[],rfl,by simp[CV.relL],fun u hu=>by simp at hu,by simp,fun h=>absurd rfl h⟩
 ·injection hc with hc
  simp only[Prod.mk.injEq] at hc
  obtain⟨rfl,rfl⟩:=hc
  simp only[CV.rel] at hx
  obtain⟨rfl,_⟩:=hx
  exact⟨_,_,[],rfl,by simp[CV.relL],fun u hu=>by simp at hu,by simp,fun h=>absurd rfl h⟩
 ·cases hc
theorem append_zero (C:Cx P T) {t ty e:TypeId} {ti ei:TI} (ht:T t=some ti) (hd:ti.d=.slice e) (hei:T e=some ei) (A B:Option Addr) (q c c':Nat) (hqc:q≤c) :
  (Builtin.append_ #[t,t] ty #[.slice A q c,.slice B 0 c']).run P w=.ok (.slice A q c) w:=by
 obtain⟨d,hdd,hun⟩:=C.tok.under (w:=w) ht
 rw[hd] at hdd;simp only[Ty.fits] at hdd;subst hdd
 cases A <;> cases B <;> simp[Builtin.append_,hun,C.tok.size hei,Builtin.lenOf,Builtin.firstCells,hqc,storeCells,loadCells,loadCellsFrom]
theorem isSl_spec {b:CV} {u:Value} (hb:isSl b=true) (hr:b.rel m n u):∃ A q c,u=.slice A q c∧q≤c:=by
 unfold isSl at hb
 split at hb
 ·simp only[CV.rel] at hr
  obtain⟨_,cap,rfl,h1,h2,_⟩:=hr
  exact⟨_,_,_,rfl,Nat.le_trans h1 h2⟩
 ·simp only[CV.rel] at hr
  obtain⟨A,rfl⟩:=hr
  exact⟨_,_,_,rfl,Nat.le_refl _⟩
 ·simp only[CV.rel] at hr
  obtain⟨A,c,rfl⟩:=hr
  exact⟨_,_,_,rfl,Nat.zero_le _⟩
 ·simp only[CV.rel] at hr
  obtain⟨rfl,_⟩:=hr
  exact⟨_,_,_,rfl,Nat.le_refl _⟩
 ·cases hb
theorem putC_rel {cs news:List CV} {vs us:List Value} (hr:CV.relL m n cs vs) (hn:CV.relL m n news us) (off:Nat):CV.relL m n (putC off news cs) (vs.take off++(us++vs.drop (off+us.length))):=by
 unfold putC
 rw[relL_length hn]
 exact relL_append (relL_take _ hr) (relL_append hn (relL_drop _ hr))
theorem take_put {us vs new:List Value} {off:Nat} (hv:us.take vs.length=vs) (ho:off≤vs.length) (_hfit:off+new.length≤us.length) :
  (us.take off++new++us.drop (off+new.length)).take (vs.take off++(new++vs.drop (off+new.length))).length=vs.take off++(new++vs.drop (off+new.length)):=by
 have hvl:vs.length≤us.length:=by have:=congrArg List.length hv;rw[List.length_take] at this;omega
 have e1:vs.take off=us.take off:=by rw[←hv,List.take_take];congr 1;omega
 have e2:vs.drop (off+new.length)=(us.drop (off+new.length)).take (vs.length-(off+new.length)):=by
  rw[←hv,List.drop_take];congr 1
  rw[hv]
 rw[e1,e2]
 have e3:us.take off++new++us.drop (off+new.length)=(us.take off++(new++(us.drop (off+new.length)).take (vs.length-(off+new.length))))++(us.drop (off+new.length)).drop (vs.length-(off+new.length)):=by
  rw[List.append_assoc,List.append_assoc,List.append_assoc,List.take_append_drop]
 rw[e3]
 exact List.take_left
theorem append_ef (C:Cx P T) (M:Mem G w0 m h w) {t ty:TypeId} {b x v:CV} {u y:Value} {h':Hp} (hb:b.rel m h.n u) (hx:x.rel m h.n y) (hv:appendC T h t b x=some (v,h')) :
  ∃ z w' m',(Builtin.append_ #[t,t] ty #[u,y]).run P w=.ok z w'∧v.rel m' h'.n z∧Mem G w0 m' h' w'∧Stp m h w m' h' w':=by
 unfold appendC at hv
 split at hv
 ·rename_i e sz by' z0 qq ht
  split at hv
  ·rename_i ei hei
   split at hv
   ·rename_i news q hc
    obtain⟨A,cap,us,rfl,n1,n2,n3,n4⟩:=elemsC_sound M hx hc
    cases hq:Nat.beq q 0 with
    | true =>
     rw[hq,cond_true] at hv
     have hq:=beq_eq hq;subst hq
     cases hs:isSl b with
     | false=>rw[hs] at hv;cases hv
     | true =>
      rw[hs,cond_true] at hv
      injection hv with hv
      simp only[Prod.mk.injEq] at hv
      obtain⟨rfl,rfl⟩:=hv
      obtain⟨A',q',c',rfl,hle⟩:=isSl_spec hs hb
      exact⟨_,w,m,append_zero C ht rfl hei A' A q' c' cap hle,hb,M,Stp.refl _ _ _⟩
    | false =>
     rw[hq,cond_false] at hv
     have hq0:q≠0:=beq_false.1 hq
     obtain⟨ad,rfl,hcell⟩:=n4 hq0
     cases hpos:Nat.blt 0 ei.size with
     | false=>rw[hpos] at hv;cases hv
     | true =>
      rw[hpos,cond_true] at hv
      have hpos:=blt_lt hpos
      obtain⟨info,d,i1,i2,i3,_⟩:=C.tok _ _ ht
      simp only[Ty.fits] at i3;subst i3
      obtain⟨einfo,ed,e1,e2,e3,e4,e5,⟨zv,z1,z2,z3,z4⟩,_⟩:=C.tok _ _ hei
      have hus:us.length=q*einfo.size:=by rw[n3,e4]
      have hhave:∀ j u,us[j]?=some u→w.cell? (ad.add j)=some u:=hcell
      have grown:∀ (need old:Nat) (vs:List Value) (content:List CV),CV.relL m h.n content vs→OneAll vs→vs.length=need*ei.size→need≤1000000 →
        let w':=w.drew.alloc (.cells (vs.toArray++Builtin.zeroCells zv.cells (grownCap w need old e-need)) e)
        (CV.sl h.n ei.size 0 need need false).rel (m.put h.n w.heap.size ((grownCap w need old e)*ei.size)) (h.n+1) (.slice (some ⟨w.heap.size,0,none⟩) need (grownCap w need old e)) ∧
         (vs.toArray++Builtin.zeroCells zv.cells (grownCap w need old e-need)).size=(grownCap w need old e)*ei.size ∧
         ((vs.toArray++Builtin.zeroCells zv.cells (grownCap w need old e-need)).toList.take vs.length=vs)∧w'.heap=w.heap.push (.cells (vs.toArray++Builtin.zeroCells zv.cells (grownCap w need old e-need)) e (0,0)):=by
       intro need old vs content hr ho hlen hneed
       have hge:=grownCap_ge w need old e
       have hcm:grownCap w need old e≤maxLen:=grownCap_le_maxLen w need old e (by simp only[maxLen];omega)
       refine⟨?_,?_,?_,rfl⟩
       ·simp only[CV.rel]
        exact⟨Nat.lt_succ_self _,_,by rw[Pm.put_b,Nat.zero_mul],Nat.le_refl _,hge,(fun h=>by cases h),hcm,by rw[Pm.put_sz,Nat.zero_add];exact Nat.le_refl _,hpos⟩
       ·simp only[Array.size_append,List.size_toArray,size_zeroCells,z4,hlen,←Nat.add_mul]
        congr 1;omega
       ·simp
      split at hv
      ·cases hr:roomy q ei.bytes with
       | false=>rw[hr] at hv;cases hv
       | true =>
        rw[hr,cond_true] at hv
        injection hv with hv
        simp only[Prod.mk.injEq] at hv
        obtain⟨rfl,rfl⟩:=hv
        obtain⟨hq6,hqb⟩:=roomy_spec hr
        simp only[CV.rel] at hb
        obtain⟨rfl,_⟩:=hb
        have hrun:=run_append_nil (P:=P) w t ty e einfo zv i2 e1 z1 ad q cap us hus hhave (by omega) (by omega) (by rw[e5];omega)
        obtain⟨g1,g2,g3,g4⟩:=grown q 0 us news n1 n2 n3 hq6
        obtain⟨M',S⟩:=M.newCells (t:=e) n1 n2 g3 (by exact rfl) (by exact rfl) (by exact rfl) g4
        rw[g2] at M' S
        exact⟨_,_,_,hrun,g1,M',S⟩
      ·cases hr:roomy q ei.bytes with
       | false=>rw[hr] at hv;cases hv
       | true =>
        rw[hr,cond_true] at hv
        injection hv with hv
        simp only[Prod.mk.injEq] at hv
        obtain⟨rfl,rfl⟩:=hv
        obtain⟨hq6,hqb⟩:=roomy_spec hr
        simp only[CV.rel] at hb
        obtain⟨A',rfl⟩:=hb
        have hrun:=run_append_grow (P:=P) w t ty e einfo zv i2 e1 z1 A' 0 0 [] (by simp) (fun j v h=>by simp at h) ad q cap us hus hhave (by omega) (by omega) (growslice_fits (by omega) (by rw[e5,Nat.zero_add];omega))
        obtain⟨g1,g2,g3,g4⟩:=grown q 0 us news n1 n2 n3 hq6
        obtain⟨M',S⟩:=M.newCells (t:=e) n1 n2 g3 (by exact rfl) (by exact rfl) (by exact rfl) g4
        rw[g2] at M' S
        simp only[Nat.zero_add,Array.empty_append] at hrun
        exact⟨_,_,_,hrun,g1,M',S⟩
      ·rename_i l k len c ex
       split at hv
       ·rename_i e' cs hl
        cases hb1:(Nat.beq k ei.size&&Nat.beq e e'&&Nat.ble (len*k) cs.length) with
        | false=>rw[hb1] at hv;cases hv
        | true =>
         rw[hb1,cond_true] at hv
         simp only[Bool.and_eq_true] at hb1
         obtain⟨⟨b1,b2⟩,b3⟩:=hb1
         have b1:=beq_eq b1;subst b1
         have b2:=beq_eq b2;subst b2
         have b3:=ble_le b3
         simp only[CV.rel] at hb
         obtain⟨hln,cap',rfl,c1,c2,c3,c4,c5,c6⟩:=hb
         obtain⟨bl,vs,p1,p2,p3,p4,p5⟩:=M.ob l _ hl
         have hvl:=relL_length p3
         have hbsz:vs.length≤bl.size:=by
          have hq:=List.length_take (i:=vs.length) (l:=bl.toList)
          rw[p5] at hq
          have hq2:bl.toList.length=bl.size:=Array.length_toList
          omega
         rw[Nat.zero_add] at c5
         have inplace:len+q≤cap'→(Builtin.append_ #[t,t] ty #[.slice (some ⟨m.b l,0*ei.size,none⟩) len cap',.slice (some ad) q cap]).run P w =
           .ok (.slice (some ⟨m.b l,0,none⟩) (len+q) cap') (w.setRow (m.b l) (bl.toList.take (len*ei.size)++us++bl.toList.drop (len*ei.size+us.length)).toArray):=by
          intro hroom
          rw[Nat.zero_mul]
          have hfit:len*einfo.size+us.length≤bl.size:=by
           rw[e4,n3,←Nat.add_mul,p2]
           exact Nat.le_trans (Nat.mul_le_mul_right _ hroom) c5
          have:=run_append_room (P:=P) w t ty e einfo i2 e1 (m.b l) len cap' bl p1 ad q cap us hus hhave n2 hroom hfit
          rw[e4] at this
          exact this
         have hfit:len+q≤cap'→len*ei.size+us.length≤bl.toList.length:=by
          intro hroom
          rw[n3,←Nat.add_mul,Array.length_toList,p2]
          exact Nat.le_trans (Nat.mul_le_mul_right _ hroom) c5
         cases hin:Nat.ble (len+q) c with
         | true =>
          rw[hin,cond_true] at hv
          injection hv with hv
          simp only[Prod.mk.injEq] at hv
          obtain⟨rfl,rfl⟩:=hv
          have hin:=ble_le hin
          have hroom:len+q≤cap':=Nat.le_trans hin c2
          obtain⟨M',S⟩:=M.write (o':=.cells e (putC (len*ei.size) news cs)) hl rfl (w':=w.setRow (m.b l) (bl.toList.take (len*ei.size)++us++bl.toList.drop (len*ei.size+us.length)).toArray) rfl rfl rfl (by simp) (fun b hb=>setRow_other w _ b _ hb) (by
           refine⟨_,_,setRow_heap w _ bl _ e _ p1,?_,putC_rel p3 n1 _,?_,?_⟩
           ·have:=hfit hroom
            simp only[Array.length_toList] at this
            rw[←p2];simp;omega
           ·intro u hu
            simp only[List.mem_append] at hu
            rcases hu with hu | hu | hu
            ·exact p4 u (List.mem_of_mem_take hu)
            ·exact n2 u hu
            ·exact p4 u (List.mem_of_mem_drop hu)
           ·exact take_put p5 (by omega) (hfit hroom))
          refine⟨_,_,m,inplace hroom,?_,M',S⟩
          simp only[CV.rel]
          exact⟨hln,cap',by rw[Nat.zero_mul],hin,c2,c3,c4,by rw[Nat.zero_add];exact c5,c6⟩
         | false =>
          rw[hin,cond_false] at hv
          have hin:¬ (len+q≤c):=fun h=>by rw[Nat.ble_eq_true_of_le h] at hin;cases hin
          cases hr:roomy (len+q) ei.bytes with
          | false=>rw[hr] at hv;cases hv
          | true =>
           rw[hr,cond_true] at hv
           obtain⟨hq6,hqb⟩:=roomy_spec hr
           have hcr:CV.relL m h.n (cs.take (len*ei.size)++news) (vs.take (len*ei.size)++us):=relL_append (relL_take _ p3) n1
           have hco:OneAll (vs.take (len*ei.size)++us):=by
            intro u hu
            rcases List.mem_append.1 hu with hu | hu
            ·exact p4 u (List.mem_of_mem_take hu)
            ·exact n2 u hu
           have holen:(vs.take (len*ei.size)).length=len*ei.size:=by rw[List.length_take];omega
           have hcl:(vs.take (len*ei.size)++us).length=(len+q)*ei.size:=by rw[List.length_append,holen,n3,Nat.add_mul]
           have hgrow:cap'<len+q→(Builtin.append_ #[t,t] ty #[.slice (some ⟨m.b l,0*ei.size,none⟩) len cap',.slice (some ad) q cap]).run P w =
             .ok (.slice (some ⟨w.heap.size,0,none⟩) (len+q) (grownCap w (len+q) cap' e)) (w.drew.alloc (.cells ((vs.take (len*ei.size)++us).toArray++Builtin.zeroCells zv.cells (grownCap w (len+q) cap' e-(len+q))) e)):=by
            intro hlt
            have holds:∀ j v,(vs.take (len*ei.size))[j]?=some v→w.cell? ((⟨m.b l,0*ei.size,none⟩:Addr).add j)=some v:=by
             have:=(cellsAt_block' (o:=0) p1 p5).take (len*ei.size)
             rw[List.drop_zero] at this
             intro j v hj
             rw[Nat.zero_mul]
             exact this j v hj
            have:=run_append_grow (P:=P) w t ty e einfo zv i2 e1 z1 ⟨m.b l,0*ei.size,none⟩ len cap' (vs.take (len*ei.size)) (by rw[holen,e4]) holds ad q cap us hus hhave hlt (by omega) (growslice_fits hlt (by rw[e5];exact hqb))
            simpa using this
           obtain⟨g1,g2,g3,g4⟩:=grown (len+q) cap' _ _ hcr hco hcl hq6
           cases ex with
           | true =>
            rw[cond_true] at hv
            injection hv with hv
            simp only[Prod.mk.injEq] at hv
            obtain⟨rfl,rfl⟩:=hv
            have hcap:=c3 rfl
            obtain⟨M',S⟩:=M.newCells (t:=e) hcr hco g3 (by exact rfl) (by exact rfl) (by exact rfl) g4
            rw[g2] at M' S
            exact⟨_,_,_,hgrow (by omega),g1,M',S⟩
           | false =>
            rw[cond_false] at hv
            injection hv with hv
            simp only[Prod.mk.injEq] at hv
            obtain⟨rfl,rfl⟩:=hv
            by_cases hroom:len+q≤cap'
            ·
             obtain⟨M',S⟩:=M.renew hl rfl (.cells e (cs.take (len*ei.size)++news)) (m.b l) (m.sz l) (w':=w.setRow (m.b l) (bl.toList.take (len*ei.size)++us++bl.toList.drop (len*ei.size+us.length)).toArray) rfl rfl rfl (by simp) (fun b _ hb=>setRow_other w _ b _ hb) (.inl rfl) (by
              refine⟨_,_,by rw[Pm.put_b];exact setRow_heap w _ bl _ e _ p1,?_,CV.relL_ext (Ext.put _ _ _ _) _ _ hcr,hco,?_⟩
              ·have:=hfit hroom
               simp only[Array.length_toList] at this
               rw[Pm.put_sz,←p2];simp;omega
              ·have e5:vs.take (len*ei.size)=bl.toList.take (len*ei.size):=by
                rw[←p5,List.take_take];congr 1;omega
               rw[e5]
               exact List.take_left)
             refine⟨_,_,_,inplace hroom,?_,M',S⟩
             simp only[CV.rel,Hp.new,Hp.put]
             exact⟨Nat.lt_succ_self _,cap',by rw[Pm.put_b,Nat.zero_mul],Nat.le_refl _,hroom,(fun h=>by cases h),c4,by rw[Pm.put_sz,Nat.zero_add];exact c5,c6⟩
            ·obtain⟨M',S⟩:=M.renew hl rfl (.cells e (cs.take (len*ei.size)++news)) w.heap.size ((grownCap w (len+q) cap' e)*ei.size) (w':=w.drew.alloc (.cells ((vs.take (len*ei.size)++us).toArray++Builtin.zeroCells zv.cells (grownCap w (len+q) cap' e-(len+q))) e)) rfl rfl rfl (by rw[g4];simp) (fun b hb _=>by rw[g4,Array.getElem?_push,if_neg (by omega)]) (.inr (Nat.le_refl _)) (by
              exact⟨_,_,by rw[Pm.put_b,g4];simp,by rw[Pm.put_sz];exact g2,CV.relL_ext (Ext.put _ _ _ _) _ _ hcr,hco,g3⟩)
             exact⟨_,_,_,hgrow (by omega),g1,M',S⟩
       ·cases hv
      ·cases hv
   ·cases hv
  ·cases hv
 ·cases hv
theorem appendZ_ef (C:Cx P T) (M:Mem G w0 m h w) {t t' ty:TypeId} {b x v:CV} {u y:Value} {h':Hp} {kn:IntKind} {s1 s2:Nat} {z1':List TV} {q1:List Nat} (ht':T t'=some ⟨.int kn,s1,s2,z1',q1⟩) (hb:b.rel m h.n u) (hx:x.rel m h.n y) (hv:appendZC T h t b x=some (v,h')) :
  ∃ z w' m',(Builtin.append_ #[t,t'] ty #[u,y]).run P w=.ok z w'∧v.rel m' h'.n z∧Mem G w0 m' h' w'∧Stp m h w m' h' w':=by
 unfold appendZC at hv
 split at hv
 ·rename_i e sz by' z0 qq ht
  split at hv
  ·rename_i q
   split at hv
   ·rename_i ei hei
    split at hv
    ·rename_i zs hzs
     cases hc:(Nat.blt 0 q&&roomy q ei.bytes&&Nat.blt 0 ei.size) with
     | false=>rw[hc] at hv;cases hv
     | true =>
      rw[hc,cond_true] at hv
      injection hv with hv
      simp only[Prod.mk.injEq] at hv
      obtain⟨rfl,rfl⟩:=hv
      simp only[Bool.and_eq_true] at hc
      obtain⟨⟨c1,c2⟩,c3⟩:=hc
      have hq0:=blt_lt c1
      obtain⟨hc6,hby⟩:=roomy_spec c2
      have hpos:=blt_lt c3
      simp only[CV.rel] at hb hx
      obtain⟨rfl,_⟩:=hb
      obtain⟨rfl,_⟩:=hx
      obtain⟨_,d1,_,hun,hdd,_⟩:=C.tok _ _ ht
      simp only[Ty.fits] at hdd;subst hdd
      obtain⟨_,d2,_,hun2,hdd2,_⟩:=C.tok _ _ ht'
      simp only[Ty.fits] at hdd2;subst hdd2
      obtain⟨info,ed,i1,i2,i3,i4,i5,⟨z,z1,z2,z3,z4⟩,_⟩:=C.tok _ _ hei
      have hrun:=Lib.run_append_nil_zeros (P:=P) w t t' ty e info z .i64 kn hun hun2 i1 z1 q hq0 (by omega) (by omega) (by rw[i5];omega)
      have hzl:=zeroCells_list z.cells (by omega) q
      have hrel:=repC_rel (ofTVs_rel (m:=m) (n:=h.n) hzs (z2 w (fun _=>True))) q
      have hone:OneAll (List.replicate q z.cells.toList).flatten:=by
       intro u hu
       obtain⟨l,hl,hu⟩:=List.mem_flatten.1 hu
       rw[List.eq_of_mem_replicate hl] at hu
       exact z3 u hu
      have hge:=grownCap_ge w q 0 e
      have hcm:grownCap w q 0 e≤maxLen:=grownCap_le_maxLen w q 0 e (by simp only[maxLen];omega)
      have hsize:(Builtin.zeroCells z.cells q++Builtin.zeroCells z.cells (grownCap w q 0 e-q)).size=grownCap w q 0 e*ei.size:=by
       simp only[Array.size_append,size_zeroCells,z4,←Nat.add_mul]
       congr 1;omega
      obtain⟨M',S⟩:=M.newCells (t:=e) (us:=Builtin.zeroCells z.cells q++Builtin.zeroCells z.cells (grownCap w q 0 e-q)) hrel hone (by rw[Array.toList_append,hzl];exact List.take_left) (w':=w.drew.alloc (.cells (Builtin.zeroCells z.cells q++Builtin.zeroCells z.cells (grownCap w q 0 e-q)) e)) rfl rfl rfl rfl
      rw[hsize] at M' S
      refine⟨_,_,_,hrun,?_,M',S⟩
      simp only[CV.rel]
      exact⟨Nat.lt_succ_self _,_,by rw[Pm.put_b,Nat.zero_mul],Nat.le_refl _,hge,(fun h=>by cases h),hcm,by rw[Pm.put_sz,Nat.zero_add];exact Nat.le_refl _,hpos⟩
    ·cases hv
   ·cases hv
  ·cases hv
 ·cases hv
end
end
section
section
variable {P:Program} {T:TyTab} {G:Gl} {w0 w:World} {m:Pm} {h:Hp} {n:Nat}
theorem store_ef (C:Cx P T) (M:Mem G w0 m h w) {ρ:Operand→Value} {t:TypeId} {ti:TI} (ht:T t=some ti) {p x:Operand} {pc xc v:CV} {h':Hp} (hp:pc.rel m h.n (ρ p)) (hx:xc.rel m h.n (ρ x))
  (hv:storeC h ti pc xc=some (v,h')) {o:Oper} (ho:o.op=.store t p x):Ef P G w0 m h w (execOp ρ o) v h':=by
 unfold storeC at hv
 split at hv
 ·rename_i l off
  split at hv
  ·rename_i e cs new hl hnew
   cases hb:Nat.beq new.length ti.size&&Nat.ble (off+new.length) cs.length with
   | false=>rw[hb] at hv;cases hv
   | true =>
    rw[hb,cond_true] at hv
    injection hv with hv
    simp only[Prod.mk.injEq] at hv
    obtain⟨rfl,rfl⟩:=hv
    simp only[Bool.and_eq_true] at hb
    have b1:=beq_eq hb.1
    have b2:=ble_le hb.2
    simp only[CV.rel] at hp
    obtain⟨hln,hpe⟩:=hp
    obtain⟨g1,g2⟩:=cellsC_rel hx hnew
    have gl:=relL_length g1
    obtain⟨bl,vs,p1,p2,p3,p4,p5⟩:=M.ob l _ hl
    have hvl:=relL_length p3
    have hq:=List.length_take (i:=vs.length) (l:=bl.toList)
    rw[p5] at hq
    have hq2:bl.toList.length=bl.size:=Array.length_toList
    have hfit:off+(ρ x).cells.toList.length≤bl.toList.length:=by omega
    have hrun:=run_store_block (w:=w) (g:=m.b l) (off:=off) (t:=e) (us:=bl.toList) (v:=ρ x) C.tok ht (by simpa using p1) rfl (by rw[gl];exact b1) hfit g2
    rw[add_at,Nat.zero_add] at hrun
    obtain⟨M',S⟩:=M.write (o':=.cells e (putC off new cs)) hl rfl (w':=w.setRow (m.b l) (bl.toList.take off++(ρ x).cells.toList++bl.toList.drop (off+(ρ x).cells.toList.length)).toArray) rfl rfl rfl (by simp) (fun b hb=>setRow_other w _ b _ hb) (by
     refine⟨_,_,setRow_heap w _ bl _ e _ p1,?_,putC_rel p3 g1 _,?_,?_⟩
     ·rw[←p2]
      simp only[List.size_toArray,List.length_append,List.length_take,List.length_drop]
      omega
     ·intro u hu
      simp only[List.mem_append] at hu
      rcases hu with hu | hu | hu
      ·exact p4 u (List.mem_of_mem_take hu)
      ·exact g2 u hu
      ·exact p4 u (List.mem_of_mem_drop hu)
     ·exact take_put p5 (by omega) hfit)
    refine⟨.skip,undef,_,m,?_,.inr ⟨rfl,rfl⟩,rel_unit,M',S⟩
    simp[execOp,ho,hpe,hrun]
  ·cases hv
 ·cases hv
theorem alloc_lt (w:World) (o:Obj):w.heap.size<(w.alloc o).heap.size:=by
 show w.heap.size<(w.heap.push o).size
 simp
theorem alloc_old (w:World) (o:Obj) (b:Nat) (hb:b<w.heap.size):(w.alloc o).heap[b]?=w.heap[b]?:=Below.heap_alloc _ _ _ hb
theorem makeMap_ef (M:Mem G w0 m h w) {ρ:Operand→Value} {t:TypeId} {o:Oper} (ho:o.op=.makeMap t none):Ef P G w0 m h w (execOp ρ o) (.mp h.n) (h.new (.map [] 0)):=by
 obtain⟨M',S⟩:=M.new (.map [] 0) 0 (w':=w.alloc (.map #[] 0)) rfl rfl rfl (alloc_lt _ _) (alloc_old _ _) (by
  exact⟨#[],by rw[Pm.put_b];exact heap_alloc_new w _,rfl⟩)
 refine⟨_,.map (some w.heap.size),_,_,?_,.inl rfl,?_,M',S⟩
 ·simp[execOp,ho,Instr.makeMap,newObj];rfl
 ·simp only[CV.rel];exact⟨Nat.lt_succ_self _,by rw[Pm.put_b]⟩
theorem entsRel_append:∀ {es fs:List (CV×CV×Nat)} {l k:List MapEntry},entsRel m n es l→entsRel m n fs k→entsRel m n (es++fs) (l++k)
 | [],fs,l,k,h1,h2=>by simp only[entsRel] at h1;subst h1;simpa using h2
 | (a,b,c)::es,fs,l,k,h1,h2=>by
  simp only[entsRel] at h1
  obtain⟨x,l',rfl,q1,q2,q3,q4⟩:=h1
  simp only[List.cons_append,entsRel]
  exact⟨x,_,rfl,q1,q2,q3,entsRel_append q4 h2⟩
theorem entsRel_nth:∀ {i:Nat} {es:List (CV×CV×Nat)} {l:List MapEntry} {a b:CV} {c:Nat},entsRel m n es l→nth es i=some (a,b,c)→∃ x,l[i]?=some x∧a.rel m n x.key∧b.rel m n x.val∧x.born=c
 | _,[],l,a,b,c,h1,h2=>by simp[nth] at h2
 | 0,(a',b',c')::es,l,a,b,c,h1,h2=>by
  simp only[nth,Option.some.injEq,Prod.mk.injEq] at h2
  obtain⟨rfl,rfl,rfl⟩:=h2
  simp only[entsRel] at h1
  obtain⟨x,l',rfl,q1,q2,q3,q4⟩:=h1
  exact⟨x,rfl,q1,q2,q3⟩
 | i+1,(a',b',c')::es,l,a,b,c,h1,h2=>by
  simp only[nth] at h2
  simp only[entsRel] at h1
  obtain⟨x,l',rfl,q1,q2,q3,q4⟩:=h1
  obtain⟨y,r1,r2⟩:=entsRel_nth q4 h2
  exact⟨y,by simpa using r1,r2⟩
theorem entsRel_set:∀ {i:Nat} {es:List (CV×CV×Nat)} {l:List MapEntry} {a b:CV} {c:Nat} {y:MapEntry},entsRel m n es l→a.rel m n y.key→b.rel m n y.val→y.born=c→entsRel m n (setNth (a,b,c) i es) (l.set i y)
 | i,[],l,a,b,c,y,h1,_,_,_=>by
  simp only[entsRel] at h1;subst h1
  cases i <;> simp[setNth,entsRel]
 | 0,(a',b',c')::es,l,a,b,c,y,h1,k1,k2,k3=>by
  simp only[entsRel] at h1
  obtain⟨x,l',rfl,q1,q2,q3,q4⟩:=h1
  simp only[setNth,List.set_cons_zero,entsRel]
  exact⟨y,l',rfl,k1,k2,k3,q4⟩
 | i+1,(a',b',c')::es,l,a,b,c,y,h1,k1,k2,k3=>by
  simp only[entsRel] at h1
  obtain⟨x,l',rfl,q1,q2,q3,q4⟩:=h1
  simp only[setNth,List.set_cons_succ,entsRel]
  exact⟨x,_,rfl,q1,q2,q3,entsRel_set q4 k1 k2 k3⟩
theorem sameNow_bits {td:TypeDesc} {a b:Value} (h:Instr.sameNow td a b=some true):Instr.sameBits 10000 b a=true:=by
 unfold Instr.sameNow at h
 split at h
 ·split at h
  ·rename_i h1
   subst h1
   simp only[Option.some.injEq] at h
   have h:=eq_of_beq h
   subst h
   simp[Instr.sameBits]
  ·cases h
 ·simp only[Option.some.injEq] at h
  rename_i x y
  rw[bytes_beq] at h
  have h:bytesOf x=bytesOf y:=eqB_iff.1 h
  simp only[Instr.sameBits]
  rw[bytes_beq]
  exact eqB_iff.2 h.symm
 ·simp only[Option.some.injEq] at h
  have h:=eq_of_beq h
  subst h
  simp[Instr.sameBits]
 ·cases h
theorem findNow_hit {td:TypeDesc} {k:Value}:∀ {l:List MapEntry} {i j:Nat} {u:Value},Instr.findNow td k l i=some (some (j,u))→∃ x,i≤j∧l[j-i]?=some x∧Instr.sameNow td k x.key=some true
 | [],i,j,u,h=>by simp[Instr.findNow] at h
 | e::l,i,j,u,h=>by
  simp only[Instr.findNow] at h
  split at h
  ·rename_i hs
   simp only[Option.some.injEq,Prod.mk.injEq] at h
   obtain⟨rfl,_⟩:=h
   exact⟨e,Nat.le_refl _,by simp,hs⟩
  ·obtain⟨x,h1,h2,h3⟩:=findNow_hit h
   refine⟨x,by omega,?_,h3⟩
   have:j-i=(j-(i+1))+1:=by omega
   rw[this];simpa using h2
  ·cases h
theorem mapSet_ef (C:Cx P T) (M:Mem G w0 m h w) {t:TypeId} {q k x v:CV} {h':Hp} {qv kv xv:Value} (hq:q.rel m h.n qv) (hk:k.rel m h.n kv) (hx:x.rel m h.n xv)
  (hv:mapSetC T h t q k x=some (v,h')):∃ w',(Instr.mapUpdate t qv kv xv).run P w=.ok () w'∧v=unitC∧Mem G w0 m h' w'∧Stp m h w m h' w':=by
 unfold mapSetC at hv
 split at hv
 ·rename_i kt et sz by' z qq l ht
  obtain⟨d,hd,hun⟩:=C.tok.under (w:=w) ht
  simp only[Ty.fits] at hd;subst hd
  split at hv
  ·rename_i ki es clock hki hl
   obtain⟨kd,hkd,hkun⟩:=C.tok.under (w:=w) hki
   cases hkt:keyTy ki.d with
   | false=>rw[hkt] at hv;cases hv
   | true =>
    rw[hkt,cond_true] at hv
    simp only[CV.rel] at hq
    obtain⟨hln,rfl⟩:=hq
    obtain⟨es',h1,h2⟩:=M.ob l _ hl
    have hlt:m.b l<w.heap.size:=(Array.getElem?_eq_some_iff.1 h1).1
    have hset:∀ (o':Obj),({ w with heap:=w.heap.setIfInBounds (m.b l) o' }:World).heap[m.b l]?=some o':=fun o'=>by simp[hlt]
    have hother:∀ (o':Obj) b,b≠m.b l→({ w with heap:=w.heap.setIfInBounds (m.b l) o' }:World).heap[b]?=w.heap[b]?:=fun o' b hb=>by simp[hb.symm]
    split at hv
    ·rename_i i vv hf
     split at hv
     ·rename_i a0 b0 c0 hnth
      injection hv with hv
      simp only[Prod.mk.injEq] at hv
      obtain⟨rfl,rfl⟩:=hv
      obtain⟨r',g1,g2⟩:=findC_spec hkd hk 0 h2 hf
      rcases r' with _ | ⟨j',uu⟩
      ·exact g2.elim
      ·have hji:=g2.1
       rw[hji] at g1
       obtain⟨ent,e1,e2,e3⟩:=findNow_hit g1
       rw[Nat.sub_zero] at e2
       obtain⟨ent',f1,f2,f3,f4⟩:=entsRel_nth h2 hnth
       rw[e2] at f1;injection f1 with f1;subst f1
       have e2':es'[i]?=some ent:=by simpa using e2
       have hbits:=sameNow_bits e3
       have hlist:(es'.modify i fun e=>{ e with key:=kv,val:=xv }).toList=es'.toList.set i { ent with key:=kv,val:=xv }:=by
        apply List.ext_getElem?
        intro j
        rw[List.getElem?_set]
        simp only[Array.getElem?_toList,Array.getElem?_modify]
        by_cases hij:i=j
        ·subst hij
         have hi1:i<es'.size:=(Array.getElem?_eq_some_iff.1 e2').1
         simp only[e2',if_true,Option.map_some,Array.length_toList,hi1]
        ·simp[hij]
       obtain⟨M',S⟩:=M.write (o':=.map (setNth (k,x,c0) i es) clock) hl rfl (w':={ w with heap:=w.heap.setIfInBounds (m.b l) (.map (es'.modify i fun e=>{ e with key:=kv,val:=xv }) clock) }) rfl rfl rfl (by simp) (fun b hb=>hother _ b hb) (by
        refine⟨_,hset _,?_⟩
        rw[hlist]
        exact entsRel_set h2 hk hx f4)
       refine⟨_,?_,rfl,M',S⟩
       simp[Instr.mapUpdate,hun,getObj,setObj,Sem.run,h1,checkKey_run hkd hkt hkun,Instr.findKey,hkun,g1,e2',Instr.keyThatStays,hbits]
     ·cases hv
    ·rename_i hf
     injection hv with hv
     simp only[Prod.mk.injEq] at hv
     obtain⟨rfl,rfl⟩:=hv
     obtain⟨r',g1,g2⟩:=findC_spec hkd hk 0 h2 hf
     rcases r' with _ | ⟨j',uu⟩
     ·obtain⟨M',S⟩:=M.write (o':=.map (es++[(k,x,clock)]) (clock+1)) hl rfl (w':={ w with heap:=w.heap.setIfInBounds (m.b l) (.map (es'.push { key:=kv,val:=xv,born:=clock }) (clock+1)) }) rfl rfl rfl (by simp) (fun b hb=>hother _ b hb) (by
       refine⟨_,hset _,?_⟩
       rw[Array.toList_push]
       exact entsRel_append h2 (by simp only[entsRel];exact⟨_,_,rfl,hk,hx,rfl,rfl⟩))
      refine⟨_,?_,rfl,M',S⟩
      simp[Instr.mapUpdate,hun,getObj,setObj,Sem.run,h1,checkKey_run hkd hkt hkun,Instr.findKey,hkun,g1]
     ·exact g2.elim
    ·cases hv
  ·cases hv
 ·cases hv
theorem newObj_run (o:Obj):(newObj o).run P w=.ok w.heap.size (w.alloc o):=rfl
theorem range_ef (C:Cx P T) (M:Mem G w0 m h w) {t:TypeId} {x v:CV} {h':Hp} {xv:Value} (hx:x.rel m h.n xv) (hv:rangeC T h t x=some (v,h')) :
  ∃ z w' m',(Instr.range t xv).run P w=.ok z w'∧v.rel m' h'.n z∧Mem G w0 m' h' w'∧Stp m h w m' h' w':=by
 have hpush:∀ (o:Obj),(w.alloc o).heap[w.heap.size]?=some o:=fun o=>heap_alloc_new w o
 have hold:∀ (o:Obj) b,b<w.heap.size→(w.alloc o).heap[b]?=w.heap[b]?:=fun o b hb=>alloc_old w o b hb
 unfold rangeC at hv
 split at hv
 ·rename_i sz by' z qq ht
  obtain⟨d,hd,hun⟩:=C.tok.under (w:=w) ht
  simp only[Ty.fits] at hd;subst hd
  split at hv
  ·injection hv with hv
   simp only[Prod.mk.injEq] at hv
   obtain⟨rfl,rfl⟩:=hv
   simp only[CV.rel] at hx
   obtain⟨s,rfl,rfl⟩:=hx
   obtain⟨M',S⟩:=M.new (.sit (bytesOf s) 0) 0 (w':=w.alloc (.stringIter s 0)) rfl rfl rfl (alloc_lt _ _) (hold _) (by exact⟨s,by rw[Pm.put_b];exact hpush _,rfl⟩)
   exact⟨_,_,_,by simp only[Instr.range,Sem.run_bind,hun,Result.andThen_ok,Sem.run_pure,newObj_run],rel_new,M',S⟩
  ·cases hv
 ·rename_i kt et sz by' z qq ht
  obtain⟨d,hd,hun⟩:=C.tok.under (w:=w) ht
  simp only[Ty.fits] at hd;subst hd
  split at hv
  ·injection hv with hv
   simp only[Prod.mk.injEq] at hv
   obtain⟨rfl,rfl⟩:=hv
   simp only[CV.rel] at hx
   obtain⟨rfl,_⟩:=hx
   obtain⟨M',S⟩:=M.new (.mit none 0 [] 0) 0 (w':=w.alloc (.mapIter none 0 #[] 0)) rfl rfl rfl (alloc_lt _ _) (hold _) (by exact⟨(fun x h=>by cases h),(by rw[Pm.put_b];exact hpush _)⟩)
   exact⟨_,_,_,by simp only[Instr.range,Sem.run_bind,hun,Result.andThen_ok,Sem.run_pure,newObj_run],rel_new,M',S⟩
  ·rename_i l
   split at hv
   ·rename_i es clock hl
    injection hv with hv
    simp only[Prod.mk.injEq] at hv
    obtain⟨rfl,rfl⟩:=hv
    simp only[CV.rel] at hx
    obtain⟨hln,rfl⟩:=hx
    obtain⟨es',h1,h2⟩:=M.ob l _ hl
    obtain⟨M',S⟩:=M.new (.mit (some l) clock [] clock) 0 (w':=w.alloc (.mapIter (some (m.b l)) clock #[] clock)) rfl rfl rfl (alloc_lt _ _) (hold _) (by
     refine⟨fun x hx=>by injection hx with hx;subst hx;exact Nat.lt_succ_of_lt hln,?_⟩
     rw[Pm.put_b,hpush]
     simp[(Ext.put m h.n w.heap.size 0).b l hln])
    refine⟨_,_,_,?_,rel_new,M',S⟩
    have hget:(getObj (m.b l)).run P w=.ok (.map es' clock) w:=by simp[getObj,Sem.run,h1]
    simp only[Instr.range,Sem.run_bind,hun,Result.andThen_ok,Sem.run_pure,hget,newObj_run]
   ·cases hv
  ·cases hv
 ·cases hv
theorem decode_ascii (s:ByteArray) (pos b:Nat) (hb:(bytesOf s)[pos]?=some b) (h7:b<128):Utf8.decode s pos=(b,1)∧pos<s.size:=by
 unfold bytesOf at hb
 rw[List.getElem?_map] at hb
 cases hq:s.data.toList[pos]? with
 | none=>rw[hq] at hb;cases hb
 | some c =>
  rw[hq] at hb
  simp only[Option.map_some,Option.some.injEq] at hb
  have hlt:pos<s.size:=by
   have:=(List.getElem?_eq_some_iff.1 hq).1
   simpa using this
  have hget:(s.get! pos).toNat=b:=by
   rw[←hb]
   congr 1
   have hq':s.data[pos]?=some c:=by simpa using hq
   show s.data[pos]! = c
   rw[Array.getElem!_eq_getD,Array.getD_eq_getD_getElem?,hq'];rfl
  refine⟨?_,hlt⟩
  unfold Utf8.decode
  simp only[Nat.add_zero,hget]
  rw[if_pos h7]
theorem leftC_spec {seen:List Nat}:∀ {es:List (CV×CV×Nat)} {l:List MapEntry},entsRel m n es l→entsRel m n (leftC seen es) (l.filter fun e=>!seen.contains e.born)
 | [],l,h=>by simp only[entsRel] at h;subst h;simp[leftC,entsRel]
 | (a,b,c)::es,l,h=>by
  simp only[entsRel] at h
  obtain⟨x,l',rfl,q1,q2,q3,q4⟩:=h
  have hm:∀ (l:List Nat),memN c l=l.contains c:=by
   intro l
   induction l with
   | nil=>rfl
   | cons y l ih =>
    simp only[memN,ih,List.contains_cons]
    congr 1
    rw[Bool.eq_iff_iff,beq_true];simp
  simp only[leftC,hm]
  rw[List.filter_cons]
  rw[q3]
  cases hc:seen.contains c with
  | true=>simpa [hc] using leftC_spec q4
  | false =>
   simp only[cond_false,Bool.not_false,if_true,entsRel]
   exact⟨x,_,rfl,q1,q2,q3,leftC_spec q4⟩
theorem allFrom_spec {k:Nat}:∀ {es:List (CV×CV×Nat)} {l:List MapEntry},entsRel m n es l→allFrom k es=l.all (fun e=>decide (e.born≥k))
 | [],l,h=>by simp only[entsRel] at h;subst h;rfl
 | (a,b,c)::es,l,h=>by
  simp only[entsRel] at h
  obtain⟨x,l',rfl,q1,q2,q3,q4⟩:=h
  simp only[allFrom,List.all_cons,allFrom_spec q4,q3]
  congr 1
  rw[Bool.eq_iff_iff,Nat.ble_eq];simp
theorem isE_ents {es:List (CV×CV×Nat)} {l:List MapEntry} (h:entsRel m n es l):isE es=l.isEmpty:=by
 cases es with
 | nil=>simp only[entsRel] at h;subst h;rfl
 | cons e es =>
  obtain⟨a,b,c⟩:=e
  simp only[entsRel] at h
  obtain⟨x,l',rfl,_⟩:=h
  rfl
theorem next_ef (M:Mem G w0 m h w) {x v:CV} {s:Bool} {ty:TypeId} {h':Hp} {xv:Value} (hx:x.rel m h.n xv) (hv:nextC h x s=some (v,h')) :
  ∃ z w',(Instr.next xv s ty).run P w=.ok z w'∧v.rel m h'.n z∧Mem G w0 m h' w'∧Stp m h w m h' w':=by
 have over:∀ {n:Nat},(CV.tup [cb false]).rel m n (.tuple #[.bool false]):=by
  intro n
  simp only[CV.rel];exact⟨[.bool false],rfl,by simp only[CV.relL];exact⟨_,_,rfl,rel_cb,rfl⟩⟩
 unfold nextC at hv
 split at hv
 ·rename_i l
  simp only[CV.rel] at hx
  obtain⟨hln,rfl⟩:=hx
  split at hv
  ·rename_i bs pos hl
   obtain⟨st,h1,h2⟩:=M.ob l _ hl
   subst h2
   have hlt:m.b l<w.heap.size:=(Array.getElem?_eq_some_iff.1 h1).1
   have hget:(getObj (m.b l)).run P w=.ok (.stringIter st pos) w:=by simp[getObj,Sem.run,h1]
   have hlen:(bytesOf st).length=st.size:=by simp[bytesOf]
   cases s with
   | false=>cases hv
   | true =>
    rw[cond_true] at hv
    cases hb:Nat.blt pos (bytesOf st).length with
    | false =>
     rw[hb,cond_false] at hv
     injection hv with hv
     simp only[Prod.mk.injEq] at hv
     obtain⟨rfl,rfl⟩:=hv
     have hge:¬ pos<st.size:=fun hh=>by
      have:=Nat.ble_eq_true_of_le (Nat.succ_le_of_lt (hlen ▸ hh))
      rw[show Nat.ble (pos+1) (bytesOf st).length=Nat.blt pos (bytesOf st).length from rfl,hb] at this;cases this
     refine⟨_,w,?_,over,M,Stp.refl _ _ _⟩
     simp only[Instr.next,Sem.run_bind,Sem.run_pure,hget,Result.andThen_ok,hge,if_false]
    | true =>
     rw[hb,cond_true] at hv
     split at hv
     ·rename_i b hnth
      cases h7:Nat.blt b 128 with
      | false=>rw[h7] at hv;cases hv
      | true =>
       rw[h7,cond_true] at hv
       injection hv with hv
       simp only[Prod.mk.injEq] at hv
       obtain⟨rfl,rfl⟩:=hv
       obtain⟨d1,d2⟩:=decode_ascii st pos b (nth_get hnth) (blt_lt h7)
       obtain⟨M',S⟩:=M.write (o':=.sit (bytesOf st) (pos+1)) hl rfl (w':={ w with heap:=w.heap.setIfInBounds (m.b l) (.stringIter st (pos+1)) }) rfl rfl rfl (by simp) (fun b hb=>by simp[hb.symm]) (by
        exact⟨st,by simp[hlt],rfl⟩)
       refine⟨.tuple #[.bool true,goInt pos,.int .i32 b],_,?_,?_,M',S⟩
       ·have hset:(setObj (m.b l) (.stringIter st (pos+1))).run P w=.ok () { w with heap:=w.heap.setIfInBounds (m.b l) (.stringIter st (pos+1)) }:=by simp[setObj,Sem.run,h1]
        simp only[Instr.next,Sem.run_bind,Sem.run_pure,hget,Result.andThen_ok,d2,if_true,d1,hset]
       ·simp only[CV.rel]
        exact⟨[.bool true,goInt pos,.int .i32 b],rfl,by simp only[CV.relL];exact⟨_,_,rfl,rel_cb,_,_,rfl,rel_ci,_,_,rfl,rel_ci,rfl⟩⟩
     ·cases hv
  ·rename_i since seen stepped hl
   obtain⟨_,h1⟩:=M.ob l _ hl
   have hget:(getObj (m.b l)).run P w=.ok (.mapIter none since seen.toArray stepped) w:=by simpa [getObj,Sem.run] using by simp[h1]
   cases s with
   | true=>cases hv
   | false =>
    rw[cond_false] at hv
    injection hv with hv
    simp only[Prod.mk.injEq] at hv
    obtain⟨rfl,rfl⟩:=hv
    refine⟨_,w,?_,over,M,Stp.refl _ _ _⟩
    simp only[Instr.next,Sem.run_bind,Sem.run_pure,hget,Result.andThen_ok]
  ·rename_i q since seen stepped hl
   obtain⟨hqn,h1⟩:=M.ob l _ hl
   simp only[Option.map_some] at h1
   have hlt:m.b l<w.heap.size:=(Array.getElem?_eq_some_iff.1 h1).1
   have hget:(getObj (m.b l)).run P w=.ok (.mapIter (some (m.b q)) since seen.toArray stepped) w:=by simp[getObj,Sem.run,h1]
   cases s with
   | true=>cases hv
   | false =>
    rw[cond_false] at hv
    split at hv
    ·rename_i es clock hq
     obtain⟨es',g1,g2⟩:=M.ob q _ hq
     have hget2:(getObj (m.b q)).run P w=.ok (.map es' clock) w:=by simp[getObj,Sem.run,g1]
     cases hcond:(!isE seen&&!isE es&&allFrom stepped es) with
     | true=>rw[hcond] at hv;cases hv
     | false =>
      rw[hcond,cond_false] at hv
      have hc2:(!seen.toArray.isEmpty&&!es'.isEmpty&&es'.all fun e=>decide (e.born≥stepped))=false:=by
       rw[isE_ents g2,allFrom_spec g2] at hcond
       have e1:isE seen=seen.isEmpty:=by cases seen <;> rfl
       rw[e1] at hcond
       rw[←hcond]
       congr 1
       ·congr 1
        ·simp
        ·congr 1
         rw[Bool.eq_iff_iff];simp
       ·rw[←Array.all_toList]
      have hleft:=leftC_spec (seen:=seen) g2
      have hfl:(es'.filter fun e=>!seen.toArray.contains e.born).toList=es'.toList.filter fun e=>!seen.contains e.born:=by
       rw[Array.toList_filter];congr 1;funext e;simp
      have hforced:(Question.mapNext 1).forced=true:=rfl
      split at hv
      ·rename_i hl0
       injection hv with hv
       simp only[Prod.mk.injEq] at hv
       obtain⟨rfl,rfl⟩:=hv
       rw[hl0] at hleft
       simp only[entsRel] at hleft
       have hF:(es'.filter fun e=>!seen.toArray.contains e.born)=#[]:=Array.ext' (by rw[hfl,hleft])
       refine⟨_,w,?_,over,M,Stp.refl _ _ _⟩
       simp only[Instr.next,Sem.run_bind,Sem.run_pure,hget,Result.andThen_ok,hget2,hc2,Bool.false_eq_true,if_false,Sem.run_ite,hF]
       simp[hforced]
      ·rename_i e hl0
       obtain⟨ek,ev,eb⟩:=e
       cases hsb:Nat.blt eb since with
       | false=>rw[hsb] at hv;cases hv
       | true =>
        rw[hsb,cond_true] at hv
        injection hv with hv
        simp only[Prod.mk.injEq] at hv
        obtain⟨rfl,rfl⟩:=hv
        rw[hl0] at hleft
        simp only[entsRel] at hleft
        obtain⟨y,l',hy,y1,y2,y3,rfl⟩:=hleft
        have hF:(es'.filter fun e=>!seen.toArray.contains e.born)=#[y]:=Array.ext' (by rw[hfl,hy])
        have hys:y.born<since:=by rw[y3];exact blt_lt hsb
        obtain⟨M',S⟩:=M.write (o':=.mit (some q) since (seen++[eb]) clock) hl rfl (w':={ w with heap:=w.heap.setIfInBounds (m.b l) (.mapIter (some (m.b q)) since (seen++[y.born]).toArray clock) }) rfl rfl rfl (by simp) (fun b hb=>by simp[hb.symm]) (by
         exact⟨hqn,by simp[hlt,y3]⟩)
        have hset:(setObj (m.b l) (.mapIter (some (m.b q)) since (seen++[y.born]).toArray clock)).run P w=.ok () { w with heap:=w.heap.setIfInBounds (m.b l) (.mapIter (some (m.b q)) since (seen++[y.born]).toArray clock) }:=by simp[setObj,Sem.run,h1]
        refine⟨.tuple #[.bool true,y.key,y.val],_,?_,?_,M',S⟩
        ·simp only[Instr.next,Sem.run_bind,Sem.run_pure,hget,Result.andThen_ok,hget2,hc2,Bool.false_eq_true,if_false,Sem.run_ite,hF]
         simp[hforced,hys,hset]
        ·simp only[CV.rel]
         exact⟨[.bool true,y.key,y.val],rfl,by simp only[CV.relL];exact⟨_,_,rfl,rel_cb,_,_,rfl,y1,_,_,rfl,y2,rfl⟩⟩
      ·cases hv
    ·cases hv
  ·cases hv
 ·cases hv
end
end
section
section
variable {P:Program} {T:TyTab} {G:Gl} {w0 w:World} {m:Pm} {h:Hp} {n:Nat}
theorem lkAllC_two {lk:Operand→Option CV} {as:Array Operand} {b x:CV} (hh:lkAllC lk as.toList=some [b,x]):∃ bo xo,as=#[bo,xo]∧lk bo=some b∧lk xo=some x:=by
 have key:∀ (l:List Operand),lkAllC lk l=some [b,x]→∃ bo xo,l=[bo,xo]∧lk bo=some b∧lk xo=some x:=by
  intro l hl
  match l,hl with
  | [],hl=>simp[lkAllC] at hl
  | [p],hl =>
   simp only[lkAllC] at hl
   split at hl
   ·simp at hl
   ·cases hl
  | [p,q],hl =>
   simp only[lkAllC] at hl
   split at hl
   ·rename_i v hv
    split at hl
    ·rename_i vs hvs
     split at hvs
     ·rename_i v2 hv2
      simp only[Option.some.injEq] at hvs hl
      subst hvs
      simp only[List.cons.injEq,and_true] at hl
      obtain⟨rfl,rfl⟩:=hl
      exact⟨p,q,rfl,hv,hv2⟩
     ·cases hvs
    ·cases hl
   ·cases hl
  | p::q::r::l,hl =>
   simp only[lkAllC] at hl
   split at hl
   ·split at hl
    ·rename_i vs hvs
     split at hvs
     ·split at hvs
      ·rename_i ws hws
       split at hws
       ·split at hws
        ·simp only[Option.some.injEq] at hws hvs hl
         subst hws;subst hvs;simp at hl
        ·cases hws
       ·cases hws
      ·cases hvs
     ·cases hvs
    ·cases hl
   ·cases hl
 obtain⟨bo,xo,h1,h2,h3⟩:=key _ hh
 exact⟨bo,xo,by rw[←Array.toArray_toList (xs:=as),h1],h2,h3⟩
theorem effC_sound (C:Cx P T) (M:Mem G w0 m h w) {lk:Operand→Option CV} {ρ:Operand→Value} (hl:∀ x v,lk x=some v→v.rel m h.n (ρ x)) {o:Oper} {v:CV} {h':Hp} (hv:effC T h lk o.op=some (v,h')) :
  Ef P G w0 m h w (execOp ρ o) v h':=by
 unfold effC at hv
 split at hv
 ·rename_i t ho
  split at hv
  ·rename_i ti ht
   split at hv
   ·rename_i cs hcs
    injection hv with hv
    simp only[Prod.mk.injEq] at hv
    obtain⟨rfl,rfl⟩:=hv
    exact alloc_ef C M ht hcs ho
   ·cases hv
  ·cases hv
 ·rename_i t x ho
  split at hv
  ·rename_i xv hx
   split at hv
   ·rename_i cs hcs
    injection hv with hv
    simp only[Prod.mk.injEq] at hv
    obtain⟨rfl,rfl⟩:=hv
    exact box_ef M (hl x _ hx) hcs ho
   ·cases hv
  ·cases hv
 ·rename_i t q parts ho
  exact buildSlice_ef C M hl hv ho
 ·rename_i t q c ho
  split at hv
  ·rename_i a b ha hb
   exact makeSlice_ef C M (hl q a ha) (hl c b hb) hv ho
  ·cases hv
 ·rename_i t p x ho
  split at hv
  ·rename_i ti a xv ht ha hx
   exact store_ef C M ht (hl p a ha) (hl x xv hx) hv ho
  ·cases hv
 ·rename_i t ho
  injection hv with hv
  simp only[Prod.mk.injEq] at hv
  obtain⟨rfl,rfl⟩:=hv
  exact makeMap_ef M ho
 ·rename_i t q k x ho
  split at hv
  ·rename_i a b c ha hb hc
   obtain⟨w',r1,rfl,r3,r4⟩:=mapSet_ef C M (hl q a ha) (hl k b hb) (hl x c hc) hv
   exact⟨.skip,undef,w',m,by simp[execOp,ho,r1],.inr ⟨rfl,rfl⟩,rel_unit,r3,r4⟩
  ·cases hv
 ·rename_i t q k x ho
  split at hv
  ·rename_i a b c ha hb hc
   obtain⟨w',r1,rfl,r3,r4⟩:=mapSet_ef C M (hl q a ha) (hl k b hb) (hl x c hc) hv
   exact⟨.skip,undef,w',m,by simp[execOp,ho,r1],.inr ⟨rfl,rfl⟩,rel_unit,r3,r4⟩
  ·cases hv
 ·rename_i t x ho
  split at hv
  ·rename_i xv hx
   obtain⟨z,w',m',r1,r2,r3,r4⟩:=range_ef C M (hl x xv hx) hv
   exact⟨.value z,z,w',m',by simp[execOp,ho,r1],.inl rfl,r2,r3,r4⟩
  ·cases hv
 ·rename_i x s ho
  split at hv
  ·rename_i xv hx
   obtain⟨z,w',r1,r2,r3,r4⟩:=next_ef (P:=P) (ty:=o.type) M (hl x xv hx) hv
   exact⟨.value z,z,w',m,by simp[execOp,ho,r1],.inl rfl,r2,r3,r4⟩
  ·cases hv
 ·rename_i as ts ho
  split at hv
  ·rename_i b x t t' hbx hts
   have hts':ts=#[t,t']:=by rw[←Array.toArray_toList (xs:=ts),hts]
   cases hb:Nat.beq t t' with
   | false =>
    rw[hb,cond_false] at hv
    split at hv
    ·rename_i kn s1 s2 z1 q1 ht'
     obtain⟨bo,xo,rfl,h1,h2⟩:=lkAllC_two hbx
     subst hts'
     obtain⟨z,w',m',r1,r2,r3,r4⟩:=appendZ_ef (ty:=o.type) C M ht' (hl bo b h1) (hl xo x h2) hv
     exact⟨.value z,z,w',m',by simp[execOp,ho,resolve,invoke,builtin,r1],.inl rfl,r2,r3,r4⟩
    ·cases hv
   | true =>
    rw[hb,cond_true] at hv
    have:=beq_eq hb;subst this
    obtain⟨bo,xo,rfl,h1,h2⟩:=lkAllC_two hbx
    subst hts'
    obtain⟨z,w',m',r1,r2,r3,r4⟩:=append_ef (ty:=o.type) C M (hl bo b h1) (hl xo x h2) hv
    exact⟨.value z,z,w',m',by simp[execOp,ho,resolve,invoke,builtin,r1],.inl rfl,r2,r3,r4⟩
  ·cases hv
 ·cases hv
end
end
end Go.Proofs.YtihbimigddlbaaaGreatDoor.Kx
end
