/- A part of the proof: PmL1 PmL2 PmL3 PmL4. -/
import Derived.Test.YtihbimigddlbaaaGreatDoorUnB
import Derived.Test.YtihbimigddlbaaaGreatDoorSh
import Derived.Shelf.Strings.SlTrimAscii
noncomputable section
set_option linter.all false
namespace Go.Proofs.YtihbimigddlbaaaGreatDoor.L
open Go Go.RowKit Go.Proofs.YtihbimigddlbaaaGreatDoor.Pl
variable [Gm]
set_option maxRecDepth 10000
section
omit [Gm] in
theorem str_of {s:ByteArray} {w:World} {F:Nat→Prop} {v:Value} (h:(tS s).rel w F v):v=.string s:=by
 simp only[tS,TV.rel] at h
 exact h.1
theorem ib_ent:Ent Tryz.prog 220:=fun a w=>Tryz.call220 a w
theorem ib_spec (s:ByteArray) (c:Int):PC Tryz.prog 220 [tS s,tY c] (tI (Lib.indexByte s.data.toList c.toNat.toUInt8)):=by
 intro w F us hg hF hr
 simp only[TV.relL] at hr
 obtain⟨u,us',rfl,h1,v,us2,rfl,h2,rfl⟩:=hr
 have h1:=str_of h1
 subst h1
 simp only[tY,TV.rel] at h2
 obtain⟨rfl,_⟩:=h2
 refine (Tryz.strings_IndexByte s c w).mono ?_
 rintro e w' ⟨rfl,rfl⟩
 exact⟨_,rfl,Below.refl _ _,by simp only[tI,TV.rel];exact⟨trivial,rfl⟩⟩
theorem tp_ent:Ent Tryz.prog 218:=fun a w=>Tryz.call218 a w
theorem tp_spec (s p:ByteArray):PC Tryz.prog 218 [tS s,tS p] (tS ⟨(Lib.trimPrefix s.data.toList p.data.toList).toArray⟩):=by
 intro w F us hg hF hr
 simp only[TV.relL] at hr
 obtain⟨u,us',rfl,h1,v,us2,rfl,h2,rfl⟩:=hr
 have h1:=str_of h1
 subst h1
 have h2:=str_of h2
 subst h2
 refine (Tryz.strings_TrimPrefix s p w).mono ?_
 rintro e w' ⟨rfl,rfl⟩
 exact⟨_,rfl,Below.refl _ _,by simp only[tS,TV.rel];exact⟨trivial,rfl⟩⟩
def sDig:ByteArray:=⟨#[48,49,50,51,52,53,54,55,56,57]⟩
theorem tr_ent:Ent Tryz.prog 219:=fun a w=>Tryz.call219 a w
theorem tr_spec (s:ByteArray) (hs:s.size≤140737488355328):PC Tryz.prog 219 [tS s,tS sDig] (tS ⟨(Lib.trimS s.data.toList sDig.data.toList).toArray⟩):=by
 intro w F us hg hF hr
 simp only[TV.relL] at hr
 obtain⟨u,us',rfl,h1,v,us2,rfl,h2,rfl⟩:=hr
 have h1:=str_of h1
 subst h1
 have h2:=str_of h2
 subst h2
 refine (Any.strings_Trim_laid Tryz.lays160 (by kernel_rfl) s sDig w (by omega) (by decide) (by
  intro j b hb
  have hm:b∈sDig.data.toList:=List.mem_of_getElem? hb
  have key:∀ b∈sDig.data.toList,b.toNat<128:=by decide
  exact key b hm)).mono ?_
 rintro e w' ⟨rfl,hb⟩
 exact⟨_,rfl,hb,by simp only[tS,TV.rel];exact⟨trivial,rfl⟩⟩
end
section
def rowP:ByteArray :=
 { data:=(((([116,114,117,101,32,102,97,108,115,101,32,110,117,108,108,32,116,104,105,115,32,114,101,115,117,108,116,32,105,110,116,32,98,111,111,108,32,43].append [32,45,32,42,32,100,105,118,32,109,111,100,32,110,101,103,32,60,32,60,61,32,61,32,110,111,116,32,97,110,100,32,111,114,32,61,62,32]).append ([105,102,102,32,105,102,32,108,101,116,32,112,105,99,107,32,109,97,116,99,104,32,102,110,32,97,112,112,32,111,102,32,99,97,108,108,32,109].append [97,107,101,32,105,115,32,103,101,116,32,98,105,116,115,32,98,97,110,100,32,98,111,114,32,98,120,111,114,32,98,97,100,100,32,98,110,117])).append (([109,32,115,101,113,32,115,101,116,32,98,97,103,32,109,97,112,32,101,109,112,116,121,32,105,109,97,112,32,108,101,110,32,97,116,32,99,97].append [116,32,99,117,116,32,112,117,116,32,105,110,32,106,111,105,110,32,109,101,101,116,32,108,101,115,115,32,99,97,114,100,32,99,111,117,110,116]).append ([32,108,111,111,107,32,107,101,121,115,32,97,108,108,32,115,111,109,101,32,101,118,101,114,121,32,97,110,121,32,102,111,114,97,108,108,32,101].append [120,105,115,116,115,32,116,114,105,103,103,101,114,32,111,108,100,32,102,114,101,115,104,32,102,117,101,108,32,112,114,101,102,105,120,32,118,97]))).append ((([114,32,115,116,111,114,101,32,110,101,119,32,115,101,110,100,32,99,104,111,111,115,101,32,119,104,105,108,101,32,105,110,118,97,114,105,97,110].append [116,32,100,101,99,114,101,97,115,101,115,32,109,111,100,105,102,105,101,115,32,99,97,115,101,32,97,115,115,101,114,116,32,98,121,32,97,115]).append ([115,117,109,101,32,101,120,112,101,99,116,32,108,101,97,118,101,32,108,97,98,101,108,32,101,97,99,104,32,108,101,109,109,97,32,114,101,113].append [117,105,114,101,115,32,101,110,115,117,114,101,115,32,99,97,108,99,32,114,101,118,101,97,108,32,103,104,111,115,116,32,98,108,111,99,107,32])).append (([100,97,116,97,32,99,111,100,97,116,97,32,101,113,32,115,117,98,32,116,114,97,105,116,32,99,108,97,115,115,32,102,105,101,108,100,32,102].append [117,110,99,116,105,111,110,32,112,114,101,100,105,99,97,116,101,32,116,119,111,115,116,97,116,101,32,108,101,97,115,116,32,103,114,101,97,116]).append ([101,115,116,32,116,112,32,114,101,97,100,115,32,111,112,97,113,117,101,32,109,101,116,104,111,100,32,101,120,116,101,114,110,32,98,111,100,121].append [32,102,117,110,32,109,97,121,98,101,32,109,111,100,117,108,101,32,111,112,101,110,32,114,101,102,105,110,101,115,32,97,98,115,116,114,97,99,116])))).toArray }
theorem fd_ent:Ent Tryz.prog 222:=fun a w=>Tryz.call222 a w
def wordsP:List (List UInt8):=Lib.fields rowP.data.toList
theorem wordsP_len:wordsP.length=116:=by kernel_rfl
theorem rowP_ascii:(rowP.data.toList.all fun b=>decide (b.toNat<128))=true:=by kernel_rfl
def encW (ws:List (List UInt8)):TV:=.sl 1 (ws.map fun l=>[tS ⟨l.toArray⟩])
omit [Gm] in
theorem relR_words {w:World} {F:Nat→Prop}:∀ (ws:List (List UInt8)),TV.relR w F 1 (ws.map fun l=>[tS ⟨l.toArray⟩]) (ws.map fun l=>Value.string ⟨l.toArray⟩)
 | []=>by simp[TV.relR]
 | l::ws=>by
  simp only[List.map_cons,TV.relR]
  refine⟨[_],_,rfl,rfl,?_,relR_words ws⟩
  simp only[TV.relL]
  exact⟨_,[],rfl,by simp only[tS,TV.rel];exact⟨trivial,rfl⟩,rfl⟩
theorem fd_spec (hG : ∀ w, Gm.g w → Lib.TabIs Tryz.prog w "strings.asciiSpace" .u8 Lib.asciiSpaceTab) : PC Tryz.prog 222 [tS rowP] (encW wordsP) := by
 intro w F us hg hF hr
 simp only[TV.relL] at hr
 obtain⟨u,us',rfl,h1,rfl⟩:=hr
 have h1:=str_of h1
 subst h1
 have hlen:wordsP.length=116:=wordsP_len
 refine (Tryz.strings_Fields rowP w (Nat.le_of_ble_eq_true (by kernel_rfl)) (fun j b hb=>of_decide_eq_true (List.all_eq_true.1 rowP_ascii b (List.mem_of_getElem? hb))) (hG w hg)).mono ?_
 rintro e w' ⟨rfl,rfl⟩
 have hbel:Below w.heap.size w (w.alloc (.cells (wordsP.map fun l=>Value.string ⟨l.toArray⟩).toArray 9)):=below_alloc w _
 refine⟨_,rfl,hbel,?_⟩
 unfold encW
 simp only[TV.rel]
 refine⟨some ⟨w.heap.size,0,none⟩,wordsP.length,wordsP.map fun l=>Value.string ⟨l.toArray⟩,by rw[List.length_map];rfl,by rw[List.length_map];exact Nat.le_refl _,by rw[hlen];simp only[maxLen];omega,by omega,relR_words _,?_,.inr ⟨_,rfl,?_,?_⟩⟩
 ·intro u hu
  obtain⟨l,_,rfl⟩:=List.mem_map.1 hu
  rfl
 ·exact .inr (Nat.le_refl _)
 ·exact cellsAt_block (heap_alloc_new w _)
end
section
theorem iw_ent:Ent Tryz.prog 235:=fun a w=>Tryz.call235 a w
theorem cw_ent:Ent Tryz.prog 197:=fun a w=>Tryz.call197 a w
def eqW (s:ByteArray) (l:List UInt8):Bool:=s.toList==(⟨l.toArray⟩:ByteArray).toList
theorem iw_spec (ws:List (List UInt8)) (hl:ws.length≤1000000) (s:ByteArray):PC Tryz.prog 235 [encW ws,tS s] (tI (idxI (eqW s) ws)):=by
 have hm:((ws.map fun l=>[tS ⟨l.toArray⟩]).length:Int)=(ws.length:Int):=by rw[List.length_map]
 generalize hR:idxI (eqW s) ws=R
 refine PC.of_ok tok Tryz.func235 rfl (Nat.le_of_ble_eq_true rfl) (ev_sound ctx (own:=[]) _ _ _ ?_)
 refine Ok.loop (st:=fun i:Nat=>⟨[(8,vi i),(7,vi ws.length),(1,.t (tS s)),(0,.t (encW ws))],[]⟩) (R:=fun i=>i≤ws.length∧∀ j,j<i→∀ l,ws[j]?=some l→eqW s l=false) (μ:=fun i=>ws.length-i) 0
  (Wk.sub ⟨rfl,slotI (by rw[List.length_map]),rfl,rfl,trivial⟩ trivial) ⟨Nat.zero_le _,fun j hj=>absurd hj (Nat.not_lt_zero j)⟩ ?_
 rintro i ⟨hi,hno⟩
 have hi:i≤ws.length:=hi
 by_cases hlt:i<ws.length
 ·have hd:decide ((i:Int)<(ws.length:Int))=true:=decide_eq_true (by omega)
  have hget:(0:Int)≤(i:Int)∧(ws.map fun l=>[tS ⟨l.toArray⟩])[((i:Nat):Int).toNat]?=some [tS ⟨(ws[i]).toArray⟩]:=getM hlt
  have hat:ws[i]?=some ws[i]:=List.getElem?_eq_getElem hlt
  have hyes:eqW s ws[i]=true→R=(i:Int):=fun h=>by
   rw[←hR]
   unfold idxI
   have:ws.findIdx? (eqW s)=some i:=by
    rw[List.findIdx?_eq_some_iff_getElem]
    exact⟨hlt,h,fun j hj=>by simpa using hno j hj _ (List.getElem?_eq_getElem (by omega))⟩
   rw[this]
  have hnx:eqW s ws[i]=false→∀ j,j<i+1→∀ l,ws[j]?=some l→eqW s l=false:=fun h j hj l hl=>by
   by_cases e:j=i
   ·subst e;rw[hat] at hl;injection hl with hl;subst hl;exact h
   ·exact hno j (by omega) l hl
  generalize ws[i]=l at hget hyes hnx
  refine ev_sound ctx (own:=[]) _ _ _ ?_
  refine⟨fun _=>?_,fun h'=>Bool.noConfusion (hd.symm.trans h')⟩
  refine⟨_,hget,?_⟩
  refine⟨fun h=>?_,fun h=>?_⟩
  ·exact toEq (congrArg tI (hyes h).symm)
  ·exact⟨trivial,i+1,Wk.sub ⟨slotI (wr1 hlt (by simp only[maxLen];omega)),rfl,rfl,rfl,trivial⟩ trivial,⟨hlt,hnx h⟩,dec hlt⟩
 ·have hd:decide ((i:Int)<(ws.length:Int))=false:=decide_eq_false (by omega)
  have hR1:R=-1:=by
   rw[←hR]
   unfold idxI
   have:ws.findIdx? (eqW s)=none:=by
    rw[List.findIdx?_eq_none_iff]
    intro l hl
    obtain⟨j,hj⟩:=List.getElem?_of_mem hl
    exact hno j (by have:=(List.getElem?_eq_some_iff.1 hj).1;omega) l hj
   rw[this]
  refine ev_sound ctx (own:=[]) _ _ _ ?_
  refine⟨fun h'=>Bool.noConfusion (hd.symm.trans h'),fun _=>?_⟩
  exact toEq (congrArg tI hR1.symm)
omit [Gm] in
theorem idx_any {α:Type} (p:α→Bool) (l:List α):decide (idxI p l≥0)=l.any p:=by
 unfold idxI
 cases h:l.findIdx? p with
 | none =>
  rw[List.findIdx?_eq_none_iff] at h
  have:l.any p=false:=by
   rw[List.any_eq_false]
   intro x hx
   simp[h x hx]
  rw[this];rfl
 | some i =>
  rw[List.findIdx?_eq_some_iff_getElem] at h
  obtain⟨hi,hp,_⟩:=h
  have:l.any p=true:=List.any_eq_true.2 ⟨_,List.getElem_mem hi,hp⟩
  rw[this]
  exact decide_eq_true (Int.natCast_nonneg i)
theorem cw_spec (ws:List (List UInt8)) (hl:ws.length≤1000000) (s:ByteArray):PC Tryz.prog 197 [encW ws,tS s] (tB (ws.any (eqW s))):=by
 have h:=iw_spec ws hl s
 refine PC.of_ok tok Tryz.func197 rfl (Nat.le_of_ble_eq_true rfl) (ev_sound ctx (own:=[]) _ _ _ ?_)
 refine⟨iw_ent,.inl ⟨_,h,?_⟩⟩
 exact toEq (congrArg tB (idx_any _ _))
theorem rs_spec (hG : ∀ w, Gm.g w → Lib.TabIs Tryz.prog w "strings.asciiSpace" .u8 Lib.asciiSpaceTab) (s : ByteArray) : PC Tryz.prog 169 [tS s] (tB (wordsP.any (eqW s))) := by
 have h:=cw_spec wordsP (by rw[wordsP_len];omega) s
 have hf:=fd_spec hG
 generalize wordsP.any (eqW s)=B at h ⊢
 unfold encW at h hf
 generalize wordsP.map (fun l=>[tS ⟨l.toArray⟩])=W at h hf
 refine PC.of_ok tok Tryz.func169 rfl (Nat.le_of_ble_eq_true rfl) (ev_sound ctx (own:=[]) _ _ _ ?_)
 refine⟨fd_ent,.inl ⟨_,hf,?_⟩⟩
 refine⟨cw_ent,.inl ⟨_,h,?_⟩⟩
 exact rfl
def splitL:List UInt8→List UInt8→List (List UInt8)
 | cur,[]=>[cur]
 | cur,c::r=>if c==32 then cur::splitL [] r else splitL (cur++[c]) r
omit [Gm] in
theorem byteAt_get (row:ByteArray) (i:Nat) (h:i<row.data.toList.length):byteAt row i=(row.data.toList[i].toNat:Int):=by
 unfold byteAt
 rw[Int.toNat_natCast,List.getD_eq_getElem?_getD,List.getElem?_eq_getElem h];rfl
omit [Gm] in
theorem inGo_split (s row:ByteArray):∀ (f i fr:Nat),fr≤i→i≤row.size→f=row.size+1-i →
  inGo s row f i fr=(splitL ((row.data.toList.drop fr).take (i-fr)) (row.data.toList.drop i)).any (fun l=>l==s.data.toList)
 | 0,i,fr,_,h2,h3=>by omega
 | f+1,i,fr,h1,h2,h3=>by
  have hsz:row.size=row.data.toList.length:=Lib.size_eq row
  have hext:((row.extract fr i).toList==s.toList)=((row.data.toList.drop fr).take (i-fr)==s.data.toList):=by
   rw[ByteArray.toList_eq,ByteArray.toList_eq]
   congr 1
   simp[ByteArray.data_extract,List.take_drop]
  unfold inGo
  by_cases he:i=row.size
  ·have hc:((((i:Int)==(row.size:Int))||(byteAt row i==32))=true):=by rw[he];simp
   have hd:row.data.toList.drop i=[]:=List.drop_of_length_le (by omega)
   rw[if_pos hc,hext,hd]
   have hf:f=0:=by omega
   subst hf
   simp only[splitL,List.any_cons,List.any_nil,Bool.or_false,inGo]
   split
   ·rename_i h;rw[h]
   ·rename_i h;simpa using h
  ·have hlt:i<row.data.toList.length:=by omega
   have h0:((i:Int)==(row.size:Int))=false:=by
    have:¬ (i:Int)=(row.size:Int):=by omega
    simpa using this
   have hb:(byteAt row i==32)=(row.data.toList[i]==32):=by
    rw[byteAt_get row i hlt,Bool.eq_iff_iff]
    simp only[beq_iff_eq]
    constructor
    ·intro h
     have:row.data.toList[i].toNat=32:=by omega
     exact UInt8.toNat_inj.1 this
    ·intro h;rw[h];rfl
   rw[h0,Bool.false_or,hb,List.drop_eq_getElem_cons hlt]
   unfold splitL
   cases hc:row.data.toList[i]==32 with
   | true =>
    rw[if_pos rfl,if_pos rfl,hext,List.any_cons]
    have ih:=inGo_split s row f (i+1) (i+1) (Nat.le_refl _) (by omega) (by omega)
    rw[Nat.sub_self,List.take_zero] at ih
    rw[ih]
    cases ((row.data.toList.drop fr).take (i-fr)==s.data.toList) <;> simp
   | false =>
    rw[if_neg (by simp),if_neg (by simp)]
    have ih:=inGo_split s row f (i+1) fr (by omega) (by omega) (by omega)
    rw[ih]
    congr 2
    rw[show i+1-fr=(i-fr)+1 by omega,List.take_add_one,List.getElem?_drop,show fr+(i-fr)=i by omega,List.getElem?_eq_getElem hlt]
    rfl
theorem words_same:((splitL [] rowN.data.toList).all fun x=>wordsP.any fun y=>x==y)=true∧(wordsP.all fun x=>(splitL [] rowN.data.toList).any fun y=>x==y)=true:=⟨by kernel_rfl,by kernel_rfl⟩
theorem res_eq (s:ByteArray):wordsP.any (eqW s)=reservedB s:=by
 have h:=inGo_split s rowN (rowN.size+1) 0 0 (Nat.le_refl _) (Nat.zero_le _) rfl
 unfold reservedB
 rw[h]
 simp only[Nat.sub_self,List.take_zero,List.drop_zero]
 rw[Bool.eq_iff_iff,List.any_eq_true,List.any_eq_true]
 have he:∀ l,eqW s l=(l==s.data.toList):=fun l=>by
  unfold eqW
  rw[ByteArray.toList_eq,ByteArray.toList_eq,Bool.eq_iff_iff]
  simp only[beq_iff_eq,List.toList_toArray]
  exact⟨Eq.symm,Eq.symm⟩
 constructor
 ·rintro⟨l,hl,h1⟩
  rw[he] at h1
  have:=List.all_eq_true.1 words_same.2 l hl
  obtain⟨y,hy,e⟩:=List.any_eq_true.1 this
  rw[eq_of_beq e] at h1
  exact⟨y,hy,h1⟩
 ·rintro⟨l,hl,h1⟩
  have:=List.all_eq_true.1 words_same.1 l hl
  obtain⟨y,hy,e⟩:=List.any_eq_true.1 this
  rw[eq_of_beq e] at h1
  exact⟨y,hy,by rw[he];exact h1⟩
end
section
def sPun:ByteArray:=⟨#[40,41,34,59]⟩
omit [Gm] in
theorem out_tab:((List.range 256).all fun n:Nat=>((decide ((n:Int)<33)||decide ((n:Int)>126))||decide (Lib.indexByte sPun.data.toList ((n:Int).toNat.toUInt8)≥0))==!visB (n:Int))=true:=by kernel_rfl
theorem out_spec (c:Int) (h0:0≤c) (h1:c<256):PC Tryz.prog 165 [tY c] (tB (!visB c)):=by
 have hib:=ib_spec sPun c
 have hp:((decide (c<33)||decide (c>126))||decide (Lib.indexByte sPun.data.toList (c.toNat.toUInt8)≥0))=!visB c:=by
  have:=List.all_eq_true.1 out_tab c.toNat (List.mem_range.2 (by omega))
  have:=eq_of_beq this
  rw[Int.toNat_of_nonneg h0] at this
  exact this
 generalize Lib.indexByte sPun.data.toList (c.toNat.toUInt8)=I at hib hp
 generalize visB c=B at hp ⊢
 refine PC.of_ok tok Tryz.func165 rfl (Nat.le_of_ble_eq_true rfl) (ev_sound ctx (own:=[]) _ _ _ ?_)
 refine⟨ib_ent,_,fun _=>hib,?_⟩
 exact toEq (congrArg tB hp)
omit [Gm] in
theorem tw_imp {p:UInt8→Bool}:∀ {l:List UInt8} {b:UInt8},b∈l.takeWhile p→p b=true
 | [],b,h=>by simp at h
 | x::l,b,h=>by
  simp only[List.takeWhile] at h
  split at h
  ·rename_i hx
   rcases List.mem_cons.1 h with rfl | h
   ·exact hx
   ·exact tw_imp h
  ·simp at h
def sMin:ByteArray:=⟨#[45]⟩
omit [Gm] in
theorem trimS_nil (l cs:List UInt8):Lib.trimS l cs=[]↔l.all (fun b=>cs.contains b)=true:=by
 have hdw:∀ (p:UInt8→Bool) (l:List UInt8),l.dropWhile p=[]↔l.all p=true:=by
  intro p l
  induction l with
  | nil=>simp
  | cons x l ih =>
   simp only[List.dropWhile,List.all_cons]
   cases hx:p x with
   | true=>simpa using ih
   | false=>simp
 unfold Lib.trimS Lib.trimLeftS Lib.trimRightS
 rw[hdw,List.all_reverse]
 constructor
 ·intro h
  rw[List.all_eq_true] at h ⊢
  intro b hb
  by_cases hm:b∈l.reverse.dropWhile (fun x=>cs.contains x)
  ·exact h b hm
  ·have:=List.takeWhile_append_dropWhile (p:=fun x=>cs.contains x) (l:=l.reverse)
   have hb2:b∈l.reverse:=List.mem_reverse.2 hb
   rw[←this] at hb2
   rcases List.mem_append.1 hb2 with h2 | h2
   ·exact tw_imp (p:=fun x=>cs.contains x) h2
   ·exact absurd h2 hm
 ·intro h
  rw[List.all_eq_true] at h ⊢
  intro b hb
  exact h b (List.mem_reverse.1 ((List.dropWhile_suffix _).subset hb))
omit [Gm] in
theorem allB_list (p:Int→Bool) (s:ByteArray):allB p s=s.data.toList.all fun b=>p (b.toNat:Int):=by
 unfold allB
 have hsz:=Lib.size_eq s
 rw[Bool.eq_iff_iff,List.all_eq_true,List.all_eq_true]
 constructor
 ·intro h b hb
  obtain⟨i,hi,rfl⟩:=List.mem_iff_getElem.1 hb
  have:=h i (List.mem_range.2 (by omega))
  rw[byteAt_get s i hi] at this
  exact this
 ·intro h i hi
  have hi:i<s.data.toList.length:=by have:=List.mem_range.1 hi;omega
  rw[byteAt_get s i hi]
  exact h _ (List.getElem_mem hi)
omit [Gm] in
theorem dig_tab:((List.range 256).all fun n:Nat=>sDig.data.toList.contains (UInt8.ofNat n)==digB (n:Int))=true:=by kernel_rfl
omit [Gm] in
theorem dig_eq (b:UInt8):sDig.data.toList.contains b=digB (b.toNat:Int):=by
 have:=List.all_eq_true.1 (dig_tab) b.toNat (List.mem_range.2 b.toNat_lt)
 have:=eq_of_beq this
 rw[UInt8.ofNat_toNat] at this
 exact this
omit [Gm] in
theorem digits_list (s:ByteArray):digits s=(!((⟨(Lib.trimPrefix s.data.toList sMin.data.toList).toArray⟩:ByteArray).toList==(⟨#[]⟩:ByteArray).toList)&&((⟨(Lib.trimS (⟨(Lib.trimPrefix s.data.toList sMin.data.toList).toArray⟩:ByteArray).data.toList sDig.data.toList).toArray⟩:ByteArray).toList==(⟨#[]⟩:ByteArray).toList)):=by
 have hnil:∀ l:List UInt8,((⟨l.toArray⟩:ByteArray).toList==(⟨#[]⟩:ByteArray).toList)=decide (l=[]):=fun l=>by
  rw[ByteArray.toList_eq,ByteArray.toList_eq,Bool.eq_iff_iff]
  simp
 rw[hnil,hnil]
 simp only[List.toList_toArray]
 have hts:decide (Lib.trimS (Lib.trimPrefix s.data.toList sMin.data.toList) sDig.data.toList=[])=(Lib.trimPrefix s.data.toList sMin.data.toList).all fun b=>digB (b.toNat:Int):=by
  rw[Bool.eq_iff_iff,decide_eq_true_eq,trimS_nil]
  simp only[dig_eq]
 rw[hts]
 have hsz:=Lib.size_eq s
 unfold digits unsign
 by_cases hp:(decide ((s.size:Int)>1)&&(byteAt s 0==45))=true
 ·rw[if_pos hp]
  rw[Bool.and_eq_true] at hp
  have h1:=of_decide_eq_true hp.1
  have h2:=eq_of_beq hp.2
  have hb0:=byteAt_get s 0 (by omega)
  have hx:s.data.toList=45::s.data.toList.drop 1:=by
   have:=List.drop_eq_getElem_cons (l:=s.data.toList) (i:=0) (by omega)
   rw[List.drop_zero] at this
   have h45:s.data.toList[0]=45:=by
    apply UInt8.toNat_inj.1
    have hb0:byteAt s 0=_:=hb0
    rw[h2] at hb0
    have:((45:UInt8).toNat:Int)=45:=rfl
    omega
   rw[h45] at this
   exact this
  have htp:Lib.trimPrefix s.data.toList sMin.data.toList=s.data.toList.drop 1:=by
   unfold Lib.trimPrefix Lib.hasPrefix
   rw[hx]
   simp[sMin,List.isPrefixOf]
  rw[htp]
  have hex:(s.extract (Int.toNat 1) ((s.size:Int).toNat)).data.toList=s.data.toList.drop 1:=by
   rw[ByteArray.data_extract]
   simp
   refine List.take_of_length_le ?_
   rw[List.length_tail]
   omega
  rw[allB_list,hex]
  have hs2:(s.extract (Int.toNat 1) ((s.size:Int).toNat)).size=(s.data.toList.drop 1).length:=by rw[Lib.size_eq,hex]
  rw[hs2,Bool.and_comm]
  congr 1
  rw[Bool.eq_iff_iff]
  simp
  rw[←List.length_eq_zero_iff,List.length_tail]
  omega
 ·rw[if_neg hp]
  have hnp:∀ r,s.data.toList=45::r→r=[]:=fun r h=>by
   apply Classical.byContradiction
   intro hr
   apply hp
   have hl:1≤r.length:=by
    cases r with
    | nil=>exact absurd rfl hr
    | cons a b=>simp
   have hlen:s.data.toList.length=r.length+1:=by rw[h];simp
   have hb0:=byteAt_get s 0 (by omega)
   rw[Bool.and_eq_true]
   refine⟨decide_eq_true (by omega),?_⟩
   have h45:s.data.toList[0]'(by omega)=45:=by simp[h]
   rw[show byteAt s 0=_ from hb0,h45];rfl
  cases hl:s.data.toList with
  | nil =>
   have:s.size=0:=by rw[hsz,hl];rfl
   rw[allB_list,hl,this]
   simp[Lib.trimPrefix,Lib.hasPrefix,sMin,List.isPrefixOf]
  | cons c r =>
   have hs1:0<s.size:=by rw[hsz,hl];simp
   rw[allB_list,hl,decide_eq_true hs1,Bool.and_true]
   by_cases hc:c=45
   ·subst hc
    have:=hnp r hl
    subst this
    have e:Lib.trimPrefix [45] sMin.data.toList=[]:=by decide
    rw[e]
    decide
   ·have e:Lib.trimPrefix (c::r) sMin.data.toList=c::r:=by
     unfold Lib.trimPrefix Lib.hasPrefix
     have:(sMin.data.toList.isPrefixOf (c::r))=false:=by
      simp[sMin,List.isPrefixOf]
      exact fun h=>hc h.symm
     rw[this];rfl
    rw[e]
    simp
theorem num_spec (s:ByteArray) (hs:s.size≤140737488355328):PC Tryz.prog 164 [tS s] (tB (digits s)):=by
 have htp:=tp_spec s sMin
 have hd:=digits_list s
 have hxs:(⟨(Lib.trimPrefix s.data.toList sMin.data.toList).toArray⟩:ByteArray).size≤140737488355328:=by
  rw[Lib.size_eq]
  have h1:=Lib.size_eq s
  simp only[List.toList_toArray]
  unfold Lib.trimPrefix
  split
  ·rw[List.length_drop];omega
  ·omega
 generalize (⟨(Lib.trimPrefix s.data.toList sMin.data.toList).toArray⟩:ByteArray)=x at htp hd hxs
 have htr:=tr_spec x hxs
 generalize (⟨(Lib.trimS x.data.toList sDig.data.toList).toArray⟩:ByteArray)=y at htr hd
 generalize digits s=D at hd
 refine PC.of_ok tok Tryz.func164 rfl (Nat.le_of_ble_eq_true rfl) (ev_sound ctx (own:=[]) _ _ _ ?_)
 refine⟨tp_ent,.inl ⟨_,htp,?_⟩⟩
 refine⟨tr_ent,_,fun _=>htr,?_⟩
 exact toEq (congrArg tB hd.symm)
theorem lf (hG : ∀ w, Gm.g w → Lib.TabIs Tryz.prog w "strings.asciiSpace" .u8 Lib.asciiSpaceTab) : LF :=
 ⟨num_spec,fun s=>by have:=rs_spec hG s;rwa [res_eq] at this,out_spec⟩
end
end Go.Proofs.YtihbimigddlbaaaGreatDoor.L
end
