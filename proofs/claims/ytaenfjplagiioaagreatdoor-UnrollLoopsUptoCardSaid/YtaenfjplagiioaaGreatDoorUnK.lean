/- A part of the proof: KtUn1 PlN1 PlN2. -/
import Derived.Test.YtaenfjplagiioaaGreatDoorProg
import Derived.Test.YtaenfjplagiioaaGreatDoorKxE
import Derived.KernelRfl
import Derived.Test.YtaenfjplagiioaaGreatDoorUnI
import Derived.Test.YtaenfjplagiioaaGreatDoorUnJ
noncomputable section
set_option linter.all false
namespace Go.Proofs.YtaenfjplagiioaaGreatDoor.L.Kt
open Go Go.RowKit Go.Proofs.YtaenfjplagiioaaGreatDoor.Pl Go.Proofs.YtaenfjplagiioaaGreatDoor.Kx
set_option maxRecDepth 100000
section
def ty1:TI:={ d:=.func,size:=1,bytes:=8,zero:=[.v .nilFunc] }
def ty2:TI:={ d:=.int .i64,size:=1,bytes:=8,zero:=[.v (.int .i64 0)] }
def ty3:TI:={ d:=.int .i64,size:=1,bytes:=8,zero:=[.v (.int .i64 0)] }
def ty4:TI:={ d:=.bool,size:=1,bytes:=1,zero:=[.v (.bool false)] }
def ty5:TI:={ d:=.int .u8,size:=1,bytes:=1,zero:=[.v (.int .u8 0)] }
def ty9:TI:={ d:=.string,size:=1,bytes:=16,zero:=[.v (.string ⟨#[]⟩)] }
def ty22:TI:={ d:=.slice 24,size:=1,bytes:=24,zero:=[.v (.slice none 0 0)] }
def ty24:TI:={ d:=.struct [(0,3),(1,3),(2,9),(3,22)],size:=4,bytes:=56,zero:=[.v (.int .i64 0),.v (.int .i64 0),.v (.string ⟨#[]⟩),.v (.slice none 0 0)] }
def ty28:TI:={ d:=.int .i64,size:=1,bytes:=8,zero:=[.v (.int .i64 0)] }
def ty60:TI:={ d:=.ptr,size:=1,bytes:=8,zero:=[.v (.pointer none)] }
def ty61:TI:={ d:=.slice 22,size:=1,bytes:=24,zero:=[.v (.slice none 0 0)] }
def ty63:TI:={ d:=.struct [(0,9),(1,3),(2,61),(3,4),(4,28)],size:=5,bytes:=64,zero:=[.v (.string ⟨#[]⟩),.v (.int .i64 0),.v (.slice none 0 0),.v (.bool false),.v (.int .i64 0)] }
def ty112:TI:={ d:=.slice 5,size:=1,bytes:=24,zero:=[.v (.slice none 0 0)] }
def tys:Tr TI:=(.n (.n (.n (.n (.n (.n (.n .e (some ty63) .e) none .e) none .e) none .e) (some ty3) .e) (some ty1) (.n (.n .e (some ty9) .e) (some ty5) (.n .e none (.n .e none (.n .e (some ty61) .e))))) none (.n (.n (.n (.n .e none (.n .e none (.n .e (some ty112) .e))) none (.n .e (some ty24) .e)) (some ty4) (.n .e none (.n .e (some ty28) (.n .e (some ty60) .e)))) (some ty2) (.n .e none (.n (.n .e (some ty22) .e) none .e))))
noncomputable def fns:Tr Func:=(.n (.n (.n (.n (.n .e none (.n .e (some Go.Proofs.Tryz.f47) .e)) none (.n (.n (.n .e (some Go.Proofs.Tryz.f71) .e) none .e) none .e)) none (.n .e none (.n (.n .e (some Go.Proofs.Tryz.f43) .e) none .e))) none (.n (.n .e none (.n .e (some Go.Proofs.Tryz.f25) .e)) none (.n (.n (.n (.n .e (some Go.Proofs.Tryz.f69) .e) none .e) none .e) none (.n (.n .e (some Go.Proofs.Tryz.f45) .e) none .e)))) none (.n (.n (.n (.n .e none (.n .e (some Go.Proofs.Tryz.f48) .e)) none (.n (.n (.n .e (some Go.Proofs.Tryz.f72) .e) none .e) none .e)) (some Go.Proofs.Tryz.f4) (.n .e (some Go.Proofs.Tryz.f12) (.n (.n .e (some Go.Proofs.Tryz.f44) .e) none .e))) none (.n (.n .e none (.n .e (some Go.Proofs.Tryz.f26) .e)) none (.n (.n (.n (.n .e (some Go.Proofs.Tryz.f70) .e) none .e) none .e) none (.n (.n .e (some Go.Proofs.Tryz.f46) .e) none .e)))))
theorem tys_ok:Cx Go.Proofs.Tryz.prog tys.get:=tab_of (by kernel_rfl) (by kernel_rfl)
theorem fns_ok:PFOK Go.Proofs.Tryz.prog fns.get:=Tr.allP_spec (p:=fun f fn=>Go.Proofs.Tryz.prog.funcs[f]?=some fn∧Ent Go.Proofs.Tryz.prog f) (t:=fns) (g:=fun j=>j) ⟨trivial,⟨trivial,⟨trivial,⟨trivial,⟨trivial,trivial,⟨⟨Go.Proofs.Tryz.func47,fun a w=>Go.Proofs.Tryz.call47 a w⟩,trivial,trivial⟩⟩,⟨trivial,⟨trivial,⟨⟨Go.Proofs.Tryz.func71,fun a w=>Go.Proofs.Tryz.call71 a w⟩,trivial,trivial⟩,trivial⟩,trivial⟩⟩,⟨trivial,trivial,⟨trivial,⟨⟨Go.Proofs.Tryz.func43,fun a w=>Go.Proofs.Tryz.call43 a w⟩,trivial,trivial⟩,trivial⟩⟩⟩,⟨trivial,⟨trivial,trivial,⟨⟨Go.Proofs.Tryz.func25,fun a w=>Go.Proofs.Tryz.call25 a w⟩,trivial,trivial⟩⟩,⟨trivial,⟨trivial,⟨trivial,⟨⟨Go.Proofs.Tryz.func69,fun a w=>Go.Proofs.Tryz.call69 a w⟩,trivial,trivial⟩,trivial⟩,trivial⟩,⟨trivial,⟨⟨Go.Proofs.Tryz.func45,fun a w=>Go.Proofs.Tryz.call45 a w⟩,trivial,trivial⟩,trivial⟩⟩⟩⟩,⟨trivial,⟨⟨Go.Proofs.Tryz.func4,fun a w=>Go.Proofs.Tryz.call4 a w⟩,⟨trivial,⟨trivial,trivial,⟨⟨Go.Proofs.Tryz.func48,fun a w=>Go.Proofs.Tryz.call48 a w⟩,trivial,trivial⟩⟩,⟨trivial,⟨trivial,⟨⟨Go.Proofs.Tryz.func72,fun a w=>Go.Proofs.Tryz.call72 a w⟩,trivial,trivial⟩,trivial⟩,trivial⟩⟩,⟨⟨Go.Proofs.Tryz.func12,fun a w=>Go.Proofs.Tryz.call12 a w⟩,trivial,⟨trivial,⟨⟨Go.Proofs.Tryz.func44,fun a w=>Go.Proofs.Tryz.call44 a w⟩,trivial,trivial⟩,trivial⟩⟩⟩,⟨trivial,⟨trivial,trivial,⟨⟨Go.Proofs.Tryz.func26,fun a w=>Go.Proofs.Tryz.call26 a w⟩,trivial,trivial⟩⟩,⟨trivial,⟨trivial,⟨trivial,⟨⟨Go.Proofs.Tryz.func70,fun a w=>Go.Proofs.Tryz.call70 a w⟩,trivial,trivial⟩,trivial⟩,trivial⟩,⟨trivial,⟨⟨Go.Proofs.Tryz.func46,fun a w=>Go.Proofs.Tryz.call46 a w⟩,trivial,trivial⟩,trivial⟩⟩⟩⟩⟩
end
end Go.Proofs.YtaenfjplagiioaaGreatDoor.L.Kt
end
noncomputable section
set_option linter.all false
namespace Go.Proofs.YtaenfjplagiioaaGreatDoor.L
open Go Go.RowKit Go.Proofs.YtaenfjplagiioaaGreatDoor.Pl Go.Proofs.YtaenfjplagiioaaGreatDoor.Kx
set_option maxRecDepth 1000000
section
def spaces:List CV:=List.replicate 9 (.v (.int .u8 0))++List.replicate 5 (.v (.int .u8 1))++List.replicate 18 (.v (.int .u8 0))++[.v (.int .u8 1)]++List.replicate 223 (.v (.int .u8 0))
def Gs:Gl:=fun g=>bif Nat.beq g 0 then some spaces else none
theorem ext_ok (w0:World):OrcOK Tryz.prog Gs w0 (indexByteO 150) :=
 indexByteO_ok (run_callFunc_extern Tryz.func150 (by kernel_rfl) (by kernel_rfl) (by kernel_rfl) (e:=Extern.BytealgIndexByte.indexByte) (by kernel_rfl)) w0
def sLaw:ByteArray:=⟨#[40,112,114,111,99,32,80,32,40,41,32,40,41,32,40,98,108,111,99,107,32,65,32,40,103,111,116,111,32,65,41,41,41]⟩
def wF (s:ByteArray):Fm:=.mk 1 0 s []
def lF (l:List Fm):Fm:=.mk 3 0 ⟨#[]⟩ l
def fLaw:Fm:=lF [wF ⟨#[112,114,111,99]⟩,wF ⟨#[80]⟩,lF [],lF [],lF [wF ⟨#[98,108,111,99,107]⟩,wF ⟨#[65]⟩,lF [wF ⟨#[103,111,116,111]⟩,wF ⟨#[65]⟩]]]
theorem rd_run:outT Kt.tys.get Gs Kt.fns.get (indexByteO 150) 40 4 20 12 [.str (bytesOf sLaw)]=some (.tup [.sl 4 [fLaw.cells],tI 0]):=by kernel_rfl
end
end Go.Proofs.YtaenfjplagiioaaGreatDoor.L
end
noncomputable section
set_option linter.all false
namespace Go.Proofs.YtaenfjplagiioaaGreatDoor.L
open Go Go.RowKit Go.Proofs.YtaenfjplagiioaaGreatDoor.Pl Go.Proofs.YtaenfjplagiioaaGreatDoor.Kx
variable [Gm]
set_option maxRecDepth 10000
section
omit [Gm] in
theorem fit_wF (s:ByteArray) (h:s.size≤100):Fit (wF s):=.mk (Nat.zero_le _) (by simp) (by omega) (fun g hg=>by simp at hg)
omit [Gm] in
theorem fit_lF (l:List Fm) (hl:l.length≤100) (h:∀ g∈l,Fit g):Fit (lF l):=.mk (by simp only[maxLen];omega) (by omega) (Nat.zero_le _) h
omit [Gm] in
theorem fit_law:Fit fLaw:=by
 have nil:∀ g∈([]:List Fm),Fit g:=fun g h=>by simp at h
 have a1:=fit_wF ⟨#[112,114,111,99]⟩ (by decide)
 have a2:=fit_wF ⟨#[80]⟩ (by decide)
 have a3:=fit_lF [] (by decide) nil
 have a4:=fit_wF ⟨#[98,108,111,99,107]⟩ (by decide)
 have a5:=fit_wF ⟨#[65]⟩ (by decide)
 have a6:=fit_wF ⟨#[103,111,116,111]⟩ (by decide)
 have a7:=fit_lF [wF ⟨#[103,111,116,111]⟩,wF ⟨#[65]⟩] (by decide) (by
  intro g hg
  simp only[List.mem_cons,List.not_mem_nil,or_false] at hg
  rcases hg with rfl | rfl
  ·exact a6
  ·exact a5)
 have a8:=fit_lF [wF ⟨#[98,108,111,99,107]⟩,wF ⟨#[65]⟩,lF [wF ⟨#[103,111,116,111]⟩,wF ⟨#[65]⟩]] (by decide) (by
  intro g hg
  simp only[List.mem_cons,List.not_mem_nil,or_false] at hg
  rcases hg with rfl | rfl | rfl
  ·exact a4
  ·exact a5
  ·exact a7)
 refine fit_lF _ (by decide) ?_
 intro g hg
 simp only[List.mem_cons,List.not_mem_nil,or_false] at hg
 rcases hg with rfl | rfl | rfl | rfl | rfl
 ·exact a1
 ·exact a2
 ·exact a3
 ·exact a3
 ·exact a8
theorem law_loop:uLoop fLaw 0=.tup [encN [0],tI 0]:=by kernel_rfl
theorem rd12_ent:Ent Tryz.prog 12:=fun a w=>Tryz.call12 a w
theorem rd12 (hG:∀ w,Gm.g w→GRel Gs w):PC Tryz.prog 12 [tS sLaw] (.tup [.sl 4 [fLaw.cells],tI 0]) :=
 run_pc (kn:=4) (xs:=[tS sLaw]) (by decide) hG Kt.tys_ok Kt.fns_ok ext_ok rd12_ent rd_run (fun w F us h=>by
  have h:∃ u us',us=u::us'∧(tS sLaw).rel w F u∧us'=[]:=by simpa only[TV.relL] using h
  obtain⟨u,us',rfl,h1,rfl⟩:=h
  have h1:=str_of h1
  subst h1
  show CV.relL _ 0 [.str (bytesOf sLaw)] [.string sLaw]
  unfold CV.relL
  refine⟨_,[],rfl,?_,by unfold CV.relL;rfl⟩
  unfold CV.rel
  exact⟨sLaw,rfl,rfl⟩)
theorem sane_pc (hG:∀ w,Gm.g w→GRel Gs w) (L:LF):PC Tryz.prog 5 [] (tB true):=by
 have h12:=rd12 hG
 have h6:=uLoop_spec L fLaw fit_law (low_of fLaw (by decide)) 0
 rw[law_loop,f_enc] at h6
 have hc:fLaw.cells=[tI fLaw.kind,tI fLaw.num,tS fLaw.text,encs fLaw.kids]:=rfl
 rw[hc] at h12
 generalize fLaw.kind=a at h12 h6
 generalize fLaw.num=b at h12 h6
 generalize fLaw.text=c at h12 h6
 generalize encs fLaw.kids=d at h12 h6
 refine PC.of_ok tok Tryz.func5 rfl (Nat.le_of_ble_eq_true rfl) (ev_sound ctx (own:=[]) _ _ _ ?_)
 refine⟨rd12_ent,.inl ⟨_,h12,?_⟩⟩
 refine⟨[tI a,tI b,tS c,d],⟨Int.le_refl _,rfl⟩,?_⟩
 refine⟨uLoop_ent,.inl ⟨_,h6,?_⟩⟩
 exact rfl
end
end Go.Proofs.YtaenfjplagiioaaGreatDoor.L
end
