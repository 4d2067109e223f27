/- A part of the proof: KtMb1 KtMb2 KtMb3. -/
import Derived.Test.YtihbimigddlbaaaGreatDoorProg
import Derived.Test.YtihbimigddlbaaaGreatDoorKxE
import Derived.KernelRfl
import Derived.Test.YtihbimigddlbaaaGreatDoorPlF
noncomputable section
set_option linter.all false
namespace Go.Proofs.YtihbimigddlbaaaGreatDoor.L.Kt
open Go Go.RowKit Go.Proofs.YtihbimigddlbaaaGreatDoor.Pl Go.Proofs.YtihbimigddlbaaaGreatDoor.Kx
set_option maxRecDepth 100000
section
def ty3:TI:={ d:=.int .i64,size:=1,bytes:=8,zero:=[.v (.int .i64 0)] }
def ty4:TI:={ d:=.bool,size:=1,bytes:=1,zero:=[.v (.bool false)] }
def ty5:TI:={ d:=.int .u8,size:=1,bytes:=1,zero:=[.v (.int .u8 0)] }
def ty9:TI:={ d:=.string,size:=1,bytes:=16,zero:=[.v (.string ⟨#[]⟩)] }
def ty20:TI:={ d:=.iface,size:=1,bytes:=16,zero:=[.v .nilIface] }
def ty21:TI:={ d:=.int .i32,size:=1,bytes:=4,zero:=[.v (.int .i32 0)] }
def ty22:TI:={ d:=.slice 24,size:=1,bytes:=24,zero:=[.v (.slice none 0 0)] }
def ty24:TI:={ d:=.struct [(0,3),(1,3),(2,9),(3,22)],size:=4,bytes:=56,zero:=[.v (.int .i64 0),.v (.int .i64 0),.v (.string ⟨#[]⟩),.v (.slice none 0 0)] }
def ty28:TI:={ d:=.int .i64,size:=1,bytes:=8,zero:=[.v (.int .i64 0)] }
def ty42:TI:={ d:=.slice 88,size:=1,bytes:=24,zero:=[.v (.slice none 0 0)] }
def ty44:TI:={ d:=.struct [(0,3),(1,9),(2,9),(3,42),(4,3)],size:=5,bytes:=72,zero:=[.v (.int .i64 0),.v (.string ⟨#[]⟩),.v (.string ⟨#[]⟩),.v (.slice none 0 0),.v (.int .i64 0)] }
def ty49:TI:={ d:=.slice 86,size:=1,bytes:=24,zero:=[.v (.slice none 0 0)] }
def ty50:TI:={ d:=.slice 9,size:=1,bytes:=24,zero:=[.v (.slice none 0 0)] }
def ty51:TI:={ d:=.slice 94,size:=1,bytes:=24,zero:=[.v (.slice none 0 0)] }
def ty53:TI:={ d:=.struct [(0,9),(1,49),(2,49),(3,49),(4,22),(5,22),(6,50),(7,51)],size:=8,bytes:=184,zero:=[.v (.string ⟨#[]⟩),.v (.slice none 0 0),.v (.slice none 0 0),.v (.slice none 0 0),.v (.slice none 0 0),.v (.slice none 0 0),.v (.slice none 0 0),.v (.slice none 0 0)] }
def ty64:TI:={ d:=.slice 22,size:=1,bytes:=24,zero:=[.v (.slice none 0 0)] }
def ty66:TI:={ d:=.struct [(0,9),(1,3),(2,64),(3,4),(4,28)],size:=5,bytes:=64,zero:=[.v (.string ⟨#[]⟩),.v (.int .i64 0),.v (.slice none 0 0),.v (.bool false),.v (.int .i64 0)] }
def ty67:TI:={ d:=.ptr,size:=1,bytes:=8,zero:=[.v (.pointer none)] }
def ty72:TI:={ d:=.slice 53,size:=1,bytes:=24,zero:=[.v (.slice none 0 0)] }
def ty73:TI:={ d:=.map 9 3,size:=1,bytes:=8,zero:=[.v (.map none)] }
def ty75:TI:={ d:=.struct [(0,22),(1,22),(2,49),(3,72),(4,73)],size:=5,bytes:=104,zero:=[.v (.slice none 0 0),.v (.slice none 0 0),.v (.slice none 0 0),.v (.slice none 0 0),.v (.map none)] }
def ty78:TI:={ d:=.struct [(0,67),(1,22),(2,22),(3,3),(4,3),(5,4)],size:=6,bytes:=80,zero:=[.v (.pointer none),.v (.slice none 0 0),.v (.slice none 0 0),.v (.int .i64 0),.v (.int .i64 0),.v (.bool false)] }
def ty79:TI:={ d:=.map 9 24,size:=1,bytes:=8,zero:=[.v (.map none)] }
def ty80:TI:={ d:=.map 9 24,size:=1,bytes:=8,zero:=[.v (.map none)] }
def ty86:TI:={ d:=.struct [(0,9),(1,24),(5,22)],size:=6,bytes:=96,zero:=[.v (.string ⟨#[]⟩),.v (.int .i64 0),.v (.int .i64 0),.v (.string ⟨#[]⟩),.v (.slice none 0 0),.v (.slice none 0 0)] }
def ty88:TI:={ d:=.struct [(0,9),(1,24)],size:=5,bytes:=72,zero:=[.v (.string ⟨#[]⟩),.v (.int .i64 0),.v (.int .i64 0),.v (.string ⟨#[]⟩),.v (.slice none 0 0)] }
def ty94:TI:={ d:=.struct [(0,9),(1,22),(2,24)],size:=6,bytes:=96,zero:=[.v (.string ⟨#[]⟩),.v (.slice none 0 0),.v (.int .i64 0),.v (.int .i64 0),.v (.string ⟨#[]⟩),.v (.slice none 0 0)] }
def ty113:TI:={ d:=.ptr,size:=1,bytes:=8,zero:=[.v (.pointer none)] }
def ty116:TI:={ d:=.ptr,size:=1,bytes:=8,zero:=[.v (.pointer none)] }
def ty119:TI:={ d:=.map 9 4,size:=1,bytes:=8,zero:=[.v (.map none)] }
def ty126:TI:={ d:=.struct [(0,3),(1,9),(2,9)],size:=3,bytes:=40,zero:=[.v (.int .i64 0),.v (.string ⟨#[]⟩),.v (.string ⟨#[]⟩)] }
def ty147:TI:={ d:=.int .u64,size:=1,bytes:=8,zero:=[.v (.int .u64 0)] }
def ty158:TI:={ d:=.struct [(0,22),(1,22)],size:=2,bytes:=48,zero:=[.v (.slice none 0 0),.v (.slice none 0 0)] }
def ty166:TI:={ d:=.map 9 215,size:=1,bytes:=8,zero:=[.v (.map none)] }
def ty167:TI:={ d:=.map 9 213,size:=1,bytes:=8,zero:=[.v (.map none)] }
def ty168:TI:={ d:=.map 9 210,size:=1,bytes:=8,zero:=[.v (.map none)] }
def ty169:TI:={ d:=.map 9 263,size:=1,bytes:=8,zero:=[.v (.map none)] }
def ty171:TI:={ d:=.struct [(0,22),(1,119),(2,166),(3,167),(4,168),(5,169)],size:=6,bytes:=64,zero:=[.v (.slice none 0 0),.v (.map none),.v (.map none),.v (.map none),.v (.map none),.v (.map none)] }
def ty172:TI:={ d:=.map 9 217,size:=1,bytes:=8,zero:=[.v (.map none)] }
def ty174:TI:={ d:=.struct [(0,113),(1,73),(2,172)],size:=3,bytes:=24,zero:=[.v (.pointer none),.v (.map none),.v (.map none)] }
def ty175:TI:={ d:=.slice 49,size:=1,bytes:=24,zero:=[.v (.slice none 0 0)] }
def ty194:TI:={ d:=.int .u64,size:=1,bytes:=8,zero:=[.v (.int .u64 0)] }
def ty215:TI:={ d:=.struct [(0,22),(1,24)],size:=5,bytes:=80,zero:=[.v (.slice none 0 0),.v (.int .i64 0),.v (.int .i64 0),.v (.string ⟨#[]⟩),.v (.slice none 0 0)] }
def ty217:TI:={ d:=.struct [(0,79),(1,24)],size:=5,bytes:=64,zero:=[.v (.map none),.v (.int .i64 0),.v (.int .i64 0),.v (.string ⟨#[]⟩),.v (.slice none 0 0)] }
def ty234:TI:={ d:=.slice 283,size:=1,bytes:=24,zero:=[.v (.slice none 0 0)] }
def ty238:TI:={ d:=.struct [(0,3),(1,9),(2,9)],size:=3,bytes:=40,zero:=[.v (.int .i64 0),.v (.string ⟨#[]⟩),.v (.string ⟨#[]⟩)] }
def ty240:TI:={ d:=.map 9 238,size:=1,bytes:=8,zero:=[.v (.map none)] }
def ty249:TI:={ d:=.ptr,size:=1,bytes:=8,zero:=[.v (.pointer none)] }
def ty264:TI:={ d:=.map 213 210,size:=1,bytes:=8,zero:=[.v (.map none)] }
def ty285:TI:={ d:=.struct [(0,113)],size:=1,bytes:=8,zero:=[.v (.pointer none)] }
def ty294:TI:={ d:=.slice 373,size:=1,bytes:=24,zero:=[.v (.slice none 0 0)] }
def ty296:TI:={ d:=.struct [(0,116),(1,294),(2,3)],size:=3,bytes:=40,zero:=[.v (.pointer none),.v (.slice none 0 0),.v (.int .i64 0)] }
def ty299:TI:={ d:=.array 256 4,size:=256,bytes:=256,zero:=[.v (.bool false),.v (.bool false),.v (.bool false),.v (.bool false),.v (.bool false),.v (.bool false),.v (.bool false),.v (.bool false),.v (.bool false),.v (.bool false),.v (.bool false),.v (.bool false),.v (.bool false),.v (.bool false),.v (.bool false),.v (.bool false),.v (.bool false),.v (.bool false),.v (.bool false),.v (.bool false),.v (.bool false),.v (.bool false),.v (.bool false),.v (.bool false),.v (.bool false),.v (.bool false),.v (.bool false),.v (.bool false),.v (.bool false),.v (.bool false),.v (.bool false),.v (.bool false),.v (.bool false),.v (.bool false),.v (.bool false),.v (.bool false),.v (.bool false),.v (.bool false),.v (.bool false),.v (.bool false),.v (.bool false),.v (.bool false),.v (.bool false),.v (.bool false),.v (.bool false),.v (.bool false),.v (.bool false),.v (.bool false),.v (.bool false),.v (.bool false),.v (.bool false),.v (.bool false),.v (.bool false),.v (.bool false),.v (.bool false),.v (.bool false),.v (.bool false),.v (.bool false),.v (.bool false),.v (.bool false),.v (.bool false),.v (.bool false),.v (.bool false),.v (.bool false),.v (.bool false),.v (.bool false),.v (.bool false),.v (.bool false),.v (.bool false),.v (.bool false),.v (.bool false),.v (.bool false),.v (.bool false),.v (.bool false),.v (.bool false),.v (.bool false),.v (.bool false),.v (.bool false),.v (.bool false),.v (.bool false),.v (.bool false),.v (.bool false),.v (.bool false),.v (.bool false),.v (.bool false),.v (.bool false),.v (.bool false),.v (.bool false),.v (.bool false),.v (.bool false),.v (.bool false),.v (.bool false),.v (.bool false),.v (.bool false),.v (.bool false),.v (.bool false),.v (.bool false),.v (.bool false),.v (.bool false),.v (.bool false),.v (.bool false),.v (.bool false),.v (.bool false),.v (.bool false),.v (.bool false),.v (.bool false),.v (.bool false),.v (.bool false),.v (.bool false),.v (.bool false),.v (.bool false),.v (.bool false),.v (.bool false),.v (.bool false),.v (.bool false),.v (.bool false),.v (.bool false),.v (.bool false),.v (.bool false),.v (.bool false),.v (.bool false),.v (.bool false),.v (.bool false),.v (.bool false),.v (.bool false),.v (.bool false),.v (.bool false),.v (.bool false),.v (.bool false),.v (.bool false),.v (.bool false),.v (.bool false),.v (.bool false),.v (.bool false),.v (.bool false),.v (.bool false),.v (.bool false),.v (.bool false),.v (.bool false),.v (.bool false),.v (.bool false),.v (.bool false),.v (.bool false),.v (.bool false),.v (.bool false),.v (.bool false),.v (.bool false),.v (.bool false),.v (.bool false),.v (.bool false),.v (.bool false),.v (.bool false),.v (.bool false),.v (.bool false),.v (.bool false),.v (.bool false),.v (.bool false),.v (.bool false),.v (.bool false),.v (.bool false),.v (.bool false),.v (.bool false),.v (.bool false),.v (.bool false),.v (.bool false),.v (.bool false),.v (.bool false),.v (.bool false),.v (.bool false),.v (.bool false),.v (.bool false),.v (.bool false),.v (.bool false),.v (.bool false),.v (.bool false),.v (.bool false),.v (.bool false),.v (.bool false),.v (.bool false),.v (.bool false),.v (.bool false),.v (.bool false),.v (.bool false),.v (.bool false),.v (.bool false),.v (.bool false),.v (.bool false),.v (.bool false),.v (.bool false),.v (.bool false),.v (.bool false),.v (.bool false),.v (.bool false),.v (.bool false),.v (.bool false),.v (.bool false),.v (.bool false),.v (.bool false),.v (.bool false),.v (.bool false),.v (.bool false),.v (.bool false),.v (.bool false),.v (.bool false),.v (.bool false),.v (.bool false),.v (.bool false),.v (.bool false),.v (.bool false),.v (.bool false),.v (.bool false),.v (.bool false),.v (.bool false),.v (.bool false),.v (.bool false),.v (.bool false),.v (.bool false),.v (.bool false),.v (.bool false),.v (.bool false),.v (.bool false),.v (.bool false),.v (.bool false),.v (.bool false),.v (.bool false),.v (.bool false),.v (.bool false),.v (.bool false),.v (.bool false),.v (.bool false),.v (.bool false),.v (.bool false),.v (.bool false),.v (.bool false),.v (.bool false),.v (.bool false),.v (.bool false),.v (.bool false),.v (.bool false),.v (.bool false),.v (.bool false),.v (.bool false),.v (.bool false),.v (.bool false),.v (.bool false),.v (.bool false),.v (.bool false),.v (.bool false),.v (.bool false),.v (.bool false),.v (.bool false),.v (.bool false),.v (.bool false),.v (.bool false),.v (.bool false),.v (.bool false)] }
def ty305:TI:={ d:=.array 256 5,size:=256,bytes:=256,zero:=[.v (.int .u8 0),.v (.int .u8 0),.v (.int .u8 0),.v (.int .u8 0),.v (.int .u8 0),.v (.int .u8 0),.v (.int .u8 0),.v (.int .u8 0),.v (.int .u8 0),.v (.int .u8 0),.v (.int .u8 0),.v (.int .u8 0),.v (.int .u8 0),.v (.int .u8 0),.v (.int .u8 0),.v (.int .u8 0),.v (.int .u8 0),.v (.int .u8 0),.v (.int .u8 0),.v (.int .u8 0),.v (.int .u8 0),.v (.int .u8 0),.v (.int .u8 0),.v (.int .u8 0),.v (.int .u8 0),.v (.int .u8 0),.v (.int .u8 0),.v (.int .u8 0),.v (.int .u8 0),.v (.int .u8 0),.v (.int .u8 0),.v (.int .u8 0),.v (.int .u8 0),.v (.int .u8 0),.v (.int .u8 0),.v (.int .u8 0),.v (.int .u8 0),.v (.int .u8 0),.v (.int .u8 0),.v (.int .u8 0),.v (.int .u8 0),.v (.int .u8 0),.v (.int .u8 0),.v (.int .u8 0),.v (.int .u8 0),.v (.int .u8 0),.v (.int .u8 0),.v (.int .u8 0),.v (.int .u8 0),.v (.int .u8 0),.v (.int .u8 0),.v (.int .u8 0),.v (.int .u8 0),.v (.int .u8 0),.v (.int .u8 0),.v (.int .u8 0),.v (.int .u8 0),.v (.int .u8 0),.v (.int .u8 0),.v (.int .u8 0),.v (.int .u8 0),.v (.int .u8 0),.v (.int .u8 0),.v (.int .u8 0),.v (.int .u8 0),.v (.int .u8 0),.v (.int .u8 0),.v (.int .u8 0),.v (.int .u8 0),.v (.int .u8 0),.v (.int .u8 0),.v (.int .u8 0),.v (.int .u8 0),.v (.int .u8 0),.v (.int .u8 0),.v (.int .u8 0),.v (.int .u8 0),.v (.int .u8 0),.v (.int .u8 0),.v (.int .u8 0),.v (.int .u8 0),.v (.int .u8 0),.v (.int .u8 0),.v (.int .u8 0),.v (.int .u8 0),.v (.int .u8 0),.v (.int .u8 0),.v (.int .u8 0),.v (.int .u8 0),.v (.int .u8 0),.v (.int .u8 0),.v (.int .u8 0),.v (.int .u8 0),.v (.int .u8 0),.v (.int .u8 0),.v (.int .u8 0),.v (.int .u8 0),.v (.int .u8 0),.v (.int .u8 0),.v (.int .u8 0),.v (.int .u8 0),.v (.int .u8 0),.v (.int .u8 0),.v (.int .u8 0),.v (.int .u8 0),.v (.int .u8 0),.v (.int .u8 0),.v (.int .u8 0),.v (.int .u8 0),.v (.int .u8 0),.v (.int .u8 0),.v (.int .u8 0),.v (.int .u8 0),.v (.int .u8 0),.v (.int .u8 0),.v (.int .u8 0),.v (.int .u8 0),.v (.int .u8 0),.v (.int .u8 0),.v (.int .u8 0),.v (.int .u8 0),.v (.int .u8 0),.v (.int .u8 0),.v (.int .u8 0),.v (.int .u8 0),.v (.int .u8 0),.v (.int .u8 0),.v (.int .u8 0),.v (.int .u8 0),.v (.int .u8 0),.v (.int .u8 0),.v (.int .u8 0),.v (.int .u8 0),.v (.int .u8 0),.v (.int .u8 0),.v (.int .u8 0),.v (.int .u8 0),.v (.int .u8 0),.v (.int .u8 0),.v (.int .u8 0),.v (.int .u8 0),.v (.int .u8 0),.v (.int .u8 0),.v (.int .u8 0),.v (.int .u8 0),.v (.int .u8 0),.v (.int .u8 0),.v (.int .u8 0),.v (.int .u8 0),.v (.int .u8 0),.v (.int .u8 0),.v (.int .u8 0),.v (.int .u8 0),.v (.int .u8 0),.v (.int .u8 0),.v (.int .u8 0),.v (.int .u8 0),.v (.int .u8 0),.v (.int .u8 0),.v (.int .u8 0),.v (.int .u8 0),.v (.int .u8 0),.v (.int .u8 0),.v (.int .u8 0),.v (.int .u8 0),.v (.int .u8 0),.v (.int .u8 0),.v (.int .u8 0),.v (.int .u8 0),.v (.int .u8 0),.v (.int .u8 0),.v (.int .u8 0),.v (.int .u8 0),.v (.int .u8 0),.v (.int .u8 0),.v (.int .u8 0),.v (.int .u8 0),.v (.int .u8 0),.v (.int .u8 0),.v (.int .u8 0),.v (.int .u8 0),.v (.int .u8 0),.v (.int .u8 0),.v (.int .u8 0),.v (.int .u8 0),.v (.int .u8 0),.v (.int .u8 0),.v (.int .u8 0),.v (.int .u8 0),.v (.int .u8 0),.v (.int .u8 0),.v (.int .u8 0),.v (.int .u8 0),.v (.int .u8 0),.v (.int .u8 0),.v (.int .u8 0),.v (.int .u8 0),.v (.int .u8 0),.v (.int .u8 0),.v (.int .u8 0),.v (.int .u8 0),.v (.int .u8 0),.v (.int .u8 0),.v (.int .u8 0),.v (.int .u8 0),.v (.int .u8 0),.v (.int .u8 0),.v (.int .u8 0),.v (.int .u8 0),.v (.int .u8 0),.v (.int .u8 0),.v (.int .u8 0),.v (.int .u8 0),.v (.int .u8 0),.v (.int .u8 0),.v (.int .u8 0),.v (.int .u8 0),.v (.int .u8 0),.v (.int .u8 0),.v (.int .u8 0),.v (.int .u8 0),.v (.int .u8 0),.v (.int .u8 0),.v (.int .u8 0),.v (.int .u8 0),.v (.int .u8 0),.v (.int .u8 0),.v (.int .u8 0),.v (.int .u8 0),.v (.int .u8 0),.v (.int .u8 0),.v (.int .u8 0),.v (.int .u8 0),.v (.int .u8 0),.v (.int .u8 0),.v (.int .u8 0),.v (.int .u8 0),.v (.int .u8 0),.v (.int .u8 0),.v (.int .u8 0),.v (.int .u8 0),.v (.int .u8 0),.v (.int .u8 0),.v (.int .u8 0),.v (.int .u8 0),.v (.int .u8 0),.v (.int .u8 0),.v (.int .u8 0),.v (.int .u8 0),.v (.int .u8 0),.v (.int .u8 0),.v (.int .u8 0),.v (.int .u8 0),.v (.int .u8 0),.v (.int .u8 0),.v (.int .u8 0)] }
def tys:Tr TI:=(.n (.n (.n (.n (.n .e none (.n (.n .e (some ty79) .e) none (.n (.n .e (some ty175) .e) none .e))) none (.n (.n .e none (.n (.n .e (some ty167) .e) none .e)) none (.n (.n .e none (.n .e (some ty215) .e)) none (.n .e (some ty119) .e)))) (some ty3) (.n (.n (.n (.n .e (some ty67) .e) none .e) none (.n (.n (.n .e (some ty147) .e) none .e) (some ty51) .e)) none (.n (.n (.n .e (some ty75) .e) none (.n (.n (.n .e (some ty299) .e) (some ty171) .e) none .e)) none .e))) none (.n (.n (.n .e none (.n .e (some ty49) (.n (.n (.n .e (some ty305) .e) none .e) (some ty113) .e))) (some ty9) (.n (.n (.n .e (some ty73) .e) none (.n (.n .e (some ty169) .e) none .e)) none (.n (.n .e none (.n .e (some ty217) .e)) none (.n .e none (.n .e (some ty249) .e))))) (some ty5) (.n (.n .e (some ty21) (.n .e (some ty53) .e)) none (.n .e none (.n (.n (.n (.n .e (some ty285) .e) none .e) none .e) none .e))))) none (.n (.n (.n (.n (.n (.n .e (some ty64) .e) none .e) none (.n (.n .e (some ty80) .e) none (.n .e none (.n .e (some ty240) .e)))) none (.n (.n (.n (.n (.n .e (some ty264) .e) none .e) (some ty72) .e) none (.n (.n (.n .e (some ty296) .e) (some ty168) .e) none .e)) (some ty24) (.n (.n .e (some ty88) .e) none .e))) (some ty4) (.n (.n .e (some ty20) (.n .e none (.n .e (some ty116) .e))) none (.n (.n .e (some ty44) (.n (.n .e (some ty172) .e) none .e)) (some ty28) .e))) none (.n (.n (.n (.n (.n .e (some ty66) (.n .e (some ty194) .e)) none .e) none (.n .e (some ty50) .e)) none (.n (.n .e (some ty42) (.n .e none (.n .e (some ty234) .e))) none .e)) none (.n (.n (.n .e none (.n (.n (.n .e (some ty294) .e) (some ty166) .e) none .e)) (some ty22) (.n (.n .e (some ty86) .e) none .e)) none (.n (.n (.n .e (some ty78) .e) none (.n (.n .e (some ty174) .e) none (.n .e (some ty238) .e))) none (.n (.n (.n .e (some ty158) .e) (some ty94) .e) none (.n .e (some ty126) .e)))))))
noncomputable def fns:Tr Func:=(.n (.n (.n (.n (.n (.n (.n (.n .e (some Tryz.f127) .e) none (.n .e (some Tryz.f191) .e)) (some Tryz.f31) (.n (.n .e (some Tryz.f159) .e) none .e)) (some Tryz.f15) (.n (.n (.n .e (some Tryz.f143) .e) none (.n .e (some Tryz.f207) .e)) none (.n (.n .e (some Tryz.f175) .e) (some Tryz.f111) (.n .e (some Tryz.f239) .e)))) none (.n (.n (.n (.n .e (some Tryz.f135) .e) (some Tryz.f71) .e) (some Tryz.f39) (.n (.n .e (some Tryz.f167) .e) (some Tryz.f103) .e)) none (.n (.n (.n .e (some Tryz.f151) .e) (some Tryz.f87) .e) (some Tryz.f55) .e))) none (.n (.n (.n (.n (.n .e (some Tryz.f131) .e) (some Tryz.f67) .e) (some Tryz.f35) (.n .e (some Tryz.f99) .e)) none (.n (.n (.n .e (some Tryz.f147) .e) none (.n .e (some Tryz.f211) .e)) (some Tryz.f51) (.n (.n .e (some Tryz.f179) .e) (some Tryz.f115) (.n .e (some Tryz.f243) .e)))) none (.n (.n .e none (.n (.n (.n .e (some Tryz.f299) .e) none .e) (some Tryz.f107) (.n .e (some Tryz.f235) .e))) none (.n (.n (.n (.n .e (some Tryz.f283) .e) (some Tryz.f155) .e) (some Tryz.f91) (.n .e (some Tryz.f219) .e)) (some Tryz.f59) (.n (.n .e (some Tryz.f187) .e) none .e))))) none (.n (.n (.n (.n (.n (.n (.n .e (some Tryz.f257) .e) (some Tryz.f129) .e) (some Tryz.f65) (.n .e (some Tryz.f193) .e)) (some Tryz.f33) (.n (.n .e (some Tryz.f161) .e) (some Tryz.f97) .e)) (some Tryz.f17) (.n (.n (.n .e (some Tryz.f145) .e) none .e) none (.n (.n .e (some Tryz.f177) .e) none .e))) none (.n (.n (.n (.n (.n .e (some Tryz.f265) .e) (some Tryz.f137) .e) (some Tryz.f73) .e) (some Tryz.f41) (.n (.n .e (some Tryz.f169) .e) (some Tryz.f105) (.n .e (some Tryz.f233) .e))) none (.n (.n (.n .e (some Tryz.f153) .e) (some Tryz.f89) .e) (some Tryz.f57) (.n (.n .e (some Tryz.f185) .e) none (.n .e (some Tryz.f249) .e))))) (some Tryz.f5) (.n (.n (.n (.n (.n .e (some Tryz.f133) .e) (some Tryz.f69) (.n .e (some Tryz.f197) .e)) none (.n (.n .e (some Tryz.f165) .e) (some Tryz.f101) (.n .e (some Tryz.f229) .e))) none (.n (.n (.n .e (some Tryz.f149) .e) (some Tryz.f85) (.n .e (some Tryz.f213) .e)) (some Tryz.f53) (.n (.n (.n .e (some Tryz.f309) .e) none .e) none (.n .e (some Tryz.f245) .e)))) (some Tryz.f13) (.n (.n (.n (.n .e (some Tryz.f141) .e) none .e) none (.n .e (some Tryz.f109) .e)) (some Tryz.f29) (.n (.n (.n .e (some Tryz.f157) .e) (some Tryz.f93) (.n .e (some Tryz.f221) .e)) none (.n (.n .e (some Tryz.f189) .e) (some Tryz.f125) (.n .e (some Tryz.f253) .e))))))) none (.n (.n (.n (.n (.n (.n (.n .e (some Tryz.f128) .e) (some Tryz.f64) (.n .e (some Tryz.f192) .e)) (some Tryz.f32) (.n (.n .e (some Tryz.f160) .e) (some Tryz.f96) (.n .e (some Tryz.f224) .e))) (some Tryz.f16) (.n (.n (.n (.n .e (some Tryz.f272) .e) (some Tryz.f144) .e) none .e) none (.n (.n .e (some Tryz.f176) .e) none .e))) none (.n (.n (.n (.n (.n .e (some Tryz.f264) .e) none .e) (some Tryz.f72) .e) (some Tryz.f40) (.n (.n .e (some Tryz.f168) .e) (some Tryz.f104) (.n .e (some Tryz.f232) .e))) none (.n (.n .e (some Tryz.f88) .e) (some Tryz.f56) (.n .e none (.n .e (some Tryz.f248) .e))))) none (.n (.n (.n (.n (.n .e (some Tryz.f132) .e) (some Tryz.f68) (.n .e (some Tryz.f196) .e)) (some Tryz.f36) (.n (.n .e (some Tryz.f164) .e) (some Tryz.f100) .e)) none (.n (.n (.n .e (some Tryz.f148) .e) none (.n .e (some Tryz.f212) .e)) none (.n (.n .e (some Tryz.f180) .e) none (.n .e (some Tryz.f244) .e)))) none (.n (.n .e none (.n .e (some Tryz.f108) (.n .e (some Tryz.f236) .e))) none (.n (.n (.n (.n .e (some Tryz.f284) .e) (some Tryz.f156) .e) none (.n .e (some Tryz.f220) .e)) (some Tryz.f60) (.n (.n (.n .e (some Tryz.f316) .e) (some Tryz.f188) .e) (some Tryz.f124) .e))))) none (.n (.n (.n (.n (.n .e (some Tryz.f66) (.n .e (some Tryz.f194) .e)) (some Tryz.f34) (.n (.n (.n .e (some Tryz.f290) .e) none .e) (some Tryz.f98) .e)) (some Tryz.f18) (.n (.n (.n .e (some Tryz.f146) .e) none .e) none (.n (.n .e (some Tryz.f178) .e) (some Tryz.f114) .e))) none (.n (.n (.n (.n .e (some Tryz.f138) .e) none (.n .e (some Tryz.f202) .e)) none (.n (.n .e (some Tryz.f170) .e) (some Tryz.f106) .e)) none (.n (.n (.n (.n .e (some Tryz.f282) .e) (some Tryz.f154) .e) (some Tryz.f90) (.n .e (some Tryz.f218) .e)) (some Tryz.f58) (.n (.n .e (some Tryz.f186) .e) (some Tryz.f122) (.n .e (some Tryz.f250) .e))))) none (.n (.n (.n (.n (.n .e (some Tryz.f134) .e) (some Tryz.f70) (.n .e (some Tryz.f198) .e)) (some Tryz.f38) (.n .e (some Tryz.f102) (.n .e (some Tryz.f230) .e))) none (.n (.n (.n (.n .e (some Tryz.f278) .e) (some Tryz.f150) .e) (some Tryz.f86) .e) (some Tryz.f54) .e)) (some Tryz.f14) (.n (.n (.n (.n .e (some Tryz.f142) .e) none .e) none (.n .e (some Tryz.f110) .e)) (some Tryz.f30) (.n (.n (.n .e (some Tryz.f158) .e) (some Tryz.f94) (.n .e (some Tryz.f222) .e)) (some Tryz.f62) (.n (.n .e (some Tryz.f190) .e) (some Tryz.f126) (.n .e (some Tryz.f254) .e))))))))
theorem tys_ok:Cx Tryz.prog tys.get:=tab_of (by kernel_rfl) (by kernel_rfl)
theorem fns_ok:PFOK Tryz.prog fns.get:=Tr.allP_spec (p:=fun f fn=>Tryz.prog.funcs[f]?=some fn∧Ent Tryz.prog f) (t:=fns) (g:=fun j=>j) ⟨trivial,⟨trivial,⟨trivial,⟨trivial,⟨⟨Tryz.func15,fun a w=>Tryz.call15 a w⟩,⟨⟨Tryz.func31,fun a w=>Tryz.call31 a w⟩,⟨trivial,⟨⟨Tryz.func127,fun a w=>Tryz.call127 a w⟩,trivial,trivial⟩,⟨⟨Tryz.func191,fun a w=>Tryz.call191 a w⟩,trivial,trivial⟩⟩,⟨trivial,⟨⟨Tryz.func159,fun a w=>Tryz.call159 a w⟩,trivial,trivial⟩,trivial⟩⟩,⟨trivial,⟨trivial,⟨⟨Tryz.func143,fun a w=>Tryz.call143 a w⟩,trivial,trivial⟩,⟨⟨Tryz.func207,fun a w=>Tryz.call207 a w⟩,trivial,trivial⟩⟩,⟨⟨Tryz.func111,fun a w=>Tryz.call111 a w⟩,⟨⟨Tryz.func175,fun a w=>Tryz.call175 a w⟩,trivial,trivial⟩,⟨⟨Tryz.func239,fun a w=>Tryz.call239 a w⟩,trivial,trivial⟩⟩⟩⟩,⟨trivial,⟨⟨Tryz.func39,fun a w=>Tryz.call39 a w⟩,⟨⟨Tryz.func71,fun a w=>Tryz.call71 a w⟩,⟨⟨Tryz.func135,fun a w=>Tryz.call135 a w⟩,trivial,trivial⟩,trivial⟩,⟨⟨Tryz.func103,fun a w=>Tryz.call103 a w⟩,⟨⟨Tryz.func167,fun a w=>Tryz.call167 a w⟩,trivial,trivial⟩,trivial⟩⟩,⟨⟨Tryz.func55,fun a w=>Tryz.call55 a w⟩,⟨⟨Tryz.func87,fun a w=>Tryz.call87 a w⟩,⟨⟨Tryz.func151,fun a w=>Tryz.call151 a w⟩,trivial,trivial⟩,trivial⟩,trivial⟩⟩⟩,⟨trivial,⟨trivial,⟨⟨Tryz.func35,fun a w=>Tryz.call35 a w⟩,⟨⟨Tryz.func67,fun a w=>Tryz.call67 a w⟩,⟨⟨Tryz.func131,fun a w=>Tryz.call131 a w⟩,trivial,trivial⟩,trivial⟩,⟨⟨Tryz.func99,fun a w=>Tryz.call99 a w⟩,trivial,trivial⟩⟩,⟨⟨Tryz.func51,fun a w=>Tryz.call51 a w⟩,⟨trivial,⟨⟨Tryz.func147,fun a w=>Tryz.call147 a w⟩,trivial,trivial⟩,⟨⟨Tryz.func211,fun a w=>Tryz.call211 a w⟩,trivial,trivial⟩⟩,⟨⟨Tryz.func115,fun a w=>Tryz.call115 a w⟩,⟨⟨Tryz.func179,fun a w=>Tryz.call179 a w⟩,trivial,trivial⟩,⟨⟨Tryz.func243,fun a w=>Tryz.call243 a w⟩,trivial,trivial⟩⟩⟩⟩,⟨trivial,⟨trivial,trivial,⟨⟨Tryz.func107,fun a w=>Tryz.call107 a w⟩,⟨trivial,⟨⟨Tryz.func299,fun a w=>Tryz.call299 a w⟩,trivial,trivial⟩,trivial⟩,⟨⟨Tryz.func235,fun a w=>Tryz.call235 a w⟩,trivial,trivial⟩⟩⟩,⟨⟨Tryz.func59,fun a w=>Tryz.call59 a w⟩,⟨⟨Tryz.func91,fun a w=>Tryz.call91 a w⟩,⟨⟨Tryz.func155,fun a w=>Tryz.call155 a w⟩,⟨⟨Tryz.func283,fun a w=>Tryz.call283 a w⟩,trivial,trivial⟩,trivial⟩,⟨⟨Tryz.func219,fun a w=>Tryz.call219 a w⟩,trivial,trivial⟩⟩,⟨trivial,⟨⟨Tryz.func187,fun a w=>Tryz.call187 a w⟩,trivial,trivial⟩,trivial⟩⟩⟩⟩⟩,⟨⟨Tryz.func5,fun a w=>Tryz.call5 a w⟩,⟨trivial,⟨⟨Tryz.func17,fun a w=>Tryz.call17 a w⟩,⟨⟨Tryz.func33,fun a w=>Tryz.call33 a w⟩,⟨⟨Tryz.func65,fun a w=>Tryz.call65 a w⟩,⟨⟨Tryz.func129,fun a w=>Tryz.call129 a w⟩,⟨⟨Tryz.func257,fun a w=>Tryz.call257 a w⟩,trivial,trivial⟩,trivial⟩,⟨⟨Tryz.func193,fun a w=>Tryz.call193 a w⟩,trivial,trivial⟩⟩,⟨⟨Tryz.func97,fun a w=>Tryz.call97 a w⟩,⟨⟨Tryz.func161,fun a w=>Tryz.call161 a w⟩,trivial,trivial⟩,trivial⟩⟩,⟨trivial,⟨trivial,⟨⟨Tryz.func145,fun a w=>Tryz.call145 a w⟩,trivial,trivial⟩,trivial⟩,⟨trivial,⟨⟨Tryz.func177,fun a w=>Tryz.call177 a w⟩,trivial,trivial⟩,trivial⟩⟩⟩,⟨trivial,⟨⟨Tryz.func41,fun a w=>Tryz.call41 a w⟩,⟨⟨Tryz.func73,fun a w=>Tryz.call73 a w⟩,⟨⟨Tryz.func137,fun a w=>Tryz.call137 a w⟩,⟨⟨Tryz.func265,fun a w=>Tryz.call265 a w⟩,trivial,trivial⟩,trivial⟩,trivial⟩,⟨⟨Tryz.func105,fun a w=>Tryz.call105 a w⟩,⟨⟨Tryz.func169,fun a w=>Tryz.call169 a w⟩,trivial,trivial⟩,⟨⟨Tryz.func233,fun a w=>Tryz.call233 a w⟩,trivial,trivial⟩⟩⟩,⟨⟨Tryz.func57,fun a w=>Tryz.call57 a w⟩,⟨⟨Tryz.func89,fun a w=>Tryz.call89 a w⟩,⟨⟨Tryz.func153,fun a w=>Tryz.call153 a w⟩,trivial,trivial⟩,trivial⟩,⟨trivial,⟨⟨Tryz.func185,fun a w=>Tryz.call185 a w⟩,trivial,trivial⟩,⟨⟨Tryz.func249,fun a w=>Tryz.call249 a w⟩,trivial,trivial⟩⟩⟩⟩⟩,⟨⟨Tryz.func13,fun a w=>Tryz.call13 a w⟩,⟨trivial,⟨trivial,⟨⟨Tryz.func69,fun a w=>Tryz.call69 a w⟩,⟨⟨Tryz.func133,fun a w=>Tryz.call133 a w⟩,trivial,trivial⟩,⟨⟨Tryz.func197,fun a w=>Tryz.call197 a w⟩,trivial,trivial⟩⟩,⟨⟨Tryz.func101,fun a w=>Tryz.call101 a w⟩,⟨⟨Tryz.func165,fun a w=>Tryz.call165 a w⟩,trivial,trivial⟩,⟨⟨Tryz.func229,fun a w=>Tryz.call229 a w⟩,trivial,trivial⟩⟩⟩,⟨⟨Tryz.func53,fun a w=>Tryz.call53 a w⟩,⟨⟨Tryz.func85,fun a w=>Tryz.call85 a w⟩,⟨⟨Tryz.func149,fun a w=>Tryz.call149 a w⟩,trivial,trivial⟩,⟨⟨Tryz.func213,fun a w=>Tryz.call213 a w⟩,trivial,trivial⟩⟩,⟨trivial,⟨trivial,⟨⟨Tryz.func309,fun a w=>Tryz.call309 a w⟩,trivial,trivial⟩,trivial⟩,⟨⟨Tryz.func245,fun a w=>Tryz.call245 a w⟩,trivial,trivial⟩⟩⟩⟩,⟨⟨Tryz.func29,fun a w=>Tryz.call29 a w⟩,⟨trivial,⟨trivial,⟨⟨Tryz.func141,fun a w=>Tryz.call141 a w⟩,trivial,trivial⟩,trivial⟩,⟨⟨Tryz.func109,fun a w=>Tryz.call109 a w⟩,trivial,trivial⟩⟩,⟨trivial,⟨⟨Tryz.func93,fun a w=>Tryz.call93 a w⟩,⟨⟨Tryz.func157,fun a w=>Tryz.call157 a w⟩,trivial,trivial⟩,⟨⟨Tryz.func221,fun a w=>Tryz.call221 a w⟩,trivial,trivial⟩⟩,⟨⟨Tryz.func125,fun a w=>Tryz.call125 a w⟩,⟨⟨Tryz.func189,fun a w=>Tryz.call189 a w⟩,trivial,trivial⟩,⟨⟨Tryz.func253,fun a w=>Tryz.call253 a w⟩,trivial,trivial⟩⟩⟩⟩⟩⟩⟩,⟨trivial,⟨trivial,⟨trivial,⟨⟨Tryz.func16,fun a w=>Tryz.call16 a w⟩,⟨⟨Tryz.func32,fun a w=>Tryz.call32 a w⟩,⟨⟨Tryz.func64,fun a w=>Tryz.call64 a w⟩,⟨⟨Tryz.func128,fun a w=>Tryz.call128 a w⟩,trivial,trivial⟩,⟨⟨Tryz.func192,fun a w=>Tryz.call192 a w⟩,trivial,trivial⟩⟩,⟨⟨Tryz.func96,fun a w=>Tryz.call96 a w⟩,⟨⟨Tryz.func160,fun a w=>Tryz.call160 a w⟩,trivial,trivial⟩,⟨⟨Tryz.func224,fun a w=>Tryz.call224 a w⟩,trivial,trivial⟩⟩⟩,⟨trivial,⟨trivial,⟨⟨Tryz.func144,fun a w=>Tryz.call144 a w⟩,⟨⟨Tryz.func272,fun a w=>Tryz.call272 a w⟩,trivial,trivial⟩,trivial⟩,trivial⟩,⟨trivial,⟨⟨Tryz.func176,fun a w=>Tryz.call176 a w⟩,trivial,trivial⟩,trivial⟩⟩⟩,⟨trivial,⟨⟨Tryz.func40,fun a w=>Tryz.call40 a w⟩,⟨⟨Tryz.func72,fun a w=>Tryz.call72 a w⟩,⟨trivial,⟨⟨Tryz.func264,fun a w=>Tryz.call264 a w⟩,trivial,trivial⟩,trivial⟩,trivial⟩,⟨⟨Tryz.func104,fun a w=>Tryz.call104 a w⟩,⟨⟨Tryz.func168,fun a w=>Tryz.call168 a w⟩,trivial,trivial⟩,⟨⟨Tryz.func232,fun a w=>Tryz.call232 a w⟩,trivial,trivial⟩⟩⟩,⟨⟨Tryz.func56,fun a w=>Tryz.call56 a w⟩,⟨⟨Tryz.func88,fun a w=>Tryz.call88 a w⟩,trivial,trivial⟩,⟨trivial,trivial,⟨⟨Tryz.func248,fun a w=>Tryz.call248 a w⟩,trivial,trivial⟩⟩⟩⟩⟩,⟨trivial,⟨trivial,⟨⟨Tryz.func36,fun a w=>Tryz.call36 a w⟩,⟨⟨Tryz.func68,fun a w=>Tryz.call68 a w⟩,⟨⟨Tryz.func132,fun a w=>Tryz.call132 a w⟩,trivial,trivial⟩,⟨⟨Tryz.func196,fun a w=>Tryz.call196 a w⟩,trivial,trivial⟩⟩,⟨⟨Tryz.func100,fun a w=>Tryz.call100 a w⟩,⟨⟨Tryz.func164,fun a w=>Tryz.call164 a w⟩,trivial,trivial⟩,trivial⟩⟩,⟨trivial,⟨trivial,⟨⟨Tryz.func148,fun a w=>Tryz.call148 a w⟩,trivial,trivial⟩,⟨⟨Tryz.func212,fun a w=>Tryz.call212 a w⟩,trivial,trivial⟩⟩,⟨trivial,⟨⟨Tryz.func180,fun a w=>Tryz.call180 a w⟩,trivial,trivial⟩,⟨⟨Tryz.func244,fun a w=>Tryz.call244 a w⟩,trivial,trivial⟩⟩⟩⟩,⟨trivial,⟨trivial,trivial,⟨⟨Tryz.func108,fun a w=>Tryz.call108 a w⟩,trivial,⟨⟨Tryz.func236,fun a w=>Tryz.call236 a w⟩,trivial,trivial⟩⟩⟩,⟨⟨Tryz.func60,fun a w=>Tryz.call60 a w⟩,⟨trivial,⟨⟨Tryz.func156,fun a w=>Tryz.call156 a w⟩,⟨⟨Tryz.func284,fun a w=>Tryz.call284 a w⟩,trivial,trivial⟩,trivial⟩,⟨⟨Tryz.func220,fun a w=>Tryz.call220 a w⟩,trivial,trivial⟩⟩,⟨⟨Tryz.func124,fun a w=>Tryz.call124 a w⟩,⟨⟨Tryz.func188,fun a w=>Tryz.call188 a w⟩,⟨⟨Tryz.func316,fun a w=>Tryz.call316 a w⟩,trivial,trivial⟩,trivial⟩,trivial⟩⟩⟩⟩⟩,⟨trivial,⟨trivial,⟨⟨Tryz.func18,fun a w=>Tryz.call18 a w⟩,⟨⟨Tryz.func34,fun a w=>Tryz.call34 a w⟩,⟨⟨Tryz.func66,fun a w=>Tryz.call66 a w⟩,trivial,⟨⟨Tryz.func194,fun a w=>Tryz.call194 a w⟩,trivial,trivial⟩⟩,⟨⟨Tryz.func98,fun a w=>Tryz.call98 a w⟩,⟨trivial,⟨⟨Tryz.func290,fun a w=>Tryz.call290 a w⟩,trivial,trivial⟩,trivial⟩,trivial⟩⟩,⟨trivial,⟨trivial,⟨⟨Tryz.func146,fun a w=>Tryz.call146 a w⟩,trivial,trivial⟩,trivial⟩,⟨⟨Tryz.func114,fun a w=>Tryz.call114 a w⟩,⟨⟨Tryz.func178,fun a w=>Tryz.call178 a w⟩,trivial,trivial⟩,trivial⟩⟩⟩,⟨trivial,⟨trivial,⟨trivial,⟨⟨Tryz.func138,fun a w=>Tryz.call138 a w⟩,trivial,trivial⟩,⟨⟨Tryz.func202,fun a w=>Tryz.call202 a w⟩,trivial,trivial⟩⟩,⟨⟨Tryz.func106,fun a w=>Tryz.call106 a w⟩,⟨⟨Tryz.func170,fun a w=>Tryz.call170 a w⟩,trivial,trivial⟩,trivial⟩⟩,⟨⟨Tryz.func58,fun a w=>Tryz.call58 a w⟩,⟨⟨Tryz.func90,fun a w=>Tryz.call90 a w⟩,⟨⟨Tryz.func154,fun a w=>Tryz.call154 a w⟩,⟨⟨Tryz.func282,fun a w=>Tryz.call282 a w⟩,trivial,trivial⟩,trivial⟩,⟨⟨Tryz.func218,fun a w=>Tryz.call218 a w⟩,trivial,trivial⟩⟩,⟨⟨Tryz.func122,fun a w=>Tryz.call122 a w⟩,⟨⟨Tryz.func186,fun a w=>Tryz.call186 a w⟩,trivial,trivial⟩,⟨⟨Tryz.func250,fun a w=>Tryz.call250 a w⟩,trivial,trivial⟩⟩⟩⟩⟩,⟨⟨Tryz.func14,fun a w=>Tryz.call14 a w⟩,⟨trivial,⟨⟨Tryz.func38,fun a w=>Tryz.call38 a w⟩,⟨⟨Tryz.func70,fun a w=>Tryz.call70 a w⟩,⟨⟨Tryz.func134,fun a w=>Tryz.call134 a w⟩,trivial,trivial⟩,⟨⟨Tryz.func198,fun a w=>Tryz.call198 a w⟩,trivial,trivial⟩⟩,⟨⟨Tryz.func102,fun a w=>Tryz.call102 a w⟩,trivial,⟨⟨Tryz.func230,fun a w=>Tryz.call230 a w⟩,trivial,trivial⟩⟩⟩,⟨⟨Tryz.func54,fun a w=>Tryz.call54 a w⟩,⟨⟨Tryz.func86,fun a w=>Tryz.call86 a w⟩,⟨⟨Tryz.func150,fun a w=>Tryz.call150 a w⟩,⟨⟨Tryz.func278,fun a w=>Tryz.call278 a w⟩,trivial,trivial⟩,trivial⟩,trivial⟩,trivial⟩⟩,⟨⟨Tryz.func30,fun a w=>Tryz.call30 a w⟩,⟨trivial,⟨trivial,⟨⟨Tryz.func142,fun a w=>Tryz.call142 a w⟩,trivial,trivial⟩,trivial⟩,⟨⟨Tryz.func110,fun a w=>Tryz.call110 a w⟩,trivial,trivial⟩⟩,⟨⟨Tryz.func62,fun a w=>Tryz.call62 a w⟩,⟨⟨Tryz.func94,fun a w=>Tryz.call94 a w⟩,⟨⟨Tryz.func158,fun a w=>Tryz.call158 a w⟩,trivial,trivial⟩,⟨⟨Tryz.func222,fun a w=>Tryz.call222 a w⟩,trivial,trivial⟩⟩,⟨⟨Tryz.func126,fun a w=>Tryz.call126 a w⟩,⟨⟨Tryz.func190,fun a w=>Tryz.call190 a w⟩,trivial,trivial⟩,⟨⟨Tryz.func254,fun a w=>Tryz.call254 a w⟩,trivial,trivial⟩⟩⟩⟩⟩⟩⟩⟩
end
end Go.Proofs.YtihbimigddlbaaaGreatDoor.L.Kt
end
noncomputable section
set_option linter.all false
namespace Go.Proofs.YtihbimigddlbaaaGreatDoor.L
open Go Go.RowKit Go.Proofs.YtihbimigddlbaaaGreatDoor.Pl Go.Proofs.YtihbimigddlbaaaGreatDoor.Kx
section
def allStr:List CV→Bool
 | []=>true
 | .str _::r=>allStr r
 | _::_=>false
def collectO:Orc:=fun f vs h=>bif Nat.beq f 229 then (match vs with
 | [.fn 231 [.ptr l off]]=>match h.σ.get l with
  | some (.cells _ cs)=>match nth cs off with
   | some (.sl l2 k off2 len c ex)=>match elemsC h.σ 1 (.sl l2 k off2 len c ex) with
    | some (news,n)=>bif allStr news&&Nat.blt 0 n&&Nat.ble n 1000 then some (.sl h.n 1 0 n n false,h.new (.cells 9 news)) else none
    | none=>none
   | _=>none
  | _=>none
 | _=>none) else none
theorem allStr_rel {m:Pm} {n:Nat}:∀ {cs:List CV} {us:List Value},allStr cs=true→CV.relL m n cs us→∃ ss:List (List UInt8),us=ss.map encStr
 | [],us,_,h=>by simp only[CV.relL] at h;subst h;exact⟨[],rfl⟩
 | .str bs::r,us,ha,h=>by
  simp only[CV.relL,CV.rel] at h
  obtain⟨u,us',rfl,⟨s,rfl,_⟩,h'⟩:=h
  obtain⟨ss,rfl⟩:=allStr_rel (by simpa [allStr] using ha) h'
  exact⟨s.data.toList::ss,by simp[encStr]⟩
 | .v _::_,_,ha,_=>by simp[allStr] at ha
 | .ptr _ _::_,_,ha,_=>by simp[allStr] at ha
 | .gp _ _::_,_,ha,_=>by simp[allStr] at ha
 | .sl ..::_,_,ha,_=>by simp[allStr] at ha
 | .e0::_,_,ha,_=>by simp[allStr] at ha
 | .eu::_,_,ha,_=>by simp[allStr] at ha
 | .mp _::_,_,ha,_=>by simp[allStr] at ha
 | .agg _::_,_,ha,_=>by simp[allStr] at ha
 | .tup _::_,_,ha,_=>by simp[allStr] at ha
 | .fn _ _::_,_,ha,_=>by simp[allStr] at ha
 | .yld _::_,_,ha,_=>by simp[allStr] at ha
 | .ifc _ _::_,_,ha,_=>by simp[allStr] at ha
theorem Mem.below_same {G:Gl} {w0:World} {m:Pm} {h:Hp} {w w':World} (M:Mem G w0 m h w) (b:Below w.heap.size w w'):Mem G w0 m h w'∧Stp m h w m h w':=by
 have hs:=M.below.size
 refine⟨⟨⟨b.os.trans M.below.os,b.tape.trans M.below.tape,b.output.trans M.below.output,by have:=b.size;omega,fun k hk=>by rw[b.block k (by omega)];exact M.below.block k hk⟩,M.lt,fun l q hl=>?_,M.own,M.dj,M.gl⟩,⟨Ext.refl _ _,⟨b.os,b.tape,b.output,b.size,fun k hk _=>b.block k hk⟩,fun l q hl hq=>.inl ⟨l,q,hl,hq,rfl⟩⟩⟩
 exact CO.rel_keep (Ext.refl _ _) (M.lt l q hl) (fun hq=>b.block _ (CO.rel_lt (M.ob l q hl) hq)) (M.ob l q hl)
theorem collectO_ok {G:Gl} (w0:World):OrcOK Tryz.prog G w0 collectO:=by
 intro f vs h v h' m w us hx M hr
 unfold collectO at hx
 cases hf:Nat.beq f 229 with
 | false=>rw[hf] at hx;cases hx
 | true =>
 rw[hf,cond_true] at hx
 have:=beq_eq hf;subst this
 split at hx
 ·rename_i l off
  split at hx
  ·rename_i e cs hl
   split at hx
   ·rename_i l2 k off2 len c ex hn
    split at hx
    ·rename_i news n hel
     cases hb:allStr news&&Nat.blt 0 n&&Nat.ble n 1000 with
     | false=>rw[hb] at hx;cases hx
     | true =>
     rw[hb,cond_true] at hx
     simp only[Option.some.injEq,Prod.mk.injEq] at hx
     obtain⟨rfl,rfl⟩:=hx
     simp only[Bool.and_eq_true] at hb
     have hn0:=blt_lt hb.1.2
     have hn1:=ble_le hb.2
     simp only[CV.relL,CV.rel] at hr
     obtain⟨u,us',rfl,⟨cps,rfl,u2,us2,rfl,⟨hln,rfl⟩,rfl⟩,rfl⟩:=hr
     obtain⟨bl,vals,p1,p2,p3,p4,p5⟩:=M.ob l _ hl
     obtain⟨u3,hu3,hr3⟩:=relL_nth p3 hn
     have hcell:w.cell? ⟨m.b l,off,none⟩=some u3:=by
      have:=cellsAt_block' (o:=off) p1 p5 0 u3 (by rw[List.getElem?_drop];simpa using hu3)
      have e:(⟨m.b l,off,none⟩:Addr).add 0=⟨m.b l,off,none⟩:=rfl
      rwa [e] at this
     obtain⟨A,cap,us3,rfl,q1,q2,q3,q4⟩:=elemsC_sound M hr3 hel
     obtain⟨ss,rfl⟩:=allStr_rel hb.1.1 q1
     rw[List.length_map,Nat.mul_one] at q3
     subst q3
     obtain⟨a,rfl,hca⟩:=q4 (by omega)
     have hlt:=CO.rel_lt (M.ob l _ hl) rfl
     have hab:a.block<w.heap.size:=hca.lt (by
      intro e
      have:ss.length=0:=by rw[←List.length_map (f:=encStr),e];rfl
      omega)
     have hI:ss=[]∨∃ b,some a=some b∧b.block<w.heap.size∧∀ j,j<ss.length→w.cell? (b.add j)=some (encStr (ss[j]?.getD [])) :=
      .inr ⟨a,rfl,hab,fun j hj=>by
       refine hca j _ ?_
       rw[List.getElem?_map,List.getElem?_eq_getElem hj];rfl⟩
     have hseq:=values_gives Fence.wide 1 trivial rfl (Nat.le_refl _) ⟨m.b l,off,none⟩ (some a) cap ss (by omega) w hlt hcell hI
     have e231:∀ args w,(callFunc 231 args).run Tryz.prog w=.ok (.enter 231 args) w:=fun a w=>Tryz.call231 a w
     have:=callsIn_wide.1 (collectB Tryz.coL Fence.wide 3 trivial trivial rfl (Nat.le_refl _) 231 #[.pointer (some ⟨m.b l,off,none⟩)] trivial e231 ss ss.length (Nat.le_refl _) (by simp only[maxLen];omega) (by omega) w hseq)
     refine .inl ⟨fun a w=>Tryz.call229 a w,Calls.mono this ?_⟩
     rintro e w' ⟨v,rfl,hrow,_,hbel⟩
     rcases hrow.2 with⟨_,hz⟩ | ⟨g,cap',cur,rfl,hbase,hgb,r1,r2,r3,r4⟩
     ·have:ss.length=0:=hz
      omega
     obtain⟨M',St'⟩:=Mem.below_same M hbel
     have hgl:∀ l q,h.σ.get l=some q→q.live=true→m.b l≠g:=fun l q hl hq e=>by
      have:=CO.rel_lt (M.ob l q hl) hq
      omega
     have hs0:=M.below.size
     have hone:∀ u∈ss.map encStr,u.oneCell'=true:=fun u hu=>by
      obtain⟨s,_,rfl⟩:=List.mem_map.1 hu;rfl
     obtain⟨M2,Sb⟩:=M'.adopt (g:=g) (.cells 9 news) cur.size (w':=w') (by omega) hgl rfl rfl rfl rfl (fun _ _=>rfl) (by
      refine⟨cur,ss.map encStr,?_,(Pm.put_sz _ _ _ _).symm,CV.relL_ext (Ext.put _ _ _ _) _ _ q1,hone,by simpa using r4⟩
      rw[Pm.put_b];exact hgb)
     refine⟨_,M2,Sb m h w St' hbase,_,rfl,?_⟩
     simp only[CV.rel]
     refine⟨Nat.lt_succ_self _,cap',?_,Nat.le_refl _,r1,(fun h=>by cases h),r2,?_,by decide⟩
     ·rw[Pm.put_b]
     ·rw[Pm.put_sz];omega
    ·cases hx
   ·cases hx
  ·cases hx
 ·cases hx
end
end Go.Proofs.YtihbimigddlbaaaGreatDoor.L
end
noncomputable section
set_option linter.all false
namespace Go.Proofs.YtihbimigddlbaaaGreatDoor.L
open Go Go.RowKit Go.Proofs.YtihbimigddlbaaaGreatDoor.Pl Go.Proofs.YtihbimigddlbaaaGreatDoor.Kx
set_option maxRecDepth 1000000
section
def spaces:List CV:=List.replicate 9 (.v (.int .u8 0))++List.replicate 5 (.v (.int .u8 1))++List.replicate 18 (.v (.int .u8 0))++[.v (.int .u8 1)]++List.replicate 223 (.v (.int .u8 0))
def Gs:Gl:=fun g=>bif Nat.beq g 0 then some spaces else none
theorem ext_ok (w0:World):OrcOK Tryz.prog Gs w0 (indexByteO 288) :=
 indexByteO_ok (run_callFunc_extern Tryz.func288 (by kernel_rfl) (by kernel_rfl) (by kernel_rfl) (e:=Extern.BytealgIndexByte.indexByte) (by kernel_rfl)) w0
end
end Go.Proofs.YtihbimigddlbaaaGreatDoor.L
end
