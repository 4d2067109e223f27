/- A part of the proof: PmV18 PmV19 PmV20 PmV21. -/
import Derived.Test.YtihbimigddlbaaaGreatDoorUnC
import Derived.Test.YtihbimigddlbaaaGreatDoorSh
import Derived.Sort.OwnSorted
import Derived.Sort.KeysCollected
noncomputable section
set_option linter.all false
namespace Go.Proofs.YtihbimigddlbaaaGreatDoor.L
open Go Go.RowKit Go.Proofs.YtihbimigddlbaaaGreatDoor.Pl Go.Sort
variable [Gm]
set_option maxRecDepth 10000
section
end
section
omit [Gm] in
theorem nodup_len {l:List Nat} {n:Nat} (hn:l.Nodup) (h:∀ i∈l,i<n):l.length≤n:=by
 have:=List.Nodup.length_le_of_subset hn (l₂:=List.range n) (fun i hi=>List.mem_range.2 (h i hi))
 rwa [List.length_range] at this
end
section
def bNames (b:Fm):List ByteArray:=((b.kids.take (b.kids.length-1)).drop 2).flatMap asgNames
def inB (n:Nat) (i:Int):Bool:=!(decide (i<0)||decide (i≥(n:Int)))
structure BsOK (BS:List Fm):Prop where
 len:BS.length≤1000000
 fit:∀ b∈BS,∀ c∈(b.kids.take (b.kids.length-1)).drop 2,Fit c
 lenc:∀ b∈BS,((b.kids.take (b.kids.length-1)).drop 2).length≤maxLen
 ok:∀ b∈BS,∀ c∈(b.kids.take (b.kids.length-1)).drop 2,cmdOK c=true
 all:(BS.flatMap bNames).length≤1000000
end
section
end
end Go.Proofs.YtihbimigddlbaaaGreatDoor.L
end
