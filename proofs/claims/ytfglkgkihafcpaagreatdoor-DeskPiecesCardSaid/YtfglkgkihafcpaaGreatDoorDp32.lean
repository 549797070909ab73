/- Part 32 of the proof: PlBp. -/
import Derived.Test.YtfglkgkihafcpaaGreatDoorDp15
import Derived.Test.YtfglkgkihafcpaaGreatDoorDp20
set_option linter.unusedVariables false
set_option linter.unusedSimpArgs false
namespace Go.Proofs.YtfglkgkihafcpaaGreatDoor.Pl
theorem BlkList.lens {es : List E} (hs : Sorted es) {ps : List (List Nat)} (h : BlkList es ps) : ps.length ≤ es.length ∧ ∀ p, p ∈ ps → p.length ≤ es.length := by
 constructor
 ·have h1 : (ps.map (fun p => p.headD 0)).Nodup := by
   unfold List.Nodup
   rw [List.pairwise_map]
   exact h.heads.imp fun {a b} h e => by omega
  have := len_le_of_mem h1 (k := es.map (·.id)) (fun i hi => by
   obtain ⟨p, hp, rfl⟩ := List.mem_map.1 hi
   have hm : p.headD 0 ∈ p := by
    cases p with
    | nil => exact absurd rfl (h.ne _ hp)
    | cons a l => exact List.mem_cons_self
   obtain ⟨e, he, hid⟩ := (h.ids _).1 (List.mem_flatten.2 ⟨p, hp, hm⟩)
   exact List.mem_map.2 ⟨e, he, hid⟩)
  simpa using this
 ·intro p hp
  have h1 : p.Nodup := (h.rise p hp).imp fun h => Nat.ne_of_lt h
  have := len_le_of_mem h1 (k := es.map (·.id)) (fun i hi => by
   obtain ⟨e, he, hid⟩ := (h.ids i).1 (List.mem_flatten.2 ⟨p, hp, hi⟩)
   exact List.mem_map.2 ⟨e, he, hid⟩)
  simpa using this
end Go.Proofs.YtfglkgkihafcpaaGreatDoor.Pl

