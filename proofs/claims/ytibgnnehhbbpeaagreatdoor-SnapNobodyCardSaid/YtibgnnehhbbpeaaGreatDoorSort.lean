/- slices.Sorted(maps.Keys(m)) in the program: the library's contracts laid. -/
import Derived.Test.YtibgnnehhbbpeaaGreatDoorEvP
import Derived.Test.YtibgnnehhbbpeaaGreatDoorLays
import Derived.KernelRfl
namespace Go.Proofs.YtibgnnehhbbpeaaGreatDoor
open Go.RowKit Go.Maps Go.Sort Go.Shelf Go.Ab

theorem sorts95 (m : Nat) : AnyZ.SortsIn Tryz.prog Tryz.sorted95_ren Fence.wide m :=
  ⟨fun blk off cap ss W hH hblk hsz => callsIn_wide.2 (AnyM.slices_Sort_string Tryz.sort128 blk off cap ss W hH hblk hsz),
   fun p cap W => callsIn_wide.2 (AnyM.slices_Sort_string_none Tryz.sort128 p cap W)⟩

set_option maxHeartbeats 1000000 in
theorem sortedAt95_129 : SortedAt Tryz.prog 95 129 := {
  fn := ⟨_, Tryz.func95, by kernel_rfl, by
    have h : (Tryz.f95.name == "runtime.NumGoroutine") = false := by kernel_rfl
    simpa using h⟩
  full := ⟨9, Tryz.underlying9, fun Bm b nn D0 R w hB hcell hown hmax hbytes => by
    refine (callsIn_wide (n := 5)).1 ?_
    have hseq : SeqGives Fence.wide 2 Tryz.prog 129 #[.pointer (some ⟨Bm, 0, none⟩)] encStr (fun ss => ss.Perm (strKeys D0)) (Maps.size D0) w :=
      AnyZ.keys_gives (ρ := Tryz.keys96_ren) { Tryz.keys96 with } Fence.wide _ trivial rfl (by omega) Bm b nn D0 _ hB hcell hown
    exact AnyZ.sorted_in Tryz.sorted95 Fence.wide 5 trivial trivial trivial trivial rfl (by omega) (sorts95 _) (enters_of Tryz.func128 (by kernel_rfl) rfl) 129 #[.pointer (some ⟨Bm, 0, none⟩)] trivial (enters_of Tryz.func129 (by kernel_rfl) rfl) _ _ hmax hbytes _ hseq⟩
  nil := fun Bm w hB hcell => by
    refine (callsIn_wide (n := 5)).1 ?_
    have hseq : SeqGives Fence.wide 2 Tryz.prog 129 #[.pointer (some ⟨Bm, 0, none⟩)] encStr (fun ss : List (List UInt8) => ss = []) 0 w :=
      AnyZ.keys_gives_nil (ρ := Tryz.keys96_ren) { Tryz.keys96 with } Fence.wide _ trivial rfl Bm w hB hcell
    refine (AnyZ.sorted_in Tryz.sorted95 Fence.wide 5 trivial trivial trivial trivial rfl (by omega) (sorts95 _) (enters_of Tryz.func128 (by kernel_rfl) rfl) 129 #[.pointer (some ⟨Bm, 0, none⟩)] trivial (enters_of Tryz.func129 (by kernel_rfl) rfl) _ _ (Nat.zero_le _) (by omega) _ hseq).mono ?_
    rintro e w' ⟨v, ss, rfl, rfl, hrow, hnil, hb⟩
    exact ⟨by rw [hnil.2 rfl], hb⟩ }

theorem sorts28 (m : Nat) : AnyZI.SortsIn Tryz.prog Tryz.sorted28_ren Fence.wide m :=
  ⟨fun blk off cap ss W hH hblk hsz => callsIn_wide.2 (AnyM.slices_Sort_int Tryz.sort63 blk off cap ss W hH hblk hsz),
   fun p cap W => callsIn_wide.2 (AnyM.slices_Sort_int_none Tryz.sort63 p cap W)⟩

set_option maxHeartbeats 1000000 in
theorem sortedAt28_64 : SortedAtZ Tryz.prog 28 64 := {
  fn := ⟨_, Tryz.func28, by kernel_rfl, by
    have h : (Tryz.f28.name == "runtime.NumGoroutine") = false := by kernel_rfl
    simpa using h⟩
  full := ⟨3, Tryz.underlying3, fun Bm b nn D0 R w hB hcell hown hmax hbytes => by
    refine (callsIn_wide (n := 5)).1 ?_
    have hseq : SeqGives Fence.wide 2 Tryz.prog 64 #[.pointer (some ⟨Bm, 0, none⟩)] encZ (fun ss => ss.Perm (intKeys D0)) (Maps.size D0) w :=
      AnyZI.keys_gives (ρ := Tryz.keys29_ren) { Tryz.keys29 with } Fence.wide _ trivial rfl (by omega) Bm b nn D0 _ hB hcell hown
    exact AnyZI.sorted_in Tryz.sorted28 Fence.wide 5 trivial trivial trivial trivial rfl (by omega) (sorts28 _) (enters_of Tryz.func63 (by kernel_rfl) rfl) 64 #[.pointer (some ⟨Bm, 0, none⟩)] trivial (enters_of Tryz.func64 (by kernel_rfl) rfl) _ _ hmax hbytes _ hseq⟩
  nil := fun Bm w hB hcell => by
    refine (callsIn_wide (n := 5)).1 ?_
    have hseq : SeqGives Fence.wide 2 Tryz.prog 64 #[.pointer (some ⟨Bm, 0, none⟩)] encZ (fun ss : List Int => ss = []) 0 w :=
      AnyZI.keys_gives_nil (ρ := Tryz.keys29_ren) { Tryz.keys29 with } Fence.wide _ trivial rfl Bm w hB hcell
    refine (AnyZI.sorted_in Tryz.sorted28 Fence.wide 5 trivial trivial trivial trivial rfl (by omega) (sorts28 _) (enters_of Tryz.func63 (by kernel_rfl) rfl) 64 #[.pointer (some ⟨Bm, 0, none⟩)] trivial (enters_of Tryz.func64 (by kernel_rfl) rfl) _ _ (Nat.zero_le _) (by omega) _ hseq).mono ?_
    rintro e w' ⟨v, ss, rfl, rfl, hrow, hnil, hb⟩
    exact ⟨by rw [hnil.2 rfl], hb⟩ }
end Go.Proofs.YtibgnnehhbbpeaaGreatDoor
