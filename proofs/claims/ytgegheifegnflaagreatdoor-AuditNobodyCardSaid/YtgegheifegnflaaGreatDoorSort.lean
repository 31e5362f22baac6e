/- slices.Sorted(maps.Keys(m)) in the program: the library's contracts laid. -/
import Derived.Test.YtgegheifegnflaaGreatDoorEvP
import Derived.Test.YtgegheifegnflaaGreatDoorLays
import Derived.KernelRfl
namespace Go.Proofs.YtgegheifegnflaaGreatDoor
open Go.RowKit Go.Maps Go.Sort Go.Shelf Go.Ab

theorem sorts160 (m : Nat) : AnyZ.SortsIn Tryz.prog Tryz.sorted160_ren Fence.wide m :=
  ⟨fun blk off cap ss W hH hblk hsz => callsIn_wide.2 (AnyM.slices_Sort_string Tryz.sort195 blk off cap ss W hH hblk hsz),
   fun p cap W => callsIn_wide.2 (AnyM.slices_Sort_string_none Tryz.sort195 p cap W)⟩

set_option maxHeartbeats 1000000 in
theorem sortedAt160_196 : SortedAt Tryz.prog 160 196 := {
  fn := ⟨_, Tryz.func160, by kernel_rfl, by
    have h : (Tryz.f160.name == "runtime.NumGoroutine") = false := by kernel_rfl
    simpa using h⟩
  full := ⟨9, Tryz.underlying9, fun Bm b nn D0 R w hB hcell hown hmax hbytes => by
    refine (callsIn_wide (n := 5)).1 ?_
    have hseq : SeqGives Fence.wide 2 Tryz.prog 196 #[.pointer (some ⟨Bm, 0, none⟩)] encStr (fun ss => ss.Perm (strKeys D0)) (Maps.size D0) w :=
      AnyZ.keys_gives (ρ := Tryz.keys161_ren) { Tryz.keys161 with } Fence.wide _ trivial rfl (by omega) Bm b nn D0 _ hB hcell hown
    exact AnyZ.sorted_in Tryz.sorted160 Fence.wide 5 trivial trivial trivial trivial rfl (by omega) (sorts160 _) (enters_of Tryz.func195 (by kernel_rfl) rfl) 196 #[.pointer (some ⟨Bm, 0, none⟩)] trivial (enters_of Tryz.func196 (by kernel_rfl) rfl) _ _ hmax hbytes _ hseq⟩
  nil := fun Bm w hB hcell => by
    refine (callsIn_wide (n := 5)).1 ?_
    have hseq : SeqGives Fence.wide 2 Tryz.prog 196 #[.pointer (some ⟨Bm, 0, none⟩)] encStr (fun ss : List (List UInt8) => ss = []) 0 w :=
      AnyZ.keys_gives_nil (ρ := Tryz.keys161_ren) { Tryz.keys161 with } Fence.wide _ trivial rfl Bm w hB hcell
    refine (AnyZ.sorted_in Tryz.sorted160 Fence.wide 5 trivial trivial trivial trivial rfl (by omega) (sorts160 _) (enters_of Tryz.func195 (by kernel_rfl) rfl) 196 #[.pointer (some ⟨Bm, 0, none⟩)] trivial (enters_of Tryz.func196 (by kernel_rfl) rfl) _ _ (Nat.zero_le _) (by omega) _ hseq).mono ?_
    rintro e w' ⟨v, ss, rfl, rfl, hrow, hnil, hb⟩
    exact ⟨by rw [hnil.2 rfl], hb⟩ }
end Go.Proofs.YtgegheifegnflaaGreatDoor
