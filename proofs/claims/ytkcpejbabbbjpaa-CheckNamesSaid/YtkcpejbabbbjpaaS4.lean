/- A part of the proof: contracts over a program of the model. -/
import Derived.Test.YtkcpejbabbbjpaaS3
import Derived.Shelf.SlIterI.Nil
import Derived.Shelf.SortM.Plain
import Derived.Shelf.SortM.SortNone
import Derived.Test.YtkcpejbabbbjpaaProg
namespace Go.Proofs
open Go.RowKit Go.Maps Go.Sort Go.Shelf
def Try.keysA_ren : Go.Shelf.Ren := ⟨fun | 7 => 88 | 10 => 116 | n => n, fun | 23 => 102 | 26 => 3 | 3 => 101 | 28 => 135 | 0 => 0 | 27 => 134 | 33 => 58 | 4 => 4 | n => n, fun | n => n⟩
theorem Try.keysA : Go.Proofs.SlLaysZI.n7 Try.prog Try.keysA_ren := {
  mixed := by kernel_rfl,
  f7 := ⟨Try.f88.name, by decide, Try.func88.trans (congrArg some (by kernel_rfl))⟩,
  f10 := ⟨Try.f116.name, by decide, Try.func116.trans (congrArg some (by kernel_rfl))⟩,
  t0 := Try.underlying0,
  a0 := Try.isAgg0,
  z0 := Try.sizeOf0,
  v0 := Try.zeroValue0,
  t4 := Try.underlying4,
  a4 := Try.isAgg4,
  z4 := Try.sizeOf4,
  v4 := Try.zeroValue4,
  t23 := Try.underlying102,
  a23 := Try.isAgg102,
  z23 := Try.sizeOf102,
  v23 := Try.zeroValue102,
  t26 := Try.underlying3,
  a26 := Try.isAgg3,
  z26 := Try.sizeOf3,
  v26 := Try.zeroValue3,
  t27 := Try.underlying134,
  a27 := Try.isAgg134,
  z27 := Try.sizeOf134,
  v27 := Try.zeroValue134,
  t28 := Try.underlying135,
  a28 := Try.isAgg135,
  z28 := Try.sizeOf135,
  v28 := Try.zeroValue135,
  t33 := Try.underlying58,
  a33 := Try.isAgg58,
  z33 := Try.sizeOf58,
  v33 := Try.zeroValue58 }
def Try.keysB_ren : Go.Shelf.Ren := ⟨fun | 7 => 143 | 10 => 159 | n => n, fun | 23 => 181 | 26 => 3 | 3 => 4 | 28 => 135 | 0 => 0 | 27 => 134 | 33 => 58 | 4 => 4 | n => n, fun | n => n⟩
theorem Try.keysB : Go.Proofs.SlLaysZI.n7 Try.prog Try.keysB_ren := {
  mixed := by kernel_rfl,
  f7 := ⟨Try.f143.name, by decide, Try.func143.trans (congrArg some (by kernel_rfl))⟩,
  f10 := ⟨Try.f159.name, by decide, Try.func159.trans (congrArg some (by kernel_rfl))⟩,
  t0 := Try.underlying0,
  a0 := Try.isAgg0,
  z0 := Try.sizeOf0,
  v0 := Try.zeroValue0,
  t4 := Try.underlying4,
  a4 := Try.isAgg4,
  z4 := Try.sizeOf4,
  v4 := Try.zeroValue4,
  t23 := Try.underlying181,
  a23 := Try.isAgg181,
  z23 := Try.sizeOf181,
  v23 := Try.zeroValue181,
  t26 := Try.underlying3,
  a26 := Try.isAgg3,
  z26 := Try.sizeOf3,
  v26 := Try.zeroValue3,
  t27 := Try.underlying134,
  a27 := Try.isAgg134,
  z27 := Try.sizeOf134,
  v27 := Try.zeroValue134,
  t28 := Try.underlying135,
  a28 := Try.isAgg135,
  z28 := Try.sizeOf135,
  v28 := Try.zeroValue135,
  t33 := Try.underlying58,
  a33 := Try.isAgg58,
  z33 := Try.sizeOf58,
  v33 := Try.zeroValue58 }
def Try.sortedA_ren : Go.Shelf.Ren := ⟨fun | 6 => 87 | 8 => 114 | 9 => 115 | 11 => 135 | 13 => 137 | 12 => 136 | 23 => 157 | 24 => 158 | 14 => 148 | 15 => 149 | 16 => 150 | 17 => 151 | 18 => 152 | 19 => 153 | 20 => 154 | 21 => 155 | 22 => 156 | 25 => 160 | 26 => 161 | 27 => 162 | 28 => 163 | 29 => 164 | 30 => 89 | 31 => 165 | n => n, fun | 26 => 3 | 28 => 135 | 24 => 22 | 0 => 0 | 3 => 3 | 37 => 187 | 48 => 198 | 50 => 183 | 4 => 4 | 40 => 193 | 39 => 192 | 45 => 146 | 5 => 5 | 9 => 9 | 51 => 200 | 55 => 204 | 57 => 206 | 58 => 41 | 33 => 58 | n => n, fun | n => n⟩
theorem Try.sortedA : Go.Proofs.SlLaysZI.n6 Try.prog Try.sortedA_ren := {
  mixed := by kernel_rfl,
  f6 := ⟨Try.f87.name, by decide, Try.func87.trans (congrArg some (by kernel_rfl))⟩,
  f8 := ⟨Try.f114.name, by decide, Try.func114.trans (congrArg some (by kernel_rfl))⟩,
  f11 := ⟨Try.f135.name, by decide, Try.func135.trans (congrArg some (by kernel_rfl))⟩,
  t0 := Try.underlying0,
  a0 := Try.isAgg0,
  z0 := Try.sizeOf0,
  v0 := Try.zeroValue0,
  t24 := Try.underlying22,
  a24 := Try.isAgg22,
  z24 := Try.sizeOf22,
  v24 := Try.zeroValue22,
  t26 := Try.underlying3,
  a26 := Try.isAgg3,
  z26 := Try.sizeOf3,
  v26 := Try.zeroValue3,
  t28 := Try.underlying135,
  a28 := Try.isAgg135,
  z28 := Try.sizeOf135,
  v28 := Try.zeroValue135,
  i26 := by kernel_rfl }
def Try.sortA_ren : Go.Shelf.Ren := ⟨fun | 5 => 115 | 8 => 137 | 7 => 136 | 19 => 157 | 20 => 158 | 10 => 148 | 11 => 149 | 12 => 150 | 13 => 151 | 14 => 152 | 15 => 153 | 16 => 154 | 17 => 155 | 18 => 156 | 30 => 160 | 31 => 161 | 32 => 162 | 33 => 163 | 34 => 164 | 35 => 89 | 40 => 165 | n => n, fun | 23 => 22 | 25 => 3 | 3 => 3 | 32 => 187 | 22 => 22 | 0 => 0 | 44 => 198 | 46 => 183 | 4 => 4 | 36 => 193 | 35 => 192 | 41 => 146 | 5 => 5 | 9 => 9 | 53 => 200 | 57 => 204 | 63 => 206 | 64 => 41 | n => n, fun | n => n⟩
theorem Try.sortA : Go.Proofs.SlLaysM.n5 Try.prog Try.sortA_ren := {
  mixed := by kernel_rfl,
  f5 := ⟨Try.f115.name, by decide, Try.func115.trans (congrArg some (by kernel_rfl))⟩,
  f7 := ⟨Try.f136.name, by decide, Try.func136.trans (congrArg some (by kernel_rfl))⟩,
  f8 := Try.func137.trans (congrArg some (by kernel_rfl)),
  f10 := ⟨Try.f148.name, by decide, Try.func148.trans (congrArg some (by kernel_rfl))⟩,
  f11 := ⟨Try.f149.name, by decide, Try.func149.trans (congrArg some (by kernel_rfl))⟩,
  f12 := ⟨Try.f150.name, by decide, Try.func150.trans (congrArg some (by kernel_rfl))⟩,
  f13 := ⟨Try.f151.name, by decide, Try.func151.trans (congrArg some (by kernel_rfl))⟩,
  f14 := ⟨Try.f152.name, by decide, Try.func152.trans (congrArg some (by kernel_rfl))⟩,
  f15 := ⟨Try.f153.name, by decide, Try.func153.trans (congrArg some (by kernel_rfl))⟩,
  f16 := ⟨Try.f154.name, by decide, Try.func154.trans (congrArg some (by kernel_rfl))⟩,
  f17 := ⟨Try.f155.name, by decide, Try.func155.trans (congrArg some (by kernel_rfl))⟩,
  f18 := ⟨Try.f156.name, by decide, Try.func156.trans (congrArg some (by kernel_rfl))⟩,
  f19 := Try.func157.trans (congrArg some (by kernel_rfl)),
  f20 := Try.func158.trans (congrArg some (by kernel_rfl)),
  f30 := ⟨Try.f160.name, by decide, Try.func160.trans (congrArg some (by kernel_rfl))⟩,
  f31 := Try.func161.trans (congrArg some (by kernel_rfl)),
  f32 := Try.func162.trans (congrArg some (by kernel_rfl)),
  f33 := ⟨Try.f163.name, by decide, Try.func163.trans (congrArg some (by kernel_rfl))⟩,
  f34 := ⟨Try.f164.name, by decide, Try.func164.trans (congrArg some (by kernel_rfl))⟩,
  f35 := ⟨Try.f89.name, by decide, Try.func89.trans (congrArg some (by kernel_rfl))⟩,
  f40 := ⟨Try.f165.name, by decide, Try.func165.trans (congrArg some (by kernel_rfl))⟩,
  t0 := Try.underlying0,
  a0 := Try.isAgg0,
  z0 := Try.sizeOf0,
  v0 := Try.zeroValue0,
  t3 := Try.underlying3,
  a3 := Try.isAgg3,
  z3 := Try.sizeOf3,
  v3 := Try.zeroValue3,
  t4 := Try.underlying4,
  a4 := Try.isAgg4,
  z4 := Try.sizeOf4,
  v4 := Try.zeroValue4,
  t5 := Try.underlying5,
  a5 := Try.isAgg5,
  z5 := Try.sizeOf5,
  v5 := Try.zeroValue5,
  t9 := Try.underlying9,
  a9 := Try.isAgg9,
  z9 := Try.sizeOf9,
  v9 := Try.zeroValue9,
  t22 := Try.underlying22,
  a22 := Try.isAgg22,
  z22 := Try.sizeOf22,
  v22 := Try.zeroValue22,
  t23 := Try.underlying22,
  a23 := Try.isAgg22,
  z23 := Try.sizeOf22,
  v23 := Try.zeroValue22,
  t25 := Try.underlying3,
  a25 := Try.isAgg3,
  z25 := Try.sizeOf3,
  v25 := Try.zeroValue3,
  t32 := Try.underlying187,
  a32 := Try.isAgg187,
  z32 := Try.sizeOf187,
  v32 := Try.zeroValue187,
  t35 := Try.underlying192,
  a35 := Try.isAgg192,
  z35 := Try.sizeOf192,
  v35 := Try.zeroValue192,
  t36 := Try.underlying193,
  a36 := Try.isAgg193,
  z36 := Try.sizeOf193,
  v36 := Try.zeroValue193,
  t41 := Try.underlying146,
  a41 := Try.isAgg146,
  z41 := Try.sizeOf146,
  v41 := Try.zeroValue146,
  t44 := Try.underlying198,
  a44 := Try.isAgg198,
  z44 := Try.sizeOf198,
  v44 := Try.zeroValue198,
  t46 := Try.underlying183,
  a46 := Try.isAgg183,
  z46 := Try.sizeOf183,
  v46 := Try.zeroValue183,
  t53 := Try.underlying200,
  a53 := Try.isAgg200,
  z53 := Try.sizeOf200,
  v53 := Try.zeroValue200,
  t57 := Try.underlying204,
  a57 := Try.isAgg204,
  z57 := Try.sizeOf204,
  v57 := Try.zeroValue204,
  t63 := Try.underlying206,
  a63 := Try.isAgg206,
  z63 := Try.sizeOf206,
  v63 := Try.zeroValue206,
  t64 := Try.underlying41,
  a64 := Try.isAgg41,
  z64 := Try.sizeOf41,
  v64 := Try.zeroValue41 }

theorem Try.sortsA (m : Nat) : AnyZI.SortsIn Try.prog Try.sortedA_ren Fence.wide m :=
  ⟨fun blk off cap ss W hH hblk hsz => callsIn_wide.2 (AnyM.slices_Sort_int Try.sortA blk off cap ss W hH hblk hsz),
   fun p cap W => callsIn_wide.2 (AnyM.slices_Sort_int_none Try.sortA p cap W)⟩
namespace Ytkcpejbabbbjpaa
theorem sk116 : SortKeysC Try.prog 87 116 3 3 := by
  intro b nn D0 R w Bm hBm hc hown hmax hbytes
  refine (callsIn_wide (n := 6)).1 ?_
  have hseq : SeqGives Fence.wide 3 Try.prog 116 #[.pointer (some ⟨Bm, 0, none⟩)] encZ (fun ss => ss.Perm (intKeys D0)) (Maps.size D0) w :=
    AnyZI.keys_gives (ρ := Try.keysA_ren) { Try.keysA with } Fence.wide _ trivial rfl (by omega) Bm b nn D0 _ hBm hc (by
      obtain ⟨es, clock, hb, Ft, hs, hD⟩ := hown
      exact ⟨es, clock, hb, Ft, hs, hD⟩)
  exact AnyZI.sorted_in Try.sortedA Fence.wide 6 trivial trivial trivial trivial rfl (by omega) (Try.sortsA _) (enters_of Try.func115 (by kernel_rfl) rfl) 116 #[.pointer (some ⟨Bm, 0, none⟩)] trivial (enters_of Try.func116 (by kernel_rfl) rfl) _ _ hmax hbytes _ hseq
theorem sk159 : SortKeysC Try.prog 87 159 3 3 := by
  intro b nn D0 R w Bm hBm hc hown hmax hbytes
  refine (callsIn_wide (n := 6)).1 ?_
  have hseq : SeqGives Fence.wide 3 Try.prog 159 #[.pointer (some ⟨Bm, 0, none⟩)] encZ (fun ss => ss.Perm (intKeys D0)) (Maps.size D0) w :=
    AnyZI.keys_gives (ρ := Try.keysB_ren) { Try.keysB with } Fence.wide _ trivial rfl (by omega) Bm b nn D0 _ hBm hc (by
      obtain ⟨es, clock, hb, Ft, hs, hD⟩ := hown
      exact ⟨es, clock, hb, Ft, hs, hD⟩)
  exact AnyZI.sorted_in Try.sortedA Fence.wide 6 trivial trivial trivial trivial rfl (by omega) (Try.sortsA _) (enters_of Try.func115 (by kernel_rfl) rfl) 159 #[.pointer (some ⟨Bm, 0, none⟩)] trivial (enters_of Try.func159 (by kernel_rfl) rfl) _ _ hmax hbytes _ hseq
theorem prim_ok : CalOk Try.prog (primSK 87 3 [116, 159]) := primSK_ok (by kernel_rfl) (by kernel_rfl) (by
  intro fk h
  simp only [List.mem_cons, List.not_mem_nil, or_false] at h
  rcases h with rfl | rfl
  · exact sk116
  · exact sk159)
end Ytkcpejbabbbjpaa
end Go.Proofs
