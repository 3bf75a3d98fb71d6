/- slices.Sorted(maps.Keys(m)), out of the shelf (the layings printed by the kit's tool for this seat). -/
import Derived.Shelf.SlIterI.Nil
import Derived.Shelf.SortM.Plain
import Derived.Shelf.SortM.SortNone
import Derived.Test.YtpbmlaolpfaicaaProg
import Derived.Test.YtpbmlaolpfaicaaSortK
import Derived.KernelRfl
namespace Go.Proofs
open Go.Shelf
def TryL.keys53_ren : Go.Shelf.Ren := ⟨fun | 7 => 107 | 10 => 131 | n => n, fun | 23 => 152 | 26 => 3 | 3 => 4 | 28 => 213 | 0 => 0 | 27 => 212 | 33 => 100 | 4 => 4 | n => n, fun | n => n⟩
theorem TryL.keys53 : Go.Proofs.SlLaysZI.n7 Try.prog TryL.keys53_ren := {
  mixed := by kernel_rfl
  f7 := ⟨Try.f107.name, by decide, Try.func107.trans (congrArg some (by kernel_rfl))⟩
  f10 := ⟨Try.f131.name, by decide, Try.func131.trans (congrArg some (by kernel_rfl))⟩
  t0 := Try.underlying0
  a0 := Try.isAgg0
  z0 := Try.sizeOf0
  v0 := Try.zeroValue0
  t4 := Try.underlying4
  a4 := Try.isAgg4
  z4 := Try.sizeOf4
  v4 := Try.zeroValue4
  t23 := Try.underlying152
  a23 := Try.isAgg152
  z23 := Try.sizeOf152
  v23 := Try.zeroValue152
  t26 := Try.underlying3
  a26 := Try.isAgg3
  z26 := Try.sizeOf3
  v26 := Try.zeroValue3
  t27 := Try.underlying212
  a27 := Try.isAgg212
  z27 := Try.sizeOf212
  v27 := Try.zeroValue212
  t28 := Try.underlying213
  a28 := Try.isAgg213
  z28 := Try.sizeOf213
  v28 := Try.zeroValue213
  t33 := Try.underlying100
  a33 := Try.isAgg100
  z33 := Try.sizeOf100
  v33 := Try.zeroValue100 }
def TryL.sorted44_ren : Go.Shelf.Ren := ⟨fun | 6 => 106 | 8 => 129 | 9 => 130 | 11 => 138 | 13 => 140 | 12 => 139 | 23 => 161 | 24 => 162 | 14 => 152 | 15 => 153 | 16 => 154 | 17 => 155 | 18 => 156 | 19 => 157 | 20 => 158 | 21 => 159 | 22 => 160 | 25 => 169 | 26 => 170 | 27 => 171 | 28 => 172 | 29 => 173 | 30 => 174 | 31 => 176 | n => n, fun | 26 => 3 | 28 => 213 | 24 => 23 | 0 => 0 | 3 => 3 | 37 => 220 | 48 => 48 | 50 => 105 | 4 => 4 | 40 => 285 | 39 => 284 | 45 => 256 | 5 => 5 | 9 => 9 | 51 => 300 | 55 => 303 | 57 => 306 | 58 => 228 | 33 => 100 | n => n, fun | n => n⟩
theorem TryL.sorted44 : Go.Proofs.SlLaysZI.n6 Try.prog TryL.sorted44_ren := {
  mixed := by kernel_rfl
  f6 := ⟨Try.f106.name, by decide, Try.func106.trans (congrArg some (by kernel_rfl))⟩
  f8 := ⟨Try.f129.name, by decide, Try.func129.trans (congrArg some (by kernel_rfl))⟩
  f11 := ⟨Try.f138.name, by decide, Try.func138.trans (congrArg some (by kernel_rfl))⟩
  t0 := Try.underlying0
  a0 := Try.isAgg0
  z0 := Try.sizeOf0
  v0 := Try.zeroValue0
  t24 := Try.underlying23
  a24 := Try.isAgg23
  z24 := Try.sizeOf23
  v24 := Try.zeroValue23
  t26 := Try.underlying3
  a26 := Try.isAgg3
  z26 := Try.sizeOf3
  v26 := Try.zeroValue3
  t28 := Try.underlying213
  a28 := Try.isAgg213
  z28 := Try.sizeOf213
  v28 := Try.zeroValue213
  i26 := by kernel_rfl }
def TryL.sort57_ren : Go.Shelf.Ren := ⟨fun | 5 => 130 | 8 => 140 | 7 => 139 | 19 => 161 | 20 => 162 | 10 => 152 | 11 => 153 | 12 => 154 | 13 => 155 | 14 => 156 | 15 => 157 | 16 => 158 | 17 => 159 | 18 => 160 | 30 => 169 | 31 => 170 | 32 => 171 | 33 => 172 | 34 => 173 | 35 => 174 | 40 => 176 | n => n, fun | 23 => 23 | 25 => 3 | 3 => 3 | 32 => 220 | 22 => 23 | 0 => 0 | 44 => 48 | 46 => 105 | 4 => 4 | 36 => 285 | 35 => 284 | 41 => 256 | 5 => 5 | 9 => 9 | 53 => 300 | 57 => 303 | 63 => 306 | 64 => 228 | n => n, fun | n => n⟩
theorem TryL.sort57 : Go.Proofs.SlLaysM.n5 Try.prog TryL.sort57_ren := {
  mixed := by kernel_rfl
  f5 := ⟨Try.f130.name, by decide, Try.func130.trans (congrArg some (by kernel_rfl))⟩
  f7 := ⟨Try.f139.name, by decide, Try.func139.trans (congrArg some (by kernel_rfl))⟩
  f8 := Try.func140.trans (congrArg some (by kernel_rfl))
  f10 := ⟨Try.f152.name, by decide, Try.func152.trans (congrArg some (by kernel_rfl))⟩
  f11 := ⟨Try.f153.name, by decide, Try.func153.trans (congrArg some (by kernel_rfl))⟩
  f12 := ⟨Try.f154.name, by decide, Try.func154.trans (congrArg some (by kernel_rfl))⟩
  f13 := ⟨Try.f155.name, by decide, Try.func155.trans (congrArg some (by kernel_rfl))⟩
  f14 := ⟨Try.f156.name, by decide, Try.func156.trans (congrArg some (by kernel_rfl))⟩
  f15 := ⟨Try.f157.name, by decide, Try.func157.trans (congrArg some (by kernel_rfl))⟩
  f16 := ⟨Try.f158.name, by decide, Try.func158.trans (congrArg some (by kernel_rfl))⟩
  f17 := ⟨Try.f159.name, by decide, Try.func159.trans (congrArg some (by kernel_rfl))⟩
  f18 := ⟨Try.f160.name, by decide, Try.func160.trans (congrArg some (by kernel_rfl))⟩
  f19 := Try.func161.trans (congrArg some (by kernel_rfl))
  f20 := Try.func162.trans (congrArg some (by kernel_rfl))
  f30 := ⟨Try.f169.name, by decide, Try.func169.trans (congrArg some (by kernel_rfl))⟩
  f31 := Try.func170.trans (congrArg some (by kernel_rfl))
  f32 := Try.func171.trans (congrArg some (by kernel_rfl))
  f33 := ⟨Try.f172.name, by decide, Try.func172.trans (congrArg some (by kernel_rfl))⟩
  f34 := ⟨Try.f173.name, by decide, Try.func173.trans (congrArg some (by kernel_rfl))⟩
  f35 := ⟨Try.f174.name, by decide, Try.func174.trans (congrArg some (by kernel_rfl))⟩
  f40 := ⟨Try.f176.name, by decide, Try.func176.trans (congrArg some (by kernel_rfl))⟩
  t0 := Try.underlying0
  a0 := Try.isAgg0
  z0 := Try.sizeOf0
  v0 := Try.zeroValue0
  t3 := Try.underlying3
  a3 := Try.isAgg3
  z3 := Try.sizeOf3
  v3 := Try.zeroValue3
  t4 := Try.underlying4
  a4 := Try.isAgg4
  z4 := Try.sizeOf4
  v4 := Try.zeroValue4
  t5 := Try.underlying5
  a5 := Try.isAgg5
  z5 := Try.sizeOf5
  v5 := Try.zeroValue5
  t9 := Try.underlying9
  a9 := Try.isAgg9
  z9 := Try.sizeOf9
  v9 := Try.zeroValue9
  t22 := Try.underlying23
  a22 := Try.isAgg23
  z22 := Try.sizeOf23
  v22 := Try.zeroValue23
  t23 := Try.underlying23
  a23 := Try.isAgg23
  z23 := Try.sizeOf23
  v23 := Try.zeroValue23
  t25 := Try.underlying3
  a25 := Try.isAgg3
  z25 := Try.sizeOf3
  v25 := Try.zeroValue3
  t32 := Try.underlying220
  a32 := Try.isAgg220
  z32 := Try.sizeOf220
  v32 := Try.zeroValue220
  t35 := Try.underlying284
  a35 := Try.isAgg284
  z35 := Try.sizeOf284
  v35 := Try.zeroValue284
  t36 := Try.underlying285
  a36 := Try.isAgg285
  z36 := Try.sizeOf285
  v36 := Try.zeroValue285
  t41 := Try.underlying256
  a41 := Try.isAgg256
  z41 := Try.sizeOf256
  v41 := Try.zeroValue256
  t44 := Try.underlying48
  a44 := Try.isAgg48
  z44 := Try.sizeOf48
  v44 := Try.zeroValue48
  t46 := Try.underlying105
  a46 := Try.isAgg105
  z46 := Try.sizeOf105
  v46 := Try.zeroValue105
  t53 := Try.underlying300
  a53 := Try.isAgg300
  z53 := Try.sizeOf300
  v53 := Try.zeroValue300
  t57 := Try.underlying303
  a57 := Try.isAgg303
  z57 := Try.sizeOf303
  v57 := Try.zeroValue303
  t63 := Try.underlying306
  a63 := Try.isAgg306
  z63 := Try.sizeOf306
  v63 := Try.zeroValue306
  t64 := Try.underlying228
  a64 := Try.isAgg228
  z64 := Try.sizeOf228
  v64 := Try.zeroValue228 }
theorem TryL.sorts44 (m : Nat) : AnyZI.SortsIn Try.prog TryL.sorted44_ren Fence.wide m :=
  ⟨fun blk off cap ss W hH hblk hsz => callsIn_wide.2 (AnyM.slices_Sort_int TryL.sort57 blk off cap ss W hH hblk hsz),
   fun p cap W => callsIn_wide.2 (AnyM.slices_Sort_int_none TryL.sort57 p cap W)⟩
set_option maxHeartbeats 1000000 in
theorem TryL.says53 : Go.AE.SortedSays Try.prog 106 131 3 3 := fun w Bm b nn D0 R hcell hBm hown hmax hbytes => by
  refine (callsIn_wide (n := 5)).1 ?_
  have hseq : SeqGives Fence.wide 2 Try.prog 131 #[.pointer (some ⟨Bm, 0, none⟩)] encZ (fun ss => ss.Perm (intKeys D0)) (Maps.size D0) w :=
    AnyZI.keys_gives (ρ := TryL.keys53_ren) { TryL.keys53 with } Fence.wide _ trivial rfl (by omega) Bm b nn D0 w hBm hcell hown
  exact AnyZI.sorted_in TryL.sorted44 Fence.wide 5 trivial trivial trivial trivial rfl (by omega) (TryL.sorts44 _) (enters_of Try.func130 (by kernel_rfl) rfl) 131 #[.pointer (some ⟨Bm, 0, none⟩)] trivial (enters_of Try.func131 (by kernel_rfl) rfl) _ _ hmax hbytes w hseq
end Go.Proofs
