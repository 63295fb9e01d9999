/- The kit's sorts at this program. -/
import Derived.Shelf.SlLaysF0
import Derived.Shelf.SlLaysM
import Derived.Shelf.SlSortCmp.NoneTotal
import Derived.Shelf.SortM.Plain
import Derived.Shelf.SortM.SortNone
import Derived.Test.YtkcllejnmpnjfaaF
import Derived.Test.YtkcllejnmpnjfaaL6
namespace Go.Proofs.Ytkcllejnmpnjfaa
open Go.Pm
def laySF226_ren : Go.Shelf.Ren := ⟨fun | 6 => 226 | 15 => 253 | 14 => 252 | 28 => 271 | 29 => 272 | 20 => 263 | 21 => 264 | 22 => 265 | 23 => 266 | 24 => 267 | 25 => 268 | 26 => 269 | 27 => 270 | 46 => 285 | 47 => 286 | 48 => 287 | 49 => 288 | 50 => 289 | 57 => 295 | n => n, fun | 22 => 50 | 24 => 101 | 25 => 223 | 3 => 3 | 39 => 181 | 0 => 0 | 53 => 232 | 55 => 178 | 4 => 4 | 46 => 252 | 45 => 251 | 50 => 173 | 5 => 5 | 9 => 9 | 66 => 266 | 70 => 270 | 76 => 275 | 77 => 276 | n => n, fun | n => n⟩
theorem laySF226 : Go.Proofs.SlLaysF0.n6 Try.prog laySF226_ren := {
  mixed := by kernel_rfl
  f6 := ⟨Try.f226.name, by decide, Try.func226.trans (congrArg some (by kernel_rfl))⟩
  f14 := ⟨Try.f252.name, by decide, Try.func252.trans (congrArg some (by kernel_rfl))⟩
  f15 := Try.func253.trans (congrArg some (by kernel_rfl))
  f20 := ⟨Try.f263.name, by decide, Try.func263.trans (congrArg some (by kernel_rfl))⟩
  f21 := ⟨Try.f264.name, by decide, Try.func264.trans (congrArg some (by kernel_rfl))⟩
  f22 := ⟨Try.f265.name, by decide, Try.func265.trans (congrArg some (by kernel_rfl))⟩
  f23 := ⟨Try.f266.name, by decide, Try.func266.trans (congrArg some (by kernel_rfl))⟩
  f24 := ⟨Try.f267.name, by decide, Try.func267.trans (congrArg some (by kernel_rfl))⟩
  f25 := ⟨Try.f268.name, by decide, Try.func268.trans (congrArg some (by kernel_rfl))⟩
  f26 := ⟨Try.f269.name, by decide, Try.func269.trans (congrArg some (by kernel_rfl))⟩
  f27 := ⟨Try.f270.name, by decide, Try.func270.trans (congrArg some (by kernel_rfl))⟩
  f28 := Try.func271.trans (congrArg some (by kernel_rfl))
  f29 := Try.func272.trans (congrArg some (by kernel_rfl))
  f46 := ⟨Try.f285.name, by decide, Try.func285.trans (congrArg some (by kernel_rfl))⟩
  f47 := Try.func286.trans (congrArg some (by kernel_rfl))
  f48 := Try.func287.trans (congrArg some (by kernel_rfl))
  f49 := ⟨Try.f288.name, by decide, Try.func288.trans (congrArg some (by kernel_rfl))⟩
  f50 := ⟨Try.f289.name, by decide, Try.func289.trans (congrArg some (by kernel_rfl))⟩
  f57 := ⟨Try.f295.name, by decide, Try.func295.trans (congrArg some (by kernel_rfl))⟩
  t0 := Try.underlying0
  a0 := Try.isAgg0
  z0 := Try.sizeOf0
  v0 := Try.zeroValue0
  t3 := Try.underlying3
  a3 := Try.isAgg3
  z3 := Try.sizeOf3
  v3 := Try.zeroValue3
  t4 := Try.underlying4
  a4 := Try.isAgg4
  z4 := Try.sizeOf4
  v4 := Try.zeroValue4
  t5 := Try.underlying5
  a5 := Try.isAgg5
  z5 := Try.sizeOf5
  v5 := Try.zeroValue5
  t9 := Try.underlying9
  a9 := Try.isAgg9
  z9 := Try.sizeOf9
  v9 := Try.zeroValue9
  t22 := Try.underlying50
  a22 := Try.isAgg50
  z22 := Try.sizeOf50
  v22 := Try.zeroValue50
  t25 := Try.underlying223
  a25 := Try.isAgg223
  z25 := Try.sizeOf223
  v25 := Try.zeroValue223
  t39 := Try.underlying181
  a39 := Try.isAgg181
  z39 := Try.sizeOf181
  v39 := Try.zeroValue181
  t45 := Try.underlying251
  a45 := Try.isAgg251
  z45 := Try.sizeOf251
  v45 := Try.zeroValue251
  t46 := Try.underlying252
  a46 := Try.isAgg252
  z46 := Try.sizeOf252
  v46 := Try.zeroValue252
  t50 := Try.underlying173
  a50 := Try.isAgg173
  z50 := Try.sizeOf173
  v50 := Try.zeroValue173
  t53 := Try.underlying232
  a53 := Try.isAgg232
  z53 := Try.sizeOf232
  v53 := Try.zeroValue232
  t55 := Try.underlying178
  a55 := Try.isAgg178
  z55 := Try.sizeOf178
  v55 := Try.zeroValue178
  t66 := Try.underlying266
  a66 := Try.isAgg266
  z66 := Try.sizeOf266
  v66 := Try.zeroValue266
  t70 := Try.underlying270
  a70 := Try.isAgg270
  z70 := Try.sizeOf270
  v70 := Try.zeroValue270
  t76 := Try.underlying275
  a76 := Try.isAgg275
  z76 := Try.sizeOf275
  v76 := Try.zeroValue275
  t77 := Try.underlying276
  a77 := Try.isAgg276
  z77 := Try.sizeOf276
  v77 := Try.zeroValue276 }
def layS_ren : Go.Shelf.Ren := ⟨fun | 5 => 232 | 8 => 253 | 7 => 255 | 19 => 271 | 20 => 272 | 10 => 273 | 11 => 274 | 12 => 275 | 13 => 276 | 14 => 277 | 15 => 278 | 16 => 279 | 17 => 280 | 18 => 281 | 30 => 290 | 31 => 286 | 32 => 287 | 33 => 291 | 34 => 292 | 35 => 240 | 40 => 296 | n => n, fun | 23 => 48 | 25 => 2 | 3 => 3 | 32 => 181 | 22 => 48 | 0 => 0 | 44 => 232 | 46 => 178 | 4 => 4 | 36 => 252 | 35 => 251 | 41 => 173 | 5 => 5 | 9 => 9 | 53 => 266 | 57 => 270 | 63 => 275 | 64 => 276 | n => n, fun | n => n⟩
theorem layS : Go.Proofs.SlLaysM.n5 Try.prog layS_ren := {
  mixed := by kernel_rfl
  f5 := ⟨Try.f232.name, by decide, Try.func232.trans (congrArg some (by kernel_rfl))⟩
  f7 := ⟨Try.f255.name, by decide, Try.func255.trans (congrArg some (by kernel_rfl))⟩
  f8 := Try.func253.trans (congrArg some (by kernel_rfl))
  f10 := ⟨Try.f273.name, by decide, Try.func273.trans (congrArg some (by kernel_rfl))⟩
  f11 := ⟨Try.f274.name, by decide, Try.func274.trans (congrArg some (by kernel_rfl))⟩
  f12 := ⟨Try.f275.name, by decide, Try.func275.trans (congrArg some (by kernel_rfl))⟩
  f13 := ⟨Try.f276.name, by decide, Try.func276.trans (congrArg some (by kernel_rfl))⟩
  f14 := ⟨Try.f277.name, by decide, Try.func277.trans (congrArg some (by kernel_rfl))⟩
  f15 := ⟨Try.f278.name, by decide, Try.func278.trans (congrArg some (by kernel_rfl))⟩
  f16 := ⟨Try.f279.name, by decide, Try.func279.trans (congrArg some (by kernel_rfl))⟩
  f17 := ⟨Try.f280.name, by decide, Try.func280.trans (congrArg some (by kernel_rfl))⟩
  f18 := ⟨Try.f281.name, by decide, Try.func281.trans (congrArg some (by kernel_rfl))⟩
  f19 := Try.func271.trans (congrArg some (by kernel_rfl))
  f20 := Try.func272.trans (congrArg some (by kernel_rfl))
  f30 := ⟨Try.f290.name, by decide, Try.func290.trans (congrArg some (by kernel_rfl))⟩
  f31 := Try.func286.trans (congrArg some (by kernel_rfl))
  f32 := Try.func287.trans (congrArg some (by kernel_rfl))
  f33 := ⟨Try.f291.name, by decide, Try.func291.trans (congrArg some (by kernel_rfl))⟩
  f34 := ⟨Try.f292.name, by decide, Try.func292.trans (congrArg some (by kernel_rfl))⟩
  f35 := ⟨Try.f240.name, by decide, Try.func240.trans (congrArg some (by kernel_rfl))⟩
  f40 := ⟨Try.f296.name, by decide, Try.func296.trans (congrArg some (by kernel_rfl))⟩
  t0 := Try.underlying0
  a0 := Try.isAgg0
  z0 := Try.sizeOf0
  v0 := Try.zeroValue0
  t3 := Try.underlying3
  a3 := Try.isAgg3
  z3 := Try.sizeOf3
  v3 := Try.zeroValue3
  t4 := Try.underlying4
  a4 := Try.isAgg4
  z4 := Try.sizeOf4
  v4 := Try.zeroValue4
  t5 := Try.underlying5
  a5 := Try.isAgg5
  z5 := Try.sizeOf5
  v5 := Try.zeroValue5
  t9 := Try.underlying9
  a9 := Try.isAgg9
  z9 := Try.sizeOf9
  v9 := Try.zeroValue9
  t22 := Try.underlying48
  a22 := Try.isAgg48
  z22 := Try.sizeOf48
  v22 := Try.zeroValue48
  t23 := Try.underlying48
  a23 := Try.isAgg48
  z23 := Try.sizeOf48
  v23 := Try.zeroValue48
  t25 := Try.underlying2
  a25 := Try.isAgg2
  z25 := Try.sizeOf2
  v25 := Try.zeroValue2
  t32 := Try.underlying181
  a32 := Try.isAgg181
  z32 := Try.sizeOf181
  v32 := Try.zeroValue181
  t35 := Try.underlying251
  a35 := Try.isAgg251
  z35 := Try.sizeOf251
  v35 := Try.zeroValue251
  t36 := Try.underlying252
  a36 := Try.isAgg252
  z36 := Try.sizeOf252
  v36 := Try.zeroValue252
  t41 := Try.underlying173
  a41 := Try.isAgg173
  z41 := Try.sizeOf173
  v41 := Try.zeroValue173
  t44 := Try.underlying232
  a44 := Try.isAgg232
  z44 := Try.sizeOf232
  v44 := Try.zeroValue232
  t46 := Try.underlying178
  a46 := Try.isAgg178
  z46 := Try.sizeOf178
  v46 := Try.zeroValue178
  t53 := Try.underlying266
  a53 := Try.isAgg266
  z53 := Try.sizeOf266
  v53 := Try.zeroValue266
  t57 := Try.underlying270
  a57 := Try.isAgg270
  z57 := Try.sizeOf270
  v57 := Try.zeroValue270
  t63 := Try.underlying275
  a63 := Try.isAgg275
  z63 := Try.sizeOf275
  v63 := Try.zeroValue275
  t64 := Try.underlying276
  a64 := Try.isAgg276
  z64 := Try.sizeOf276
  v64 := Try.zeroValue276 }
section
variable {P : Program} [Is P]
theorem k_sortEntry0 : KSort0 P 226 := Is.on (fun P => KSort0 P 226) fun p cap fv w => AnyF.slices_SortFunc_none laySF226 p cap fv w
theorem k_sortEntry : KSort P 226 3 := Is.on (fun P => KSort P 226 3) fun enc hk h1 cf hO g cb blk off cap d w eg hcmp hH hblk hsz => AnyQ.slices_SortFunc laySF226 3 Try.isAgg101 Try.sizeOf101 enc hk h1 cf hO g cb blk off cap d w eg hcmp hH hblk hsz
theorem k_sortI0 : KSortI0 P 232 := Is.on (fun P => KSortI0 P 232) fun p cap w => AnyM.slices_Sort_int_none layS p cap w
theorem k_sortI : KSortI P 232 := Is.on (fun P => KSortI P 232) fun blk off cap zs w hH hblk hsz => AnyM.slices_Sort_int layS blk off cap zs w hH hblk hsz
end
end Go.Proofs.Ytkcllejnmpnjfaa
