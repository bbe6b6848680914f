/- Closed facts on the functions: what each answers with, and that a walk of its code is a call. -/
import Derived.Test.YtpcgnmoogjahbaaProg
import Derived.Test.YtpcgnmoogjahbaaVO
set_option maxRecDepth 100000
namespace Go.Proofs.Ytpcgnmoogjahbaa
open Go Go.VL

theorem res15 : Try.f15.results.toList = [.tmp 2] := by kernel_rfl
theorem res16 : Try.f16.results.toList = [.tmp 2] := by kernel_rfl
theorem res3 : Try.f3.results.toList = [.tmp 2] := by kernel_rfl
theorem res4 : Try.f4.results.toList = [.tmp 4] := by kernel_rfl
theorem res18 : Try.f18.results.toList = [.tmp 4] := by kernel_rfl
theorem res59 : Try.f59.results.toList = [.tmp 4] := by kernel_rfl
theorem res17 : Try.f17.results.toList = [.tmp 4] := by kernel_rfl
theorem res60 : Try.f60.results.toList = [.tmp 4] := by kernel_rfl
theorem res61 : Try.f61.results.toList = [.cell 2 31] := by kernel_rfl
theorem res19 : Try.f19.results.toList = [.cell 8 31, .tmp 9] := by kernel_rfl
theorem res21 : Try.f21.results.toList = [.tmp 2] := by kernel_rfl
theorem res62 : Try.f62.results.toList = [.cell 2 31] := by kernel_rfl
theorem res20 : Try.f20.results.toList = [.tmp 2] := by kernel_rfl
theorem res102 : Try.f102.results.toList = [.tmp 2] := by kernel_rfl
theorem res63 : Try.f63.results.toList = [.cell 4 31, .cell 5 4] := by kernel_rfl
theorem res64 : Try.f64.results.toList = [.tmp 4] := by kernel_rfl
theorem res103 : Try.f103.results.toList = [.tmp 2] := by kernel_rfl
theorem res65 : Try.f65.results.toList = [.cell 2 31] := by kernel_rfl
theorem res22 : Try.f22.results.toList = [.cell 8 31, .tmp 9] := by kernel_rfl
theorem res25 : Try.f25.results.toList = [.tmp 4] := by kernel_rfl
theorem res23 : Try.f23.results.toList = [.tmp 4] := by kernel_rfl
theorem res24 : Try.f24.results.toList = [.tmp 4] := by kernel_rfl
theorem res66 : Try.f66.results.toList = [.tmp 2] := by kernel_rfl
theorem res27 : Try.f27.results.toList = [.tmp 4] := by kernel_rfl
theorem res26 : Try.f26.results.toList = [.tmp 4] := by kernel_rfl
theorem res28 : Try.f28.results.toList = [.tmp 4] := by kernel_rfl
theorem res67 : Try.f67.results.toList = [.tmp 4] := by kernel_rfl
theorem res29 : Try.f29.results.toList = [.tmp 4] := by kernel_rfl
theorem res5 : Try.f5.results.toList = [.tmp 8] := by kernel_rfl
theorem res104 : Try.f104.results.toList = [.tmp 4] := by kernel_rfl
theorem res68 : Try.f68.results.toList = [.tmp 4] := by kernel_rfl
theorem res57 : Try.f57.results.toList = [.tmp 4] := by kernel_rfl
theorem res69 : Try.f69.results.toList = [.tmp 4] := by kernel_rfl
theorem res30 : Try.f30.results.toList = [.tmp 4] := by kernel_rfl
theorem res105 : Try.f105.results.toList = [.tmp 2] := by kernel_rfl
theorem res70 : Try.f70.results.toList = [.tmp 4] := by kernel_rfl
theorem res97 : Try.f97.results.toList = [.tmp 4, .tmp 5] := by kernel_rfl
theorem res106 : Try.f106.results.toList = [.tmp 6] := by kernel_rfl
theorem res107 : Try.f107.results.toList = [.tmp 4] := by kernel_rfl
theorem res71 : Try.f71.results.toList = [.tmp 4] := by kernel_rfl
theorem res31 : Try.f31.results.toList = [.tmp 2] := by kernel_rfl
theorem res108 : Try.f108.results.toList = [.cell 2 81] := by kernel_rfl
theorem res72 : Try.f72.results.toList = [.tmp 2] := by kernel_rfl
theorem res58 : Try.f58.results.toList = [.cell 2 57] := by kernel_rfl
theorem res73 : Try.f73.results.toList = [.tmp 2] := by kernel_rfl
theorem res32 : Try.f32.results.toList = [.cell 2 52] := by kernel_rfl
theorem res74 : Try.f74.results.toList = [.tmp 6] := by kernel_rfl
theorem res75 : Try.f75.results.toList = [.tmp 4] := by kernel_rfl
theorem res76 : Try.f76.results.toList = [.tmp 2] := by kernel_rfl
theorem res77 : Try.f77.results.toList = [.tmp 2] := by kernel_rfl
theorem res126 : Try.f126.results.toList = [.tmp 6, .tmp 7] := by kernel_rfl
theorem res109 : Try.f109.results.toList = [.tmp 4, .tmp 5] := by kernel_rfl
theorem res134 : Try.f134.results.toList = [] := by kernel_rfl
theorem res138 : Try.f138.results.toList = [] := by kernel_rfl
theorem res137 : Try.f137.results.toList = [] := by kernel_rfl
theorem res135 : Try.f135.results.toList = [] := by kernel_rfl
theorem res129 : Try.f129.results.toList = [.tmp 6] := by kernel_rfl
theorem res110 : Try.f110.results.toList = [.tmp 6] := by kernel_rfl
theorem res130 : Try.f130.results.toList = [.tmp 6] := by kernel_rfl
theorem res111 : Try.f111.results.toList = [.tmp 4] := by kernel_rfl
theorem res78 : Try.f78.results.toList = [.tmp 4] := by kernel_rfl
theorem res33 : Try.f33.results.toList = [.tmp 2] := by kernel_rfl
theorem res98 : Try.f98.results.toList = [.tmp 4] := by kernel_rfl
theorem res50 : Try.f50.results.toList = [.tmp 4] := by kernel_rfl
theorem res112 : Try.f112.results.toList = [.tmp 4] := by kernel_rfl
theorem res79 : Try.f79.results.toList = [.tmp 4] := by kernel_rfl
theorem res34 : Try.f34.results.toList = [.tmp 4] := by kernel_rfl
theorem res6 : Try.f6.results.toList = [.tmp 2] := by kernel_rfl
theorem res80 : Try.f80.results.toList = [.tmp 2] := by kernel_rfl
theorem res113 : Try.f113.results.toList = [.tmp 4] := by kernel_rfl
theorem res114 : Try.f114.results.toList = [.tmp 4] := by kernel_rfl
theorem res81 : Try.f81.results.toList = [.cell 2 57] := by kernel_rfl
theorem res85 : Try.f85.results.toList = [.cell 2 52] := by kernel_rfl
theorem res100 : Try.f100.results.toList = [.tmp 6] := by kernel_rfl
theorem res86 : Try.f86.results.toList = [.tmp 2] := by kernel_rfl
theorem res37 : Try.f37.results.toList = [.cell 4 52, .tmp 5] := by kernel_rfl
theorem res56 : Try.f56.results.toList = [.cell 2 52] := by kernel_rfl
theorem res115 : Try.f115.results.toList = [.tmp 4] := by kernel_rfl
theorem res116 : Try.f116.results.toList = [.tmp 4] := by kernel_rfl
theorem res82 : Try.f82.results.toList = [.cell 2 52] := by kernel_rfl
theorem res35 : Try.f35.results.toList = [.cell 2 52, .cell 3 57] := by kernel_rfl
theorem res117 : Try.f117.results.toList = [.tmp 2] := by kernel_rfl
theorem res83 : Try.f83.results.toList = [.cell 2 52] := by kernel_rfl
theorem res118 : Try.f118.results.toList = [.tmp 4] := by kernel_rfl
theorem res87 : Try.f87.results.toList = [.tmp 2] := by kernel_rfl
theorem res84 : Try.f84.results.toList = [.tmp 4] := by kernel_rfl
theorem res36 : Try.f36.results.toList = [.cell 4 52, .tmp 5] := by kernel_rfl
theorem res38 : Try.f38.results.toList = [.tmp 4] := by kernel_rfl
theorem res39 : Try.f39.results.toList = [.tmp 2] := by kernel_rfl
theorem res88 : Try.f88.results.toList = [.tmp 4, .tmp 5] := by kernel_rfl
theorem res40 : Try.f40.results.toList = [.tmp 4, .tmp 5] := by kernel_rfl
theorem res7 : Try.f7.results.toList = [.tmp 4] := by kernel_rfl
theorem res41 : Try.f41.results.toList = [.cell 2 73] := by kernel_rfl
theorem res42 : Try.f42.results.toList = [.cell 2 73] := by kernel_rfl
theorem res131 : Try.f131.results.toList = [.tmp 4] := by kernel_rfl
theorem res119 : Try.f119.results.toList = [.tmp 4] := by kernel_rfl
theorem res132 : Try.f132.results.toList = [.tmp 4] := by kernel_rfl
theorem res120 : Try.f120.results.toList = [.tmp 4] := by kernel_rfl
theorem res89 : Try.f89.results.toList = [.tmp 4] := by kernel_rfl
theorem res90 : Try.f90.results.toList = [.tmp 4] := by kernel_rfl
theorem res43 : Try.f43.results.toList = [.tmp 4] := by kernel_rfl
theorem res52 : Try.f52.results.toList = [.tmp 4] := by kernel_rfl
theorem res99 : Try.f99.results.toList = [.tmp 4] := by kernel_rfl
theorem res51 : Try.f51.results.toList = [.tmp 4] := by kernel_rfl
theorem res121 : Try.f121.results.toList = [.tmp 4] := by kernel_rfl
theorem res122 : Try.f122.results.toList = [.tmp 4] := by kernel_rfl
theorem res91 : Try.f91.results.toList = [.tmp 4] := by kernel_rfl
theorem res92 : Try.f92.results.toList = [.tmp 4] := by kernel_rfl
theorem res44 : Try.f44.results.toList = [.tmp 4] := by kernel_rfl
theorem res53 : Try.f53.results.toList = [.tmp 4] := by kernel_rfl
theorem res101 : Try.f101.results.toList = [.tmp 4] := by kernel_rfl
theorem res55 : Try.f55.results.toList = [.tmp 4] := by kernel_rfl
theorem res93 : Try.f93.results.toList = [.tmp 4] := by kernel_rfl
theorem res123 : Try.f123.results.toList = [.tmp 4] := by kernel_rfl
theorem res124 : Try.f124.results.toList = [.tmp 4] := by kernel_rfl
theorem res94 : Try.f94.results.toList = [.tmp 4] := by kernel_rfl
theorem res95 : Try.f95.results.toList = [.tmp 4] := by kernel_rfl
theorem res45 : Try.f45.results.toList = [.tmp 4] := by kernel_rfl
theorem res8 : Try.f8.results.toList = [.tmp 2] := by kernel_rfl
theorem res46 : Try.f46.results.toList = [.tmp 2] := by kernel_rfl
theorem res96 : Try.f96.results.toList = [.cell 4 52] := by kernel_rfl
theorem res47 : Try.f47.results.toList = [.cell 4 52] := by kernel_rfl
theorem res48 : Try.f48.results.toList = [.cell 2 52] := by kernel_rfl
theorem res9 : Try.f9.results.toList = [.tmp 4] := by kernel_rfl
theorem res49 : Try.f49.results.toList = [.tmp 4, .tmp 5] := by kernel_rfl
theorem res10 : Try.f10.results.toList = [.tmp 4] := by kernel_rfl
theorem res11 : Try.f11.results.toList = [.tmp 2] := by kernel_rfl
theorem res54 : Try.f54.results.toList = [.cell 4 52] := by kernel_rfl
theorem res12 : Try.f12.results.toList = [.tmp 4] := by kernel_rfl
theorem res13 : Try.f13.results.toList = [.tmp 2] := by kernel_rfl
theorem res14 : Try.f14.results.toList = [.tmp 4] := by kernel_rfl
end Go.Proofs.Ytpcgnmoogjahbaa
