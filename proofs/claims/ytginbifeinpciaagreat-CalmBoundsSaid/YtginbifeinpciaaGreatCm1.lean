/- Runs from state to state, by the kernel: part 1. -/
import Derived.Test.YtginbifeinpciaaGreatPrims
import Derived.Test.YtginbifeinpciaaGreatEvG
namespace Go.Proofs.YtginbifeinpciaaGreat
open Go Go.Ev
noncomputable def Cms1x0 : Bl := [(9, .cells false 0 [.snil, kI 64, kI 0]),
  (10, .cells false 0 [kI 3, kI 14, kI 8, kI 32, kI 1, kI 64, kI 512, kI 1048576, kI 64, kI 1, kI 1, kI 1, kU 1, .pnil, .ptr 16 0, .ptr 235 0, .ptr 454 0, .pnil, .pnil, .pnil, .pnil, .ptr 9 0]),
  (14, .map [(.str [115, 110, 97, 112], .slice 126 0 17 17)]),
  (15, .cells false 0 [kI 1048576, .map 171, .map 14, .snil, .int .i64 (.negSucc 0), .bool false]),
  (16, .cells false 0 [.ptr 15 0, kI 3, kI 14, kI 8, kI 32, kI 1, kI 64, kI 512, kI 1048576, kI 64, kI 1, kI 1, kI 1, kU 1, kI 1, .ptr 229 0]),
  (126, .cells true 1 [kB 9, kB 0, kB 0, kB 0, kB 176, kB 254, kB 233, kB 96, kB 1, kB 1, kB 14, kB 5, kB 0, kB 0, kB 0, kB 0, kB 0]),
  (165, .cells false 0 [.ptr 15 0, kI 512, .snil]),
  (171, .map [(.str [115, 110, 97, 112], .slice 126 0 17 17)]),
  (177, .cells false 0 [.ptr 165 0, .ptr 15 0, kU 1, kI 0]),
  (186, .cells false 0 [kU 1, kU 1, kI 14, kU 1, .snil]),
  (190, .cells true 1 [kB 0, kB 0, kB 0, kB 0, kB 0]),
  (191, .cells false 0 [kU 0, kU 0, kI 0, .snil]),
  (192, .cells false 0 [kI 3, kI 14, kI 8, kI 32, kI 1, kI 64, kI 512, kI 1048576, kI 64, kI 1, kI 1, kI 1, kU 1, kI 1, kU 1, kI 0, kU 1, kU 1, kI 14, .slice 190 0 5 5, .ptr 186 0, kU 1, kI 0, kI 0, kI 4, kI 8, kI 0, .bool false, kU 0, kU 0, kI 0, kU 0, kU 0, kI 0, kU 0, kU 0, kI 0, kU 0, kU 0, kI 0, kU 0, kU 0, kI 0, kU 0, kU 0, kI 0, kU 0, kU 0, kI 0, kU 0, kU 0, kI 0, .ptr 191 0, kU 0, kI 0, kU 0, kU 0, kI 0, .snil, .bool false, kU 0, .snil, .snil]),
  (201, .cells false 0 [kI 3, kI 14, kI 8, kI 32, kI 1, kI 64, kI 512, kI 1048576, kI 64, kI 1, kI 1, kI 1, kU 1, .ptr 221 0, .ptr 226 0, kU 1]),
  (221, .cells false 0 [kI 1, .ptr 222 0, .ptr 223 0, .ptr 224 0, kU 0]),
  (222, .cells false 0 [.snil, .snil, kI 8]),
  (223, .cells false 0 [.snil, .snil, kI 64]),
  (224, .cells false 0 [.snil, .snil, kI 1]),
  (225, .cells false 0 [.snil, .snil, kI 1]),
  (226, .cells false 0 [kU 1, .ptr 225 0, kI 1]),
  (227, .cells false 0 [.snil, .snil, kI 1]),
  (228, .cells false 0 [.ptr 227 0]),
  (229, .cells false 0 [.ptr 177 0, .ptr 192 0, .ptr 201 0, .ptr 228 0, kI 0]),
  (233, .map [(.str [115, 110, 97, 112], .slice 345 0 17 17)]),
  (234, .cells false 0 [kI 1048576, .map 390, .map 233, .snil, .int .i64 (.negSucc 0), .bool false]),
  (235, .cells false 0 [.ptr 234 0, kI 3, kI 14, kI 8, kI 32, kI 1, kI 64, kI 512, kI 1048576, kI 64, kI 1, kI 1, kI 1, kU 1, kI 2, .ptr 448 0]),
  (345, .cells true 1 [kB 9, kB 0, kB 0, kB 0, kB 176, kB 254, kB 233, kB 96, kB 1, kB 1, kB 14, kB 5, kB 0, kB 0, kB 0, kB 0, kB 0]),
  (384, .cells false 0 [.ptr 234 0, kI 512, .snil]),
  (390, .map [(.str [115, 110, 97, 112], .slice 345 0 17 17)]),
  (396, .cells false 0 [.ptr 384 0, .ptr 234 0, kU 1, kI 0]),
  (405, .cells false 0 [kU 1, kU 1, kI 14, kU 1, .snil]),
  (409, .cells true 1 [kB 0, kB 0, kB 0, kB 0, kB 0]),
  (410, .cells false 0 [kU 0, kU 0, kI 0, .snil]),
  (411, .cells false 0 [kI 3, kI 14, kI 8, kI 32, kI 1, kI 64, kI 512, kI 1048576, kI 64, kI 1, kI 1, kI 1, kU 1, kI 2, kU 1, kI 0, kU 1, kU 1, kI 14, .slice 409 0 5 5, .ptr 405 0, kU 1, kI 0, kI 0, kI 4, kI 8, kI 0, .bool false, kU 0, kU 0, kI 0, kU 0, kU 0, kI 0, kU 0, kU 0, kI 0, kU 0, kU 0, kI 0, kU 0, kU 0, kI 0, kU 0, kU 0, kI 0, kU 0, kU 0, kI 0, kU 0, kU 0, kI 0, .ptr 410 0, kU 0, kI 0, kU 0, kU 0, kI 0, .snil, .bool false, kU 0, .snil, .snil]),
  (420, .cells false 0 [kI 3, kI 14, kI 8, kI 32, kI 1, kI 64, kI 512, kI 1048576, kI 64, kI 1, kI 1, kI 1, kU 1, .ptr 440 0, .ptr 445 0, kU 1]),
  (440, .cells false 0 [kI 1, .ptr 441 0, .ptr 442 0, .ptr 443 0, kU 0]),
  (441, .cells false 0 [.snil, .snil, kI 8]),
  (442, .cells false 0 [.snil, .snil, kI 64]),
  (443, .cells false 0 [.snil, .snil, kI 1]),
  (444, .cells false 0 [.snil, .snil, kI 1]),
  (445, .cells false 0 [kU 1, .ptr 444 0, kI 1]),
  (446, .cells false 0 [.snil, .snil, kI 1]),
  (447, .cells false 0 [.ptr 446 0]),
  (448, .cells false 0 [.ptr 396 0, .ptr 411 0, .ptr 420 0, .ptr 447 0, kI 0]),
  (452, .map [(.str [115, 110, 97, 112], .slice 564 0 17 17)]),
  (453, .cells false 0 [kI 1048576, .map 609, .map 452, .snil, .int .i64 (.negSucc 0), .bool false]),
  (454, .cells false 0 [.ptr 453 0, kI 3, kI 14, kI 8, kI 32, kI 1, kI 64, kI 512, kI 1048576, kI 64, kI 1, kI 1, kI 1, kU 1, kI 3, .ptr 667 0]),
  (564, .cells true 1 [kB 9, kB 0, kB 0, kB 0, kB 176, kB 254, kB 233, kB 96, kB 1, kB 1, kB 14, kB 5, kB 0, kB 0, kB 0, kB 0, kB 0]),
  (603, .cells false 0 [.ptr 453 0, kI 512, .snil]),
  (609, .map [(.str [115, 110, 97, 112], .slice 564 0 17 17)]),
  (615, .cells false 0 [.ptr 603 0, .ptr 453 0, kU 1, kI 0]),
  (624, .cells false 0 [kU 1, kU 1, kI 14, kU 1, .snil]),
  (628, .cells true 1 [kB 0, kB 0, kB 0, kB 0, kB 0]),
  (629, .cells false 0 [kU 0, kU 0, kI 0, .snil]),
  (630, .cells false 0 [kI 3, kI 14, kI 8, kI 32, kI 1, kI 64, kI 512, kI 1048576, kI 64, kI 1, kI 1, kI 1, kU 1, kI 3, kU 1, kI 0, kU 1, kU 1, kI 14, .slice 628 0 5 5, .ptr 624 0, kU 1, kI 0, kI 0, kI 4, kI 8, kI 0, .bool false, kU 0, kU 0, kI 0, kU 0, kU 0, kI 0, kU 0, kU 0, kI 0, kU 0, kU 0, kI 0, kU 0, kU 0, kI 0, kU 0, kU 0, kI 0, kU 0, kU 0, kI 0, kU 0, kU 0, kI 0, .ptr 629 0, kU 0, kI 0, kU 0, kU 0, kI 0, .snil, .bool false, kU 0, .snil, .snil]),
  (639, .cells false 0 [kI 3, kI 14, kI 8, kI 32, kI 1, kI 64, kI 512, kI 1048576, kI 64, kI 1, kI 1, kI 1, kU 1, .ptr 659 0, .ptr 664 0, kU 1]),
  (659, .cells false 0 [kI 1, .ptr 660 0, .ptr 661 0, .ptr 662 0, kU 0]),
  (660, .cells false 0 [.snil, .snil, kI 8]),
  (661, .cells false 0 [.snil, .snil, kI 64]),
  (662, .cells false 0 [.snil, .snil, kI 1]),
  (663, .cells false 0 [.snil, .snil, kI 1]),
  (664, .cells false 0 [kU 1, .ptr 663 0, kI 1]),
  (665, .cells false 0 [.snil, .snil, kI 1]),
  (666, .cells false 0 [.ptr 665 0]),
  (667, .cells false 0 [.ptr 615 0, .ptr 630 0, .ptr 639 0, .ptr 666 0, kI 0])]
noncomputable def Cms1x1 : Bl := nextL Cms1x0 [192, 411, 630] [(192, .cells false 0 [kI 3, kI 14, kI 8, kI 32, kI 1, kI 64, kI 512, kI 1048576, kI 64, kI 1, kI 1, kI 1, kU 1, kI 1, kU 1, kI 0, kU 1, kU 1, kI 14, .slice 190 0 5 5, .ptr 186 0, kU 1, kI 0, kI 0, kI 5, kI 8, kI 0, .bool false, kU 0, kU 0, kI 0, kU 0, kU 0, kI 0, kU 0, kU 0, kI 0, kU 0, kU 0, kI 0, kU 0, kU 0, kI 0, kU 0, kU 0, kI 0, kU 0, kU 0, kI 0, kU 0, kU 0, kI 0, .ptr 191 0, kU 0, kI 0, kU 0, kU 0, kI 0, .snil, .bool false, kU 0, .snil, .snil]),
  (411, .cells false 0 [kI 3, kI 14, kI 8, kI 32, kI 1, kI 64, kI 512, kI 1048576, kI 64, kI 1, kI 1, kI 1, kU 1, kI 2, kU 1, kI 0, kU 1, kU 1, kI 14, .slice 409 0 5 5, .ptr 405 0, kU 1, kI 0, kI 0, kI 5, kI 8, kI 0, .bool false, kU 0, kU 0, kI 0, kU 0, kU 0, kI 0, kU 0, kU 0, kI 0, kU 0, kU 0, kI 0, kU 0, kU 0, kI 0, kU 0, kU 0, kI 0, kU 0, kU 0, kI 0, kU 0, kU 0, kI 0, .ptr 410 0, kU 0, kI 0, kU 0, kU 0, kI 0, .snil, .bool false, kU 0, .snil, .snil]),
  (630, .cells false 0 [kI 3, kI 14, kI 8, kI 32, kI 1, kI 64, kI 512, kI 1048576, kI 64, kI 1, kI 1, kI 1, kU 1, kI 3, kU 1, kI 0, kU 1, kU 1, kI 14, .slice 628 0 5 5, .ptr 624 0, kU 1, kI 0, kI 0, kI 5, kI 8, kI 0, .bool false, kU 0, kU 0, kI 0, kU 0, kU 0, kI 0, kU 0, kU 0, kI 0, kU 0, kU 0, kI 0, kU 0, kU 0, kI 0, kU 0, kU 0, kI 0, kU 0, kU 0, kI 0, kU 0, kU 0, kI 0, .ptr 629 0, kU 0, kI 0, kU 0, kU 0, kI 0, .snil, .bool false, kU 0, .snil, .snil])]
noncomputable def Cme10 : TEnt := ⟨2972, [.ptr 10 0], Cms1x0, .snil, 3295, Cms1x1⟩
noncomputable def Cme11 : TEnt := ⟨3295, [.ptr 10 0], Cms1x1, kI 0, 3463, Cms1x1⟩
noncomputable def Cms1x2 : Bl := nextL Cms1x1 [192, 411, 630] [(192, .cells false 0 [kI 3, kI 14, kI 8, kI 32, kI 1, kI 64, kI 512, kI 1048576, kI 64, kI 1, kI 1, kI 1, kU 1, kI 1, kU 1, kI 0, kU 1, kU 1, kI 14, .slice 190 0 5 5, .ptr 186 0, kU 1, kI 0, kI 0, kI 6, kI 8, kI 0, .bool false, kU 0, kU 0, kI 0, kU 0, kU 0, kI 0, kU 0, kU 0, kI 0, kU 0, kU 0, kI 0, kU 0, kU 0, kI 0, kU 0, kU 0, kI 0, kU 0, kU 0, kI 0, kU 0, kU 0, kI 0, .ptr 191 0, kU 0, kI 0, kU 0, kU 0, kI 0, .snil, .bool false, kU 0, .snil, .snil]),
  (411, .cells false 0 [kI 3, kI 14, kI 8, kI 32, kI 1, kI 64, kI 512, kI 1048576, kI 64, kI 1, kI 1, kI 1, kU 1, kI 2, kU 1, kI 0, kU 1, kU 1, kI 14, .slice 409 0 5 5, .ptr 405 0, kU 1, kI 0, kI 0, kI 6, kI 8, kI 0, .bool false, kU 0, kU 0, kI 0, kU 0, kU 0, kI 0, kU 0, kU 0, kI 0, kU 0, kU 0, kI 0, kU 0, kU 0, kI 0, kU 0, kU 0, kI 0, kU 0, kU 0, kI 0, kU 0, kU 0, kI 0, .ptr 410 0, kU 0, kI 0, kU 0, kU 0, kI 0, .snil, .bool false, kU 0, .snil, .snil]),
  (630, .cells false 0 [kI 3, kI 14, kI 8, kI 32, kI 1, kI 64, kI 512, kI 1048576, kI 64, kI 1, kI 1, kI 1, kU 1, kI 3, kU 1, kI 0, kU 1, kU 1, kI 14, .slice 628 0 5 5, .ptr 624 0, kU 1, kI 0, kI 0, kI 6, kI 8, kI 0, .bool false, kU 0, kU 0, kI 0, kU 0, kU 0, kI 0, kU 0, kU 0, kI 0, kU 0, kU 0, kI 0, kU 0, kU 0, kI 0, kU 0, kU 0, kI 0, kU 0, kU 0, kI 0, kU 0, kU 0, kI 0, .ptr 629 0, kU 0, kI 0, kU 0, kU 0, kI 0, .snil, .bool false, kU 0, .snil, .snil])]
noncomputable def Cme12 : TEnt := ⟨3463, [.ptr 10 0], Cms1x1, .snil, 3786, Cms1x2⟩
noncomputable def Cme13 : TEnt := ⟨3786, [.ptr 10 0], Cms1x2, kI 0, 3954, Cms1x2⟩
noncomputable def Cms1x3 : Bl := nextL Cms1x2 [192, 411, 630] [(192, .cells false 0 [kI 3, kI 14, kI 8, kI 32, kI 1, kI 64, kI 512, kI 1048576, kI 64, kI 1, kI 1, kI 1, kU 1, kI 1, kU 1, kI 0, kU 1, kU 1, kI 14, .slice 190 0 5 5, .ptr 186 0, kU 1, kI 0, kI 0, kI 7, kI 8, kI 0, .bool false, kU 0, kU 0, kI 0, kU 0, kU 0, kI 0, kU 0, kU 0, kI 0, kU 0, kU 0, kI 0, kU 0, kU 0, kI 0, kU 0, kU 0, kI 0, kU 0, kU 0, kI 0, kU 0, kU 0, kI 0, .ptr 191 0, kU 0, kI 0, kU 0, kU 0, kI 0, .snil, .bool false, kU 0, .snil, .snil]),
  (411, .cells false 0 [kI 3, kI 14, kI 8, kI 32, kI 1, kI 64, kI 512, kI 1048576, kI 64, kI 1, kI 1, kI 1, kU 1, kI 2, kU 1, kI 0, kU 1, kU 1, kI 14, .slice 409 0 5 5, .ptr 405 0, kU 1, kI 0, kI 0, kI 7, kI 8, kI 0, .bool false, kU 0, kU 0, kI 0, kU 0, kU 0, kI 0, kU 0, kU 0, kI 0, kU 0, kU 0, kI 0, kU 0, kU 0, kI 0, kU 0, kU 0, kI 0, kU 0, kU 0, kI 0, kU 0, kU 0, kI 0, .ptr 410 0, kU 0, kI 0, kU 0, kU 0, kI 0, .snil, .bool false, kU 0, .snil, .snil]),
  (630, .cells false 0 [kI 3, kI 14, kI 8, kI 32, kI 1, kI 64, kI 512, kI 1048576, kI 64, kI 1, kI 1, kI 1, kU 1, kI 3, kU 1, kI 0, kU 1, kU 1, kI 14, .slice 628 0 5 5, .ptr 624 0, kU 1, kI 0, kI 0, kI 7, kI 8, kI 0, .bool false, kU 0, kU 0, kI 0, kU 0, kU 0, kI 0, kU 0, kU 0, kI 0, kU 0, kU 0, kI 0, kU 0, kU 0, kI 0, kU 0, kU 0, kI 0, kU 0, kU 0, kI 0, kU 0, kU 0, kI 0, .ptr 629 0, kU 0, kI 0, kU 0, kU 0, kI 0, .snil, .bool false, kU 0, .snil, .snil])]
noncomputable def Cme14 : TEnt := ⟨3954, [.ptr 10 0], Cms1x2, .snil, 4277, Cms1x3⟩
noncomputable def Cme15 : TEnt := ⟨4277, [.ptr 10 0], Cms1x3, kI 0, 4445, Cms1x3⟩
theorem Cmr1 : runsP Tryz.prog (primOf 223 117 126 215) 500 500 [(30, Cme10), (29, Cme11), (30, Cme12), (29, Cme13), (30, Cme14), (29, Cme15)] = some true := by kernel_rfl
theorem Cmk10 : TEntOk Tryz.prog 30 Cme10 := runs_ok plain mixed prims Cmr1 (30, Cme10) (List.mem_cons_self)
theorem Cmk11 : TEntOk Tryz.prog 29 Cme11 := runs_ok plain mixed prims Cmr1 (29, Cme11) (List.mem_cons_of_mem _ (List.mem_cons_self))
theorem Cmk12 : TEntOk Tryz.prog 30 Cme12 := runs_ok plain mixed prims Cmr1 (30, Cme12) (List.mem_cons_of_mem _ (List.mem_cons_of_mem _ (List.mem_cons_self)))
theorem Cmk13 : TEntOk Tryz.prog 29 Cme13 := runs_ok plain mixed prims Cmr1 (29, Cme13) (List.mem_cons_of_mem _ (List.mem_cons_of_mem _ (List.mem_cons_of_mem _ (List.mem_cons_self))))
theorem Cmk14 : TEntOk Tryz.prog 30 Cme14 := runs_ok plain mixed prims Cmr1 (30, Cme14) (List.mem_cons_of_mem _ (List.mem_cons_of_mem _ (List.mem_cons_of_mem _ (List.mem_cons_of_mem _ (List.mem_cons_self)))))
theorem Cmk15 : TEntOk Tryz.prog 29 Cme15 := runs_ok plain mixed prims Cmr1 (29, Cme15) (List.mem_cons_of_mem _ (List.mem_cons_of_mem _ (List.mem_cons_of_mem _ (List.mem_cons_of_mem _ (List.mem_cons_of_mem _ (List.mem_cons_self))))))
end Go.Proofs.YtginbifeinpciaaGreat
