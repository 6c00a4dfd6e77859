/- Runs from state to state, by the kernel: part 6. -/
import Derived.Test.YtginbifeinpciaaGreatPrims
import Derived.Test.YtginbifeinpciaaGreatEvG
namespace Go.Proofs.YtginbifeinpciaaGreat
open Go Go.Ev
noncomputable def Cms6x0 : Bl := [(9, .cells false 0 [.slice 6767 0 0 7, kI 64, kI 0]),
  (10, .cells false 0 [kI 3, kI 14, kI 8, kI 32, kI 1, kI 64, kI 512, kI 1048576, kI 64, kI 1, kI 1, kI 1, kU 1, .pnil, .ptr 16 0, .ptr 235 0, .ptr 454 0, .pnil, .pnil, .pnil, .pnil, .ptr 9 0]),
  (14, .map [(.str [115, 110, 97, 112], .slice 126 0 17 17), (.str [104, 97, 114, 100], .slice 6663 0 10 10)]),
  (15, .cells false 0 [kI 1048576, .map 6664, .map 14, .snil, .int .i64 (.negSucc 0), .bool false]),
  (16, .cells false 0 [.ptr 15 0, kI 3, kI 14, kI 8, kI 32, kI 1, kI 64, kI 512, kI 1048576, kI 64, kI 1, kI 1, kI 1, kU 1, kI 1, .ptr 229 0]),
  (126, .cells true 1 [kB 9, kB 0, kB 0, kB 0, kB 176, kB 254, kB 233, kB 96, kB 1, kB 1, kB 14, kB 5, kB 0, kB 0, kB 0, kB 0, kB 0]),
  (165, .cells false 0 [.ptr 15 0, kI 512, .snil]),
  (177, .cells false 0 [.ptr 165 0, .ptr 15 0, kU 2, kI 1]),
  (186, .cells false 0 [kU 1, kU 1, kI 14, kU 1, .snil]),
  (190, .cells true 1 [kB 0, kB 0, kB 0, kB 0, kB 0]),
  (191, .cells false 0 [kU 0, kU 0, kI 0, .snil]),
  (192, .cells false 0 [kI 3, kI 14, kI 8, kI 32, kI 1, kI 64, kI 512, kI 1048576, kI 64, kI 1, kI 1, kI 1, kU 1, kI 1, kU 2, kI 1, kU 1, kU 1, kI 14, .slice 190 0 5 5, .ptr 186 0, kU 1, kI 1, kI 0, kI 5, kI 11, kI 2, .bool false, kU 0, kU 0, kI 0, kU 0, kU 0, kI 0, kU 0, kU 0, kI 0, kU 0, kU 0, kI 0, kU 0, kU 0, kI 0, kU 0, kU 0, kI 0, kU 0, kU 0, kI 0, kU 0, kU 0, kI 0, .ptr 191 0, kU 0, kI 0, kU 0, kU 0, kI 0, .snil, .bool false, kU 0, .snil, .snil]),
  (201, .cells false 0 [kI 3, kI 14, kI 8, kI 32, kI 1, kI 64, kI 512, kI 1048576, kI 64, kI 1, kI 1, kI 1, kU 1, .ptr 221 0, .ptr 226 0, kU 1]),
  (221, .cells false 0 [kI 1, .ptr 222 0, .ptr 223 0, .ptr 224 0, kU 0]),
  (222, .cells false 0 [.snil, .snil, kI 8]),
  (223, .cells false 0 [.snil, .snil, kI 64]),
  (224, .cells false 0 [.snil, .snil, kI 1]),
  (225, .cells false 0 [.snil, .snil, kI 1]),
  (226, .cells false 0 [kU 1, .ptr 225 0, kI 1]),
  (227, .cells false 0 [.snil, .snil, kI 1]),
  (228, .cells false 0 [.ptr 227 0]),
  (229, .cells false 0 [.ptr 177 0, .ptr 192 0, .ptr 201 0, .ptr 228 0, kI 0]),
  (233, .map [(.str [115, 110, 97, 112], .slice 345 0 17 17), (.str [104, 97, 114, 100], .slice 7020 0 10 10)]),
  (234, .cells false 0 [kI 1048576, .map 7021, .map 233, .snil, .int .i64 (.negSucc 0), .bool false]),
  (235, .cells false 0 [.ptr 234 0, kI 3, kI 14, kI 8, kI 32, kI 1, kI 64, kI 512, kI 1048576, kI 64, kI 1, kI 1, kI 1, kU 1, kI 2, .ptr 448 0]),
  (345, .cells true 1 [kB 9, kB 0, kB 0, kB 0, kB 176, kB 254, kB 233, kB 96, kB 1, kB 1, kB 14, kB 5, kB 0, kB 0, kB 0, kB 0, kB 0]),
  (384, .cells false 0 [.ptr 234 0, kI 512, .snil]),
  (396, .cells false 0 [.ptr 384 0, .ptr 234 0, kU 2, kI 2]),
  (405, .cells false 0 [kU 1, kU 1, kI 14, kU 1, .snil]),
  (409, .cells true 1 [kB 0, kB 0, kB 0, kB 0, kB 0]),
  (410, .cells false 0 [kU 0, kU 0, kI 0, .snil]),
  (411, .cells false 0 [kI 3, kI 14, kI 8, kI 32, kI 1, kI 64, kI 512, kI 1048576, kI 64, kI 1, kI 1, kI 1, kU 1, kI 2, kU 2, kI 2, kU 1, kU 1, kI 14, .slice 409 0 5 5, .ptr 405 0, kU 1, kI 1, kI 0, kI 5, kI 14, kI 4, .bool false, kU 0, kU 0, kI 0, kU 0, kU 0, kI 0, kU 0, kU 0, kI 0, kU 0, kU 0, kI 0, kU 0, kU 0, kI 0, kU 0, kU 0, kI 0, kU 0, kU 0, kI 0, kU 0, kU 0, kI 0, .ptr 410 0, kU 0, kI 0, kU 0, kU 0, kI 0, .snil, .bool false, kU 0, .snil, .snil]),
  (420, .cells false 0 [kI 3, kI 14, kI 8, kI 32, kI 1, kI 64, kI 512, kI 1048576, kI 64, kI 1, kI 1, kI 1, kU 1, .ptr 440 0, .ptr 445 0, kU 1]),
  (440, .cells false 0 [kI 1, .ptr 441 0, .ptr 442 0, .ptr 443 0, kU 0]),
  (441, .cells false 0 [.snil, .snil, kI 8]),
  (442, .cells false 0 [.snil, .snil, kI 64]),
  (443, .cells false 0 [.snil, .snil, kI 1]),
  (444, .cells false 0 [.snil, .snil, kI 1]),
  (445, .cells false 0 [kU 1, .ptr 444 0, kI 1]),
  (446, .cells false 0 [.snil, .snil, kI 1]),
  (447, .cells false 0 [.ptr 446 0]),
  (448, .cells false 0 [.ptr 396 0, .ptr 411 0, .ptr 420 0, .ptr 447 0, kI 0]),
  (452, .map [(.str [115, 110, 97, 112], .slice 564 0 17 17), (.str [104, 97, 114, 100], .slice 7376 0 10 10)]),
  (453, .cells false 0 [kI 1048576, .map 7377, .map 452, .snil, .int .i64 (.negSucc 0), .bool false]),
  (454, .cells false 0 [.ptr 453 0, kI 3, kI 14, kI 8, kI 32, kI 1, kI 64, kI 512, kI 1048576, kI 64, kI 1, kI 1, kI 1, kU 1, kI 3, .ptr 667 0]),
  (564, .cells true 1 [kB 9, kB 0, kB 0, kB 0, kB 176, kB 254, kB 233, kB 96, kB 1, kB 1, kB 14, kB 5, kB 0, kB 0, kB 0, kB 0, kB 0]),
  (603, .cells false 0 [.ptr 453 0, kI 512, .snil]),
  (615, .cells false 0 [.ptr 603 0, .ptr 453 0, kU 2, kI 3]),
  (624, .cells false 0 [kU 1, kU 1, kI 14, kU 1, .snil]),
  (628, .cells true 1 [kB 0, kB 0, kB 0, kB 0, kB 0]),
  (629, .cells false 0 [kU 0, kU 0, kI 0, .snil]),
  (630, .cells false 0 [kI 3, kI 14, kI 8, kI 32, kI 1, kI 64, kI 512, kI 1048576, kI 64, kI 1, kI 1, kI 1, kU 1, kI 3, kU 2, kI 3, kU 1, kU 1, kI 14, .slice 628 0 5 5, .ptr 624 0, kU 1, kI 1, kI 0, kI 5, kI 17, kI 8, .bool false, kU 0, kU 0, kI 0, kU 0, kU 0, kI 0, kU 0, kU 0, kI 0, kU 0, kU 0, kI 0, kU 0, kU 0, kI 0, kU 0, kU 0, kI 0, kU 0, kU 0, kI 0, kU 0, kU 0, kI 0, .ptr 629 0, kU 0, kI 0, kU 0, kU 0, kI 0, .snil, .bool false, kU 0, .snil, .snil]),
  (639, .cells false 0 [kI 3, kI 14, kI 8, kI 32, kI 1, kI 64, kI 512, kI 1048576, kI 64, kI 1, kI 1, kI 1, kU 1, .ptr 659 0, .ptr 664 0, kU 1]),
  (659, .cells false 0 [kI 1, .ptr 660 0, .ptr 661 0, .ptr 662 0, kU 0]),
  (660, .cells false 0 [.snil, .snil, kI 8]),
  (661, .cells false 0 [.snil, .snil, kI 64]),
  (662, .cells false 0 [.snil, .snil, kI 1]),
  (663, .cells false 0 [.snil, .snil, kI 1]),
  (664, .cells false 0 [kU 1, .ptr 663 0, kI 1]),
  (665, .cells false 0 [.snil, .snil, kI 1]),
  (666, .cells false 0 [.ptr 665 0]),
  (667, .cells false 0 [.ptr 615 0, .ptr 630 0, .ptr 639 0, .ptr 666 0, kI 0]),
  (6663, .cells true 1 [kB 2, kB 0, kB 0, kB 0, kB 63, kB 196, kB 79, kB 36, kB 2, kB 1]),
  (6664, .map [(.str [115, 110, 97, 112], .slice 126 0 17 17), (.str [104, 97, 114, 100], .slice 6663 0 10 10)]),
  (6767, .cells true 3 [kI 2, kI 3, .slice 9006 0 10 10, kI 2, kI 3, .slice 9006 0 10 10, kI 2, kI 3, .slice 9006 0 10 10, kI 2, kI 3, .slice 9006 0 10 10, kI 2, kI 3, .slice 9006 0 10 10, kI 2, kI 3, .slice 9006 0 10 10, kI 3, kI 2, .slice 7477 0 11 11]),
  (7020, .cells true 1 [kB 2, kB 0, kB 0, kB 0, kB 203, kB 55, kB 31, kB 55, kB 2, kB 2]),
  (7021, .map [(.str [115, 110, 97, 112], .slice 345 0 17 17), (.str [104, 97, 114, 100], .slice 7020 0 10 10)]),
  (7376, .cells true 1 [kB 2, kB 0, kB 0, kB 0, kB 200, kB 180, kB 116, kB 197, kB 2, kB 3]),
  (7377, .map [(.str [115, 110, 97, 112], .slice 564 0 17 17), (.str [104, 97, 114, 100], .slice 7376 0 10 10)]),
  (7477, .cells true 1 [kB 1, kB 3, kB 2, kB 2, kB 1, kB 1, kB 1, kB 172, kB 248, kB 76, kB 108]),
  (9006, .cells true 1 [kB 2, kB 2, kB 3, kB 2, kB 1, kB 1, kB 81, kB 195, kB 0, kB 48])]
noncomputable def Cms6x1 : Bl := nextL Cms6x0 [192, 411, 630] [(192, .cells false 0 [kI 3, kI 14, kI 8, kI 32, kI 1, kI 64, kI 512, kI 1048576, kI 64, kI 1, kI 1, kI 1, kU 1, kI 1, kU 2, kI 1, kU 1, kU 1, kI 14, .slice 190 0 5 5, .ptr 186 0, kU 1, kI 1, kI 0, kI 6, kI 11, kI 2, .bool false, kU 0, kU 0, kI 0, kU 0, kU 0, kI 0, kU 0, kU 0, kI 0, kU 0, kU 0, kI 0, kU 0, kU 0, kI 0, kU 0, kU 0, kI 0, kU 0, kU 0, kI 0, kU 0, kU 0, kI 0, .ptr 191 0, kU 0, kI 0, kU 0, kU 0, kI 0, .snil, .bool false, kU 0, .snil, .snil]),
  (411, .cells false 0 [kI 3, kI 14, kI 8, kI 32, kI 1, kI 64, kI 512, kI 1048576, kI 64, kI 1, kI 1, kI 1, kU 1, kI 2, kU 2, kI 2, kU 1, kU 1, kI 14, .slice 409 0 5 5, .ptr 405 0, kU 1, kI 1, kI 0, kI 6, kI 14, kI 4, .bool false, kU 0, kU 0, kI 0, kU 0, kU 0, kI 0, kU 0, kU 0, kI 0, kU 0, kU 0, kI 0, kU 0, kU 0, kI 0, kU 0, kU 0, kI 0, kU 0, kU 0, kI 0, kU 0, kU 0, kI 0, .ptr 410 0, kU 0, kI 0, kU 0, kU 0, kI 0, .snil, .bool false, kU 0, .snil, .snil]),
  (630, .cells false 0 [kI 3, kI 14, kI 8, kI 32, kI 1, kI 64, kI 512, kI 1048576, kI 64, kI 1, kI 1, kI 1, kU 1, kI 3, kU 2, kI 3, kU 1, kU 1, kI 14, .slice 628 0 5 5, .ptr 624 0, kU 1, kI 1, kI 0, kI 6, kI 17, kI 8, .bool false, kU 0, kU 0, kI 0, kU 0, kU 0, kI 0, kU 0, kU 0, kI 0, kU 0, kU 0, kI 0, kU 0, kU 0, kI 0, kU 0, kU 0, kI 0, kU 0, kU 0, kI 0, kU 0, kU 0, kI 0, .ptr 629 0, kU 0, kI 0, kU 0, kU 0, kI 0, .snil, .bool false, kU 0, .snil, .snil])]
noncomputable def Cme28 : TEnt := ⟨11254, [.ptr 10 0], Cms6x0, .snil, 11577, Cms6x1⟩
noncomputable def Cme29 : TEnt := ⟨11577, [.ptr 10 0], Cms6x1, kI 0, 11745, Cms6x1⟩
noncomputable def Cms6x2 : Bl := nextL Cms6x1 [192, 411, 630] [(192, .cells false 0 [kI 3, kI 14, kI 8, kI 32, kI 1, kI 64, kI 512, kI 1048576, kI 64, kI 1, kI 1, kI 1, kU 1, kI 1, kU 2, kI 1, kU 1, kU 1, kI 14, .slice 190 0 5 5, .ptr 186 0, kU 1, kI 1, kI 0, kI 7, kI 11, kI 2, .bool false, kU 0, kU 0, kI 0, kU 0, kU 0, kI 0, kU 0, kU 0, kI 0, kU 0, kU 0, kI 0, kU 0, kU 0, kI 0, kU 0, kU 0, kI 0, kU 0, kU 0, kI 0, kU 0, kU 0, kI 0, .ptr 191 0, kU 0, kI 0, kU 0, kU 0, kI 0, .snil, .bool false, kU 0, .snil, .snil]),
  (411, .cells false 0 [kI 3, kI 14, kI 8, kI 32, kI 1, kI 64, kI 512, kI 1048576, kI 64, kI 1, kI 1, kI 1, kU 1, kI 2, kU 2, kI 2, kU 1, kU 1, kI 14, .slice 409 0 5 5, .ptr 405 0, kU 1, kI 1, kI 0, kI 7, kI 14, kI 4, .bool false, kU 0, kU 0, kI 0, kU 0, kU 0, kI 0, kU 0, kU 0, kI 0, kU 0, kU 0, kI 0, kU 0, kU 0, kI 0, kU 0, kU 0, kI 0, kU 0, kU 0, kI 0, kU 0, kU 0, kI 0, .ptr 410 0, kU 0, kI 0, kU 0, kU 0, kI 0, .snil, .bool false, kU 0, .snil, .snil]),
  (630, .cells false 0 [kI 3, kI 14, kI 8, kI 32, kI 1, kI 64, kI 512, kI 1048576, kI 64, kI 1, kI 1, kI 1, kU 1, kI 3, kU 2, kI 3, kU 1, kU 1, kI 14, .slice 628 0 5 5, .ptr 624 0, kU 1, kI 1, kI 0, kI 7, kI 17, kI 8, .bool false, kU 0, kU 0, kI 0, kU 0, kU 0, kI 0, kU 0, kU 0, kI 0, kU 0, kU 0, kI 0, kU 0, kU 0, kI 0, kU 0, kU 0, kI 0, kU 0, kU 0, kI 0, kU 0, kU 0, kI 0, .ptr 629 0, kU 0, kI 0, kU 0, kU 0, kI 0, .snil, .bool false, kU 0, .snil, .snil])]
noncomputable def Cme30 : TEnt := ⟨11745, [.ptr 10 0], Cms6x1, .snil, 12068, Cms6x2⟩
noncomputable def Cme31 : TEnt := ⟨12068, [.ptr 10 0], Cms6x2, kI 0, 12236, Cms6x2⟩
noncomputable def Cms6x3 : Bl := nextL Cms6x2 [192, 411, 630] [(192, .cells false 0 [kI 3, kI 14, kI 8, kI 32, kI 1, kI 64, kI 512, kI 1048576, kI 64, kI 1, kI 1, kI 1, kU 1, kI 1, kU 2, kI 1, kU 1, kU 1, kI 14, .slice 190 0 5 5, .ptr 186 0, kU 1, kI 1, kI 0, kI 8, kI 11, kI 2, .bool false, kU 0, kU 0, kI 0, kU 0, kU 0, kI 0, kU 0, kU 0, kI 0, kU 0, kU 0, kI 0, kU 0, kU 0, kI 0, kU 0, kU 0, kI 0, kU 0, kU 0, kI 0, kU 0, kU 0, kI 0, .ptr 191 0, kU 0, kI 0, kU 0, kU 0, kI 0, .snil, .bool false, kU 0, .snil, .snil]),
  (411, .cells false 0 [kI 3, kI 14, kI 8, kI 32, kI 1, kI 64, kI 512, kI 1048576, kI 64, kI 1, kI 1, kI 1, kU 1, kI 2, kU 2, kI 2, kU 1, kU 1, kI 14, .slice 409 0 5 5, .ptr 405 0, kU 1, kI 1, kI 0, kI 8, kI 14, kI 4, .bool false, kU 0, kU 0, kI 0, kU 0, kU 0, kI 0, kU 0, kU 0, kI 0, kU 0, kU 0, kI 0, kU 0, kU 0, kI 0, kU 0, kU 0, kI 0, kU 0, kU 0, kI 0, kU 0, kU 0, kI 0, .ptr 410 0, kU 0, kI 0, kU 0, kU 0, kI 0, .snil, .bool false, kU 0, .snil, .snil]),
  (630, .cells false 0 [kI 3, kI 14, kI 8, kI 32, kI 1, kI 64, kI 512, kI 1048576, kI 64, kI 1, kI 1, kI 1, kU 1, kI 3, kU 2, kI 3, kU 1, kU 1, kI 14, .slice 628 0 5 5, .ptr 624 0, kU 1, kI 1, kI 0, kI 8, kI 17, kI 8, .bool false, kU 0, kU 0, kI 0, kU 0, kU 0, kI 0, kU 0, kU 0, kI 0, kU 0, kU 0, kI 0, kU 0, kU 0, kI 0, kU 0, kU 0, kI 0, kU 0, kU 0, kI 0, kU 0, kU 0, kI 0, .ptr 629 0, kU 0, kI 0, kU 0, kU 0, kI 0, .snil, .bool false, kU 0, .snil, .snil])]
noncomputable def Cme32 : TEnt := ⟨12236, [.ptr 10 0], Cms6x2, .snil, 12559, Cms6x3⟩
noncomputable def Cme33 : TEnt := ⟨12559, [.ptr 10 0], Cms6x3, kI 0, 12727, Cms6x3⟩
noncomputable def Cms6x4 : Bl := nextL Cms6x3 [192, 411, 630] [(192, .cells false 0 [kI 3, kI 14, kI 8, kI 32, kI 1, kI 64, kI 512, kI 1048576, kI 64, kI 1, kI 1, kI 1, kU 1, kI 1, kU 2, kI 1, kU 1, kU 1, kI 14, .slice 190 0 5 5, .ptr 186 0, kU 1, kI 1, kI 0, kI 9, kI 11, kI 2, .bool false, kU 0, kU 0, kI 0, kU 0, kU 0, kI 0, kU 0, kU 0, kI 0, kU 0, kU 0, kI 0, kU 0, kU 0, kI 0, kU 0, kU 0, kI 0, kU 0, kU 0, kI 0, kU 0, kU 0, kI 0, .ptr 191 0, kU 0, kI 0, kU 0, kU 0, kI 0, .snil, .bool false, kU 0, .snil, .snil]),
  (411, .cells false 0 [kI 3, kI 14, kI 8, kI 32, kI 1, kI 64, kI 512, kI 1048576, kI 64, kI 1, kI 1, kI 1, kU 1, kI 2, kU 2, kI 2, kU 1, kU 1, kI 14, .slice 409 0 5 5, .ptr 405 0, kU 1, kI 1, kI 0, kI 9, kI 14, kI 4, .bool false, kU 0, kU 0, kI 0, kU 0, kU 0, kI 0, kU 0, kU 0, kI 0, kU 0, kU 0, kI 0, kU 0, kU 0, kI 0, kU 0, kU 0, kI 0, kU 0, kU 0, kI 0, kU 0, kU 0, kI 0, .ptr 410 0, kU 0, kI 0, kU 0, kU 0, kI 0, .snil, .bool false, kU 0, .snil, .snil]),
  (630, .cells false 0 [kI 3, kI 14, kI 8, kI 32, kI 1, kI 64, kI 512, kI 1048576, kI 64, kI 1, kI 1, kI 1, kU 1, kI 3, kU 2, kI 3, kU 1, kU 1, kI 14, .slice 628 0 5 5, .ptr 624 0, kU 1, kI 1, kI 0, kI 9, kI 17, kI 8, .bool false, kU 0, kU 0, kI 0, kU 0, kU 0, kI 0, kU 0, kU 0, kI 0, kU 0, kU 0, kI 0, kU 0, kU 0, kI 0, kU 0, kU 0, kI 0, kU 0, kU 0, kI 0, kU 0, kU 0, kI 0, .ptr 629 0, kU 0, kI 0, kU 0, kU 0, kI 0, .snil, .bool false, kU 0, .snil, .snil])]
noncomputable def Cme34 : TEnt := ⟨12727, [.ptr 10 0], Cms6x3, .snil, 13050, Cms6x4⟩
noncomputable def Cme35 : TEnt := ⟨13050, [.ptr 10 0], Cms6x4, kI 0, 13218, Cms6x4⟩
noncomputable def Cms6x5 : Bl := nextL Cms6x4 [192, 411, 630] [(192, .cells false 0 [kI 3, kI 14, kI 8, kI 32, kI 1, kI 64, kI 512, kI 1048576, kI 64, kI 1, kI 1, kI 1, kU 1, kI 1, kU 2, kI 1, kU 1, kU 1, kI 14, .slice 190 0 5 5, .ptr 186 0, kU 1, kI 1, kI 0, kI 10, kI 11, kI 2, .bool false, kU 0, kU 0, kI 0, kU 0, kU 0, kI 0, kU 0, kU 0, kI 0, kU 0, kU 0, kI 0, kU 0, kU 0, kI 0, kU 0, kU 0, kI 0, kU 0, kU 0, kI 0, kU 0, kU 0, kI 0, .ptr 191 0, kU 0, kI 0, kU 0, kU 0, kI 0, .snil, .bool false, kU 0, .snil, .snil]),
  (411, .cells false 0 [kI 3, kI 14, kI 8, kI 32, kI 1, kI 64, kI 512, kI 1048576, kI 64, kI 1, kI 1, kI 1, kU 1, kI 2, kU 2, kI 2, kU 1, kU 1, kI 14, .slice 409 0 5 5, .ptr 405 0, kU 1, kI 1, kI 0, kI 10, kI 14, kI 4, .bool false, kU 0, kU 0, kI 0, kU 0, kU 0, kI 0, kU 0, kU 0, kI 0, kU 0, kU 0, kI 0, kU 0, kU 0, kI 0, kU 0, kU 0, kI 0, kU 0, kU 0, kI 0, kU 0, kU 0, kI 0, .ptr 410 0, kU 0, kI 0, kU 0, kU 0, kI 0, .snil, .bool false, kU 0, .snil, .snil]),
  (630, .cells false 0 [kI 3, kI 14, kI 8, kI 32, kI 1, kI 64, kI 512, kI 1048576, kI 64, kI 1, kI 1, kI 1, kU 1, kI 3, kU 2, kI 3, kU 1, kU 1, kI 14, .slice 628 0 5 5, .ptr 624 0, kU 1, kI 1, kI 0, kI 10, kI 17, kI 8, .bool false, kU 0, kU 0, kI 0, kU 0, kU 0, kI 0, kU 0, kU 0, kI 0, kU 0, kU 0, kI 0, kU 0, kU 0, kI 0, kU 0, kU 0, kI 0, kU 0, kU 0, kI 0, kU 0, kU 0, kI 0, .ptr 629 0, kU 0, kI 0, kU 0, kU 0, kI 0, .snil, .bool false, kU 0, .snil, .snil])]
noncomputable def Cme36 : TEnt := ⟨13218, [.ptr 10 0], Cms6x4, .snil, 13541, Cms6x5⟩
theorem Cmr6 : runsP Tryz.prog (primOf 223 117 126 215) 500 500 [(30, Cme28), (29, Cme29), (30, Cme30), (29, Cme31), (30, Cme32), (29, Cme33), (30, Cme34), (29, Cme35), (30, Cme36)] = some true := by kernel_rfl
theorem Cmk28 : TEntOk Tryz.prog 30 Cme28 := runs_ok plain mixed prims Cmr6 (30, Cme28) (List.mem_cons_self)
theorem Cmk29 : TEntOk Tryz.prog 29 Cme29 := runs_ok plain mixed prims Cmr6 (29, Cme29) (List.mem_cons_of_mem _ (List.mem_cons_self))
theorem Cmk30 : TEntOk Tryz.prog 30 Cme30 := runs_ok plain mixed prims Cmr6 (30, Cme30) (List.mem_cons_of_mem _ (List.mem_cons_of_mem _ (List.mem_cons_self)))
theorem Cmk31 : TEntOk Tryz.prog 29 Cme31 := runs_ok plain mixed prims Cmr6 (29, Cme31) (List.mem_cons_of_mem _ (List.mem_cons_of_mem _ (List.mem_cons_of_mem _ (List.mem_cons_self))))
theorem Cmk32 : TEntOk Tryz.prog 30 Cme32 := runs_ok plain mixed prims Cmr6 (30, Cme32) (List.mem_cons_of_mem _ (List.mem_cons_of_mem _ (List.mem_cons_of_mem _ (List.mem_cons_of_mem _ (List.mem_cons_self)))))
theorem Cmk33 : TEntOk Tryz.prog 29 Cme33 := runs_ok plain mixed prims Cmr6 (29, Cme33) (List.mem_cons_of_mem _ (List.mem_cons_of_mem _ (List.mem_cons_of_mem _ (List.mem_cons_of_mem _ (List.mem_cons_of_mem _ (List.mem_cons_self))))))
theorem Cmk34 : TEntOk Tryz.prog 30 Cme34 := runs_ok plain mixed prims Cmr6 (30, Cme34) (List.mem_cons_of_mem _ (List.mem_cons_of_mem _ (List.mem_cons_of_mem _ (List.mem_cons_of_mem _ (List.mem_cons_of_mem _ (List.mem_cons_of_mem _ (List.mem_cons_self)))))))
theorem Cmk35 : TEntOk Tryz.prog 29 Cme35 := runs_ok plain mixed prims Cmr6 (29, Cme35) (List.mem_cons_of_mem _ (List.mem_cons_of_mem _ (List.mem_cons_of_mem _ (List.mem_cons_of_mem _ (List.mem_cons_of_mem _ (List.mem_cons_of_mem _ (List.mem_cons_of_mem _ (List.mem_cons_self))))))))
theorem Cmk36 : TEntOk Tryz.prog 30 Cme36 := runs_ok plain mixed prims Cmr6 (30, Cme36) (List.mem_cons_of_mem _ (List.mem_cons_of_mem _ (List.mem_cons_of_mem _ (List.mem_cons_of_mem _ (List.mem_cons_of_mem _ (List.mem_cons_of_mem _ (List.mem_cons_of_mem _ (List.mem_cons_of_mem _ (List.mem_cons_self)))))))))
end Go.Proofs.YtginbifeinpciaaGreat
