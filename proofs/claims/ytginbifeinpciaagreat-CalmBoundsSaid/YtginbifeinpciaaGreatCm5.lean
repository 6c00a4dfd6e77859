/- Runs from state to state, by the kernel: part 5. -/
import Derived.Test.YtginbifeinpciaaGreatPrims
import Derived.Test.YtginbifeinpciaaGreatEvG
namespace Go.Proofs.YtginbifeinpciaaGreat
open Go Go.Ev
noncomputable def Cms5x0 : Bl := [(9, .cells false 0 [.slice 6767 0 6 7, kI 64, kI 0]),
  (10, .cells false 0 [kI 3, kI 14, kI 8, kI 32, kI 1, kI 64, kI 512, kI 1048576, kI 64, kI 1, kI 1, kI 1, kU 1, .pnil, .ptr 16 0, .ptr 235 0, .ptr 454 0, .pnil, .pnil, .pnil, .pnil, .ptr 9 0]),
  (14, .map [(.str [115, 110, 97, 112], .slice 126 0 17 17), (.str [104, 97, 114, 100], .slice 6663 0 10 10)]),
  (15, .cells false 0 [kI 1048576, .map 6664, .map 14, .snil, .int .i64 (.negSucc 0), .bool false]),
  (16, .cells false 0 [.ptr 15 0, kI 3, kI 14, kI 8, kI 32, kI 1, kI 64, kI 512, kI 1048576, kI 64, kI 1, kI 1, kI 1, kU 1, kI 1, .ptr 229 0]),
  (126, .cells true 1 [kB 9, kB 0, kB 0, kB 0, kB 176, kB 254, kB 233, kB 96, kB 1, kB 1, kB 14, kB 5, kB 0, kB 0, kB 0, kB 0, kB 0]),
  (165, .cells false 0 [.ptr 15 0, kI 512, .snil]),
  (177, .cells false 0 [.ptr 165 0, .ptr 15 0, kU 2, kI 1]),
  (186, .cells false 0 [kU 1, kU 1, kI 14, kU 1, .snil]),
  (190, .cells true 1 [kB 0, kB 0, kB 0, kB 0, kB 0]),
  (191, .cells false 0 [kU 0, kU 0, kI 0, .snil]),
  (192, .cells false 0 [kI 3, kI 14, kI 8, kI 32, kI 1, kI 64, kI 512, kI 1048576, kI 64, kI 1, kI 1, kI 1, kU 1, kI 1, kU 2, kI 1, kU 1, kU 1, kI 14, .slice 190 0 5 5, .ptr 186 0, kU 1, kI 1, kI 0, kI 2, kI 11, kI 2, .bool false, kU 0, kU 0, kI 0, kU 0, kU 0, kI 0, kU 0, kU 0, kI 0, kU 0, kU 0, kI 0, kU 0, kU 0, kI 0, kU 0, kU 0, kI 0, kU 0, kU 0, kI 0, kU 0, kU 0, kI 0, .ptr 191 0, kU 0, kI 0, kU 0, kU 0, kI 0, .snil, .bool false, kU 0, .snil, .snil]),
  (201, .cells false 0 [kI 3, kI 14, kI 8, kI 32, kI 1, kI 64, kI 512, kI 1048576, kI 64, kI 1, kI 1, kI 1, kU 1, .ptr 221 0, .ptr 226 0, kU 1]),
  (221, .cells false 0 [kI 1, .ptr 222 0, .ptr 223 0, .ptr 224 0, kU 0]),
  (222, .cells false 0 [.snil, .snil, kI 8]),
  (223, .cells false 0 [.snil, .snil, kI 64]),
  (224, .cells false 0 [.snil, .snil, kI 1]),
  (225, .cells false 0 [.snil, .snil, kI 1]),
  (226, .cells false 0 [kU 1, .ptr 225 0, kI 1]),
  (227, .cells false 0 [.snil, .snil, kI 1]),
  (228, .cells false 0 [.ptr 227 0]),
  (229, .cells false 0 [.ptr 177 0, .ptr 192 0, .ptr 201 0, .ptr 228 0, kI 0]),
  (233, .map [(.str [115, 110, 97, 112], .slice 345 0 17 17), (.str [104, 97, 114, 100], .slice 7020 0 10 10)]),
  (234, .cells false 0 [kI 1048576, .map 7021, .map 233, .snil, .int .i64 (.negSucc 0), .bool false]),
  (235, .cells false 0 [.ptr 234 0, kI 3, kI 14, kI 8, kI 32, kI 1, kI 64, kI 512, kI 1048576, kI 64, kI 1, kI 1, kI 1, kU 1, kI 2, .ptr 448 0]),
  (345, .cells true 1 [kB 9, kB 0, kB 0, kB 0, kB 176, kB 254, kB 233, kB 96, kB 1, kB 1, kB 14, kB 5, kB 0, kB 0, kB 0, kB 0, kB 0]),
  (384, .cells false 0 [.ptr 234 0, kI 512, .snil]),
  (396, .cells false 0 [.ptr 384 0, .ptr 234 0, kU 2, kI 2]),
  (405, .cells false 0 [kU 1, kU 1, kI 14, kU 1, .snil]),
  (409, .cells true 1 [kB 0, kB 0, kB 0, kB 0, kB 0]),
  (410, .cells false 0 [kU 0, kU 0, kI 0, .snil]),
  (411, .cells false 0 [kI 3, kI 14, kI 8, kI 32, kI 1, kI 64, kI 512, kI 1048576, kI 64, kI 1, kI 1, kI 1, kU 1, kI 2, kU 2, kI 2, kU 1, kU 1, kI 14, .slice 409 0 5 5, .ptr 405 0, kU 1, kI 1, kI 0, kI 2, kI 14, kI 4, .bool false, kU 0, kU 0, kI 0, kU 0, kU 0, kI 0, kU 0, kU 0, kI 0, kU 0, kU 0, kI 0, kU 0, kU 0, kI 0, kU 0, kU 0, kI 0, kU 0, kU 0, kI 0, kU 0, kU 0, kI 0, .ptr 410 0, kU 0, kI 0, kU 0, kU 0, kI 0, .snil, .bool false, kU 0, .snil, .snil]),
  (420, .cells false 0 [kI 3, kI 14, kI 8, kI 32, kI 1, kI 64, kI 512, kI 1048576, kI 64, kI 1, kI 1, kI 1, kU 1, .ptr 440 0, .ptr 445 0, kU 1]),
  (440, .cells false 0 [kI 1, .ptr 441 0, .ptr 442 0, .ptr 443 0, kU 0]),
  (441, .cells false 0 [.snil, .snil, kI 8]),
  (442, .cells false 0 [.snil, .snil, kI 64]),
  (443, .cells false 0 [.snil, .snil, kI 1]),
  (444, .cells false 0 [.snil, .snil, kI 1]),
  (445, .cells false 0 [kU 1, .ptr 444 0, kI 1]),
  (446, .cells false 0 [.snil, .snil, kI 1]),
  (447, .cells false 0 [.ptr 446 0]),
  (448, .cells false 0 [.ptr 396 0, .ptr 411 0, .ptr 420 0, .ptr 447 0, kI 0]),
  (452, .map [(.str [115, 110, 97, 112], .slice 564 0 17 17), (.str [104, 97, 114, 100], .slice 7376 0 10 10)]),
  (453, .cells false 0 [kI 1048576, .map 7377, .map 452, .snil, .int .i64 (.negSucc 0), .bool false]),
  (454, .cells false 0 [.ptr 453 0, kI 3, kI 14, kI 8, kI 32, kI 1, kI 64, kI 512, kI 1048576, kI 64, kI 1, kI 1, kI 1, kU 1, kI 3, .ptr 667 0]),
  (564, .cells true 1 [kB 9, kB 0, kB 0, kB 0, kB 176, kB 254, kB 233, kB 96, kB 1, kB 1, kB 14, kB 5, kB 0, kB 0, kB 0, kB 0, kB 0]),
  (603, .cells false 0 [.ptr 453 0, kI 512, .snil]),
  (615, .cells false 0 [.ptr 603 0, .ptr 453 0, kU 2, kI 3]),
  (624, .cells false 0 [kU 1, kU 1, kI 14, kU 1, .snil]),
  (628, .cells true 1 [kB 0, kB 0, kB 0, kB 0, kB 0]),
  (629, .cells false 0 [kU 0, kU 0, kI 0, .snil]),
  (630, .cells false 0 [kI 3, kI 14, kI 8, kI 32, kI 1, kI 64, kI 512, kI 1048576, kI 64, kI 1, kI 1, kI 1, kU 1, kI 3, kU 2, kI 3, kU 1, kU 1, kI 14, .slice 628 0 5 5, .ptr 624 0, kU 1, kI 1, kI 0, kI 2, kI 17, kI 8, .bool false, kU 0, kU 0, kI 0, kU 0, kU 0, kI 0, kU 0, kU 0, kI 0, kU 0, kU 0, kI 0, kU 0, kU 0, kI 0, kU 0, kU 0, kI 0, kU 0, kU 0, kI 0, kU 0, kU 0, kI 0, .ptr 629 0, kU 0, kI 0, kU 0, kU 0, kI 0, .snil, .bool false, kU 0, .snil, .snil]),
  (639, .cells false 0 [kI 3, kI 14, kI 8, kI 32, kI 1, kI 64, kI 512, kI 1048576, kI 64, kI 1, kI 1, kI 1, kU 1, .ptr 659 0, .ptr 664 0, kU 1]),
  (659, .cells false 0 [kI 1, .ptr 660 0, .ptr 661 0, .ptr 662 0, kU 0]),
  (660, .cells false 0 [.snil, .snil, kI 8]),
  (661, .cells false 0 [.snil, .snil, kI 64]),
  (662, .cells false 0 [.snil, .snil, kI 1]),
  (663, .cells false 0 [.snil, .snil, kI 1]),
  (664, .cells false 0 [kU 1, .ptr 663 0, kI 1]),
  (665, .cells false 0 [.snil, .snil, kI 1]),
  (666, .cells false 0 [.ptr 665 0]),
  (667, .cells false 0 [.ptr 615 0, .ptr 630 0, .ptr 639 0, .ptr 666 0, kI 0]),
  (6663, .cells true 1 [kB 2, kB 0, kB 0, kB 0, kB 63, kB 196, kB 79, kB 36, kB 2, kB 1]),
  (6664, .map [(.str [115, 110, 97, 112], .slice 126 0 17 17), (.str [104, 97, 114, 100], .slice 6663 0 10 10)]),
  (6767, .cells true 3 [kI 2, kI 1, .slice 8261 0 10 10, kI 3, kI 1, .slice 8410 0 10 10, kI 1, kI 2, .slice 8559 0 10 10, kI 3, kI 2, .slice 8708 0 10 10, kI 1, kI 3, .slice 8857 0 10 10, kI 2, kI 3, .slice 9006 0 10 10, kI 3, kI 2, .slice 7477 0 11 11]),
  (7020, .cells true 1 [kB 2, kB 0, kB 0, kB 0, kB 203, kB 55, kB 31, kB 55, kB 2, kB 2]),
  (7021, .map [(.str [115, 110, 97, 112], .slice 345 0 17 17), (.str [104, 97, 114, 100], .slice 7020 0 10 10)]),
  (7376, .cells true 1 [kB 2, kB 0, kB 0, kB 0, kB 200, kB 180, kB 116, kB 197, kB 2, kB 3]),
  (7377, .map [(.str [115, 110, 97, 112], .slice 564 0 17 17), (.str [104, 97, 114, 100], .slice 7376 0 10 10)]),
  (7477, .cells true 1 [kB 1, kB 3, kB 2, kB 2, kB 1, kB 1, kB 1, kB 172, kB 248, kB 76, kB 108]),
  (8261, .cells true 1 [kB 2, kB 2, kB 1, kB 2, kB 1, kB 1, kB 208, kB 224, kB 103, kB 143]),
  (8410, .cells true 1 [kB 2, kB 3, kB 1, kB 2, kB 1, kB 1, kB 124, kB 143, kB 118, kB 183]),
  (8559, .cells true 1 [kB 2, kB 1, kB 2, kB 2, kB 1, kB 1, kB 29, kB 217, kB 118, kB 165]),
  (8708, .cells true 1 [kB 2, kB 3, kB 2, kB 2, kB 1, kB 1, kB 69, kB 6, kB 84, kB 213]),
  (8857, .cells true 1 [kB 2, kB 1, kB 3, kB 2, kB 1, kB 1, kB 165, kB 115, kB 51, kB 120]),
  (9006, .cells true 1 [kB 2, kB 2, kB 3, kB 2, kB 1, kB 1, kB 81, kB 195, kB 0, kB 48])]
noncomputable def Cms5x1 : Bl := nextL Cms5x0 [9, 192, 411, 630, 6767, 8261, 8410, 8559, 8708, 8857] [(9, .cells false 0 [.slice 6767 0 0 7, kI 64, kI 0]),
  (192, .cells false 0 [kI 3, kI 14, kI 8, kI 32, kI 1, kI 64, kI 512, kI 1048576, kI 64, kI 1, kI 1, kI 1, kU 1, kI 1, kU 2, kI 1, kU 1, kU 1, kI 14, .slice 190 0 5 5, .ptr 186 0, kU 1, kI 1, kI 0, kI 3, kI 11, kI 2, .bool false, kU 0, kU 0, kI 0, kU 0, kU 0, kI 0, kU 0, kU 0, kI 0, kU 0, kU 0, kI 0, kU 0, kU 0, kI 0, kU 0, kU 0, kI 0, kU 0, kU 0, kI 0, kU 0, kU 0, kI 0, .ptr 191 0, kU 0, kI 0, kU 0, kU 0, kI 0, .snil, .bool false, kU 0, .snil, .snil]),
  (411, .cells false 0 [kI 3, kI 14, kI 8, kI 32, kI 1, kI 64, kI 512, kI 1048576, kI 64, kI 1, kI 1, kI 1, kU 1, kI 2, kU 2, kI 2, kU 1, kU 1, kI 14, .slice 409 0 5 5, .ptr 405 0, kU 1, kI 1, kI 0, kI 3, kI 14, kI 4, .bool false, kU 0, kU 0, kI 0, kU 0, kU 0, kI 0, kU 0, kU 0, kI 0, kU 0, kU 0, kI 0, kU 0, kU 0, kI 0, kU 0, kU 0, kI 0, kU 0, kU 0, kI 0, kU 0, kU 0, kI 0, .ptr 410 0, kU 0, kI 0, kU 0, kU 0, kI 0, .snil, .bool false, kU 0, .snil, .snil]),
  (630, .cells false 0 [kI 3, kI 14, kI 8, kI 32, kI 1, kI 64, kI 512, kI 1048576, kI 64, kI 1, kI 1, kI 1, kU 1, kI 3, kU 2, kI 3, kU 1, kU 1, kI 14, .slice 628 0 5 5, .ptr 624 0, kU 1, kI 1, kI 0, kI 3, kI 17, kI 8, .bool false, kU 0, kU 0, kI 0, kU 0, kU 0, kI 0, kU 0, kU 0, kI 0, kU 0, kU 0, kI 0, kU 0, kU 0, kI 0, kU 0, kU 0, kI 0, kU 0, kU 0, kI 0, kU 0, kU 0, kI 0, .ptr 629 0, kU 0, kI 0, kU 0, kU 0, kI 0, .snil, .bool false, kU 0, .snil, .snil]),
  (6767, .cells true 3 [kI 2, kI 3, .slice 9006 0 10 10, kI 2, kI 3, .slice 9006 0 10 10, kI 2, kI 3, .slice 9006 0 10 10, kI 2, kI 3, .slice 9006 0 10 10, kI 2, kI 3, .slice 9006 0 10 10, kI 2, kI 3, .slice 9006 0 10 10, kI 3, kI 2, .slice 7477 0 11 11])]
noncomputable def Cme22 : TEnt := ⟨9177, [.ptr 10 0], Cms5x0, .snil, 10104, Cms5x1⟩
noncomputable def Cme23 : TEnt := ⟨10104, [.ptr 10 0], Cms5x1, kI 0, 10272, Cms5x1⟩
noncomputable def Cms5x2 : Bl := nextL Cms5x1 [192, 411, 630] [(192, .cells false 0 [kI 3, kI 14, kI 8, kI 32, kI 1, kI 64, kI 512, kI 1048576, kI 64, kI 1, kI 1, kI 1, kU 1, kI 1, kU 2, kI 1, kU 1, kU 1, kI 14, .slice 190 0 5 5, .ptr 186 0, kU 1, kI 1, kI 0, kI 4, kI 11, kI 2, .bool false, kU 0, kU 0, kI 0, kU 0, kU 0, kI 0, kU 0, kU 0, kI 0, kU 0, kU 0, kI 0, kU 0, kU 0, kI 0, kU 0, kU 0, kI 0, kU 0, kU 0, kI 0, kU 0, kU 0, kI 0, .ptr 191 0, kU 0, kI 0, kU 0, kU 0, kI 0, .snil, .bool false, kU 0, .snil, .snil]),
  (411, .cells false 0 [kI 3, kI 14, kI 8, kI 32, kI 1, kI 64, kI 512, kI 1048576, kI 64, kI 1, kI 1, kI 1, kU 1, kI 2, kU 2, kI 2, kU 1, kU 1, kI 14, .slice 409 0 5 5, .ptr 405 0, kU 1, kI 1, kI 0, kI 4, kI 14, kI 4, .bool false, kU 0, kU 0, kI 0, kU 0, kU 0, kI 0, kU 0, kU 0, kI 0, kU 0, kU 0, kI 0, kU 0, kU 0, kI 0, kU 0, kU 0, kI 0, kU 0, kU 0, kI 0, kU 0, kU 0, kI 0, .ptr 410 0, kU 0, kI 0, kU 0, kU 0, kI 0, .snil, .bool false, kU 0, .snil, .snil]),
  (630, .cells false 0 [kI 3, kI 14, kI 8, kI 32, kI 1, kI 64, kI 512, kI 1048576, kI 64, kI 1, kI 1, kI 1, kU 1, kI 3, kU 2, kI 3, kU 1, kU 1, kI 14, .slice 628 0 5 5, .ptr 624 0, kU 1, kI 1, kI 0, kI 4, kI 17, kI 8, .bool false, kU 0, kU 0, kI 0, kU 0, kU 0, kI 0, kU 0, kU 0, kI 0, kU 0, kU 0, kI 0, kU 0, kU 0, kI 0, kU 0, kU 0, kI 0, kU 0, kU 0, kI 0, kU 0, kU 0, kI 0, .ptr 629 0, kU 0, kI 0, kU 0, kU 0, kI 0, .snil, .bool false, kU 0, .snil, .snil])]
noncomputable def Cme24 : TEnt := ⟨10272, [.ptr 10 0], Cms5x1, .snil, 10595, Cms5x2⟩
noncomputable def Cme25 : TEnt := ⟨10595, [.ptr 10 0], Cms5x2, kI 0, 10763, Cms5x2⟩
noncomputable def Cms5x3 : Bl := nextL Cms5x2 [192, 411, 630] [(192, .cells false 0 [kI 3, kI 14, kI 8, kI 32, kI 1, kI 64, kI 512, kI 1048576, kI 64, kI 1, kI 1, kI 1, kU 1, kI 1, kU 2, kI 1, kU 1, kU 1, kI 14, .slice 190 0 5 5, .ptr 186 0, kU 1, kI 1, kI 0, kI 5, kI 11, kI 2, .bool false, kU 0, kU 0, kI 0, kU 0, kU 0, kI 0, kU 0, kU 0, kI 0, kU 0, kU 0, kI 0, kU 0, kU 0, kI 0, kU 0, kU 0, kI 0, kU 0, kU 0, kI 0, kU 0, kU 0, kI 0, .ptr 191 0, kU 0, kI 0, kU 0, kU 0, kI 0, .snil, .bool false, kU 0, .snil, .snil]),
  (411, .cells false 0 [kI 3, kI 14, kI 8, kI 32, kI 1, kI 64, kI 512, kI 1048576, kI 64, kI 1, kI 1, kI 1, kU 1, kI 2, kU 2, kI 2, kU 1, kU 1, kI 14, .slice 409 0 5 5, .ptr 405 0, kU 1, kI 1, kI 0, kI 5, kI 14, kI 4, .bool false, kU 0, kU 0, kI 0, kU 0, kU 0, kI 0, kU 0, kU 0, kI 0, kU 0, kU 0, kI 0, kU 0, kU 0, kI 0, kU 0, kU 0, kI 0, kU 0, kU 0, kI 0, kU 0, kU 0, kI 0, .ptr 410 0, kU 0, kI 0, kU 0, kU 0, kI 0, .snil, .bool false, kU 0, .snil, .snil]),
  (630, .cells false 0 [kI 3, kI 14, kI 8, kI 32, kI 1, kI 64, kI 512, kI 1048576, kI 64, kI 1, kI 1, kI 1, kU 1, kI 3, kU 2, kI 3, kU 1, kU 1, kI 14, .slice 628 0 5 5, .ptr 624 0, kU 1, kI 1, kI 0, kI 5, kI 17, kI 8, .bool false, kU 0, kU 0, kI 0, kU 0, kU 0, kI 0, kU 0, kU 0, kI 0, kU 0, kU 0, kI 0, kU 0, kU 0, kI 0, kU 0, kU 0, kI 0, kU 0, kU 0, kI 0, kU 0, kU 0, kI 0, .ptr 629 0, kU 0, kI 0, kU 0, kU 0, kI 0, .snil, .bool false, kU 0, .snil, .snil])]
noncomputable def Cme26 : TEnt := ⟨10763, [.ptr 10 0], Cms5x2, .snil, 11086, Cms5x3⟩
noncomputable def Cme27 : TEnt := ⟨11086, [.ptr 10 0], Cms5x3, kI 0, 11254, Cms5x3⟩
theorem Cmr5 : runsP Tryz.prog (primOf 223 117 126 215) 500 500 [(30, Cme22), (29, Cme23), (30, Cme24), (29, Cme25), (30, Cme26), (29, Cme27)] = some true := by kernel_rfl
theorem Cmk22 : TEntOk Tryz.prog 30 Cme22 := runs_ok plain mixed prims Cmr5 (30, Cme22) (List.mem_cons_self)
theorem Cmk23 : TEntOk Tryz.prog 29 Cme23 := runs_ok plain mixed prims Cmr5 (29, Cme23) (List.mem_cons_of_mem _ (List.mem_cons_self))
theorem Cmk24 : TEntOk Tryz.prog 30 Cme24 := runs_ok plain mixed prims Cmr5 (30, Cme24) (List.mem_cons_of_mem _ (List.mem_cons_of_mem _ (List.mem_cons_self)))
theorem Cmk25 : TEntOk Tryz.prog 29 Cme25 := runs_ok plain mixed prims Cmr5 (29, Cme25) (List.mem_cons_of_mem _ (List.mem_cons_of_mem _ (List.mem_cons_of_mem _ (List.mem_cons_self))))
theorem Cmk26 : TEntOk Tryz.prog 30 Cme26 := runs_ok plain mixed prims Cmr5 (30, Cme26) (List.mem_cons_of_mem _ (List.mem_cons_of_mem _ (List.mem_cons_of_mem _ (List.mem_cons_of_mem _ (List.mem_cons_self)))))
theorem Cmk27 : TEntOk Tryz.prog 29 Cme27 := runs_ok plain mixed prims Cmr5 (29, Cme27) (List.mem_cons_of_mem _ (List.mem_cons_of_mem _ (List.mem_cons_of_mem _ (List.mem_cons_of_mem _ (List.mem_cons_of_mem _ (List.mem_cons_self))))))
end Go.Proofs.YtginbifeinpciaaGreat
