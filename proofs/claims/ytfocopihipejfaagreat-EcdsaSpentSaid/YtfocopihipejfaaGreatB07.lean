/-
  This text proves what these texts prove: VgT, Na, VgX, SA, Nb, Nc. Conditions: those of each theorem.
-/
import Derived.Laws.Small
import Derived.Shelf.Small.Bits
import Derived.Shelf.Strconv.Itoa0
import Derived.Shelf.Bits.Mul64
import Derived.Shelf.Strings.Repeat
import Derived.Lib.ItoaNum
import Derived.Test.YtfocopihipejfaaGreatB05
import Derived.Test.YtfocopihipejfaaGreatRows
import Derived.Test.YtfocopihipejfaaGreatB06
import Derived.Test.YtfocopihipejfaaGreatProg
set_option maxHeartbeats 8000000
set_option linter.all false
namespace Go.Proofs.YtfocopihipejfaaGreat
open Go.Vg
def tbl : List (Nat × Ty) := [
 (1, ⟨.f,1,[.aH]⟩),
 (2, ⟨.i .i64,1,[.int .i64 0]⟩),
 (3, ⟨.i .i64,1,[.int .i64 0]⟩),
 (4, ⟨.b,1,[.bool false]⟩),
 (5, ⟨.i .u8,1,[.int .u8 0]⟩),
 (6, ⟨.i .u8,1,[.int .u8 0]⟩),
 (7, ⟨.st [(0,1,false),(1,1,false),(2,1,false),(3,1,false)],4,[.int .i64 0,.int .i64 0,.bool false,.int .u8 0]⟩),
 (8, ⟨.st [(0,1,false),(1,1,false),(2,1,false),(3,1,false)],4,[.int .i64 0,.int .i64 0,.bool false,.int .u8 0]⟩),
 (9, ⟨.s,1,[.str ⟨#[]⟩]⟩),
 (10, ⟨.s,1,[.str ⟨#[]⟩]⟩),
 (11, ⟨.s,1,[.str ⟨#[]⟩]⟩),
 (12, ⟨.i .u64,1,[.int .u64 0]⟩),
 (13, ⟨.st [(0,1,false),(1,1,false)],2,[.str ⟨#[]⟩,.int .u64 0]⟩),
 (14, ⟨.st [(0,1,false),(1,1,false)],2,[.str ⟨#[]⟩,.int .u64 0]⟩),
 (15, ⟨.p,1,[.cR]⟩),
 (16, ⟨.p,1,[.cR]⟩),
 (17, ⟨.p,1,[.cR]⟩),
 (18, ⟨.st [(0,1,false)],1,[.cR]⟩),
 (19, ⟨.st [(0,1,false)],1,[.cR]⟩),
 (21, ⟨.i .i32,1,[.int .i32 0]⟩),
 (22, ⟨.sl 88 1,1,[.au]⟩),
 (23, ⟨.sl 88 1,1,[.au]⟩),
 (24, ⟨.st [(0,1,false),(1,1,false),(2,1,false),(3,1,false),(4,1,false),(5,1,false),(6,1,false)],7,[.int .i64 0,.au,.au,.au,.au,.au,.au]⟩),
 (25, ⟨.st [(0,1,false),(1,1,false),(2,1,false),(3,1,false),(4,1,false),(5,1,false),(6,1,false)],7,[.int .i64 0,.au,.au,.au,.au,.au,.au]⟩),
 (27, ⟨.f,1,[.aH]⟩),
 (28, ⟨.i .u64,1,[.int .u64 0]⟩),
 (29, ⟨.ar 9 28 1 false,9,List.replicate 9 (.int .u64 0)⟩),
 (30, ⟨.st [(0,9,true)],9,List.replicate 9 (.int .u64 0)⟩),
 (31, ⟨.st [(0,9,true)],9,List.replicate 9 (.int .u64 0)⟩),
 (32, ⟨.i .i64,1,[.int .i64 0]⟩),
 (34, ⟨.f,1,[.aH]⟩),
 (35, ⟨.f,1,[.aH]⟩),
 (36, ⟨.f,1,[.aH]⟩),
 (37, ⟨.f,1,[.aH]⟩),
 (38, ⟨.f,1,[.aH]⟩),
 (39, ⟨.f,1,[.aH]⟩),
 (40, ⟨.f,1,[.aH]⟩),
 (41, ⟨.st [(0,9,true),(9,9,true),(18,1,false)],19,[.int .u64 0,.int .u64 0,.int .u64 0,.int .u64 0,.int .u64 0,.int .u64 0,.int .u64 0,.int .u64 0,.int .u64 0,.int .u64 0,.int .u64 0,.int .u64 0,.int .u64 0,.int .u64 0,.int .u64 0,.int .u64 0,.int .u64 0,.int .u64 0,.bool false]⟩),
 (42, ⟨.st [(0,9,true),(9,9,true),(18,1,false)],19,[.int .u64 0,.int .u64 0,.int .u64 0,.int .u64 0,.int .u64 0,.int .u64 0,.int .u64 0,.int .u64 0,.int .u64 0,.int .u64 0,.int .u64 0,.int .u64 0,.int .u64 0,.int .u64 0,.int .u64 0,.int .u64 0,.int .u64 0,.int .u64 0,.bool false]⟩),
 (43, ⟨.st [(0,9,true),(9,9,true)],18,List.replicate 18 (.int .u64 0)⟩),
 (44, ⟨.st [(0,9,true),(9,9,true)],18,List.replicate 18 (.int .u64 0)⟩),
 (45, ⟨.f,1,[.aH]⟩),
 (46, ⟨.st [(0,1,false),(1,1,false),(2,1,false)],3,[.au,.au,.bool false]⟩),
 (47, ⟨.st [(0,1,false),(1,1,false),(2,1,false)],3,[.au,.au,.bool false]⟩),
 (48, ⟨.f,1,[.aH]⟩),
 (49, ⟨.f,1,[.aH]⟩),
 (50, ⟨.i .u64,1,[.int .u64 0]⟩),
 (51, ⟨.f,1,[.aH]⟩),
 (52, ⟨.f,1,[.aH]⟩),
 (53, ⟨.f,1,[.aH]⟩),
 (54, ⟨.f,1,[.aH]⟩),
 (55, ⟨.f,1,[.aH]⟩),
 (56, ⟨.f,1,[.aH]⟩),
 (57, ⟨.sl 44 18,1,[.au]⟩),
 (58, ⟨.f,1,[.aH]⟩),
 (59, ⟨.f,1,[.aH]⟩),
 (60, ⟨.f,1,[.aH]⟩),
 (61, ⟨.f,1,[.aH]⟩),
 (62, ⟨.f,1,[.aH]⟩),
 (64, ⟨.f,1,[.aH]⟩),
 (65, ⟨.f,1,[.aH]⟩),
 (66, ⟨.p,1,[.cR]⟩),
 (67, ⟨.p,1,[.cR]⟩),
 (69, ⟨.f,1,[.aH]⟩),
 (71, ⟨.f,1,[.aH]⟩),
 (73, ⟨.f,1,[.aH]⟩),
 (75, ⟨.f,1,[.aH]⟩),
 (76, ⟨.f,1,[.aH]⟩),
 (78, ⟨.st [(0,1,false),(1,1,false),(2,1,false),(3,1,false)],4,[.int .i64 0,.str ⟨#[]⟩,.str ⟨#[]⟩,.int .i64 0]⟩),
 (79, ⟨.st [(0,1,false),(1,1,false),(2,1,false),(3,1,false)],4,[.int .i64 0,.str ⟨#[]⟩,.str ⟨#[]⟩,.int .i64 0]⟩),
 (81, ⟨.f,1,[.aH]⟩),
 (82, ⟨.f,1,[.aH]⟩),
 (83, ⟨.f,1,[.aH]⟩),
 (84, ⟨.f,1,[.aH]⟩),
 (85, ⟨.f,1,[.aH]⟩),
 (87, ⟨.f,1,[.aH]⟩),
 (88, ⟨.i .u32,1,[.int .u32 0]⟩),
 (89, ⟨.sl 5 1,1,[.au]⟩),
 (91, ⟨.p,1,[.cR]⟩),
 (92, ⟨.f,1,[.aH]⟩),
 (93, ⟨.f,1,[.aH]⟩),
 (94, ⟨.sl 147 2,1,[.au]⟩),
 (95, ⟨.f,1,[.aH]⟩),
 (96, ⟨.f,1,[.aH]⟩),
 (97, ⟨.sl 9 1,1,[.au]⟩),
 (98, ⟨.f,1,[.aH]⟩),
 (99, ⟨.p,1,[.cR]⟩),
 (100, ⟨.f,1,[.aH]⟩),
 (101, ⟨.f,1,[.aH]⟩),
 (102, ⟨.f,1,[.aH]⟩),
 (103, ⟨.f,1,[.aH]⟩),
 (104, ⟨.f,1,[.aH]⟩),
 (106, ⟨.f,1,[.aH]⟩),
 (107, ⟨.f,1,[.aH]⟩),
 (108, ⟨.f,1,[.aH]⟩),
 (109, ⟨.f,1,[.aH]⟩),
 (110, ⟨.f,1,[.aH]⟩),
 (111, ⟨.p,1,[.cR]⟩),
 (112, ⟨.st [(0,1,false),(1,1,false)],2,[.cR,.cR]⟩),
 (113, ⟨.st [(0,1,false),(1,1,false)],2,[.cR,.cR]⟩),
 (114, ⟨.f,1,[.aH]⟩),
 (115, ⟨.f,1,[.aH]⟩),
 (116, ⟨.f,1,[.aH]⟩),
 (117, ⟨.f,1,[.aH]⟩),
 (118, ⟨.f,1,[.aH]⟩),
 (119, ⟨.f,1,[.aH]⟩),
 (120, ⟨.f,1,[.aH]⟩),
 (121, ⟨.f,1,[.aH]⟩),
 (122, ⟨.f,1,[.aH]⟩),
 (123, ⟨.f,1,[.aH]⟩),
 (124, ⟨.f,1,[.aH]⟩),
 (125, ⟨.sl 28 1,1,[.au]⟩),
 (127, ⟨.f,1,[.aH]⟩),
 (128, ⟨.f,1,[.aH]⟩),
 (130, ⟨.f,1,[.aH]⟩),
 (132, ⟨.f,1,[.aH]⟩),
 (133, ⟨.st [(0,1,false),(1,1,false),(2,1,false),(3,1,false)],4,[.int .i64 0,.str ⟨#[]⟩,.str ⟨#[]⟩,.int .i64 0]⟩),
 (134, ⟨.st [(0,1,false),(1,1,false),(2,1,false),(3,1,false)],4,[.int .i64 0,.str ⟨#[]⟩,.str ⟨#[]⟩,.int .i64 0]⟩),
 (135, ⟨.f,1,[.aH]⟩),
 (136, ⟨.f,1,[.aH]⟩),
 (137, ⟨.f,1,[.aH]⟩),
 (139, ⟨.f,1,[.aH]⟩),
 (140, ⟨.f,1,[.aH]⟩),
 (142, ⟨.f,1,[.aH]⟩),
 (143, ⟨.f,1,[.aH]⟩),
 (144, ⟨.st [(0,1,false)],1,[.au]⟩),
 (145, ⟨.st [(0,1,false)],1,[.au]⟩),
 (146, ⟨.st [(0,1,false),(1,1,false)],2,[.int .i64 0,.int .i64 0]⟩),
 (147, ⟨.st [(0,1,false),(1,1,false)],2,[.int .i64 0,.int .i64 0]⟩),
 (148, ⟨.f,1,[.aH]⟩),
 (149, ⟨.f,1,[.aH]⟩),
 (150, ⟨.p,1,[.cR]⟩),
 (151, ⟨.f,1,[.aH]⟩),
 (152, ⟨.st [(0,1,false),(1,1,false),(2,1,false),(3,1,false),(4,1,false)],5,[.str ⟨#[]⟩,.str ⟨#[]⟩,.str ⟨#[]⟩,.str ⟨#[]⟩,.str ⟨#[]⟩]⟩),
 (153, ⟨.st [(0,1,false),(1,1,false),(2,1,false),(3,1,false),(4,1,false)],5,[.str ⟨#[]⟩,.str ⟨#[]⟩,.str ⟨#[]⟩,.str ⟨#[]⟩,.str ⟨#[]⟩]⟩),
 (154, ⟨.f,1,[.aH]⟩),
 (155, ⟨.st [(0,1,false),(1,9,true),(10,9,true),(19,9,true),(28,9,true),(37,19,true),(56,1,false),(57,1,false),(58,1,false)],59,[.int .i64 0,.int .u64 0,.int .u64 0,.int .u64 0,.int .u64 0,.int .u64 0,.int .u64 0,.int .u64 0,.int .u64 0,.int .u64 0,.int .u64 0,.int .u64 0,.int .u64 0,.int .u64 0,.int .u64 0,.int .u64 0,.int .u64 0,.int .u64 0,.int .u64 0,.int .u64 0,.int .u64 0,.int .u64 0,.int .u64 0,.int .u64 0,.int .u64 0,.int .u64 0,.int .u64 0,.int .u64 0,.int .u64 0,.int .u64 0,.int .u64 0,.int .u64 0,.int .u64 0,.int .u64 0,.int .u64 0,.int .u64 0,.int .u64 0,.int .u64 0,.int .u64 0,.int .u64 0,.int .u64 0,.int .u64 0,.int .u64 0,.int .u64 0,.int .u64 0,.int .u64 0,.int .u64 0,.int .u64 0,.int .u64 0,.int .u64 0,.int .u64 0,.int .u64 0,.int .u64 0,.int .u64 0,.int .u64 0,.bool false,.int .i64 0,.int .i64 0,.bool false]⟩),
 (156, ⟨.st [(0,1,false),(1,9,true),(10,9,true),(19,9,true),(28,9,true),(37,19,true),(56,1,false),(57,1,false),(58,1,false)],59,[.int .i64 0,.int .u64 0,.int .u64 0,.int .u64 0,.int .u64 0,.int .u64 0,.int .u64 0,.int .u64 0,.int .u64 0,.int .u64 0,.int .u64 0,.int .u64 0,.int .u64 0,.int .u64 0,.int .u64 0,.int .u64 0,.int .u64 0,.int .u64 0,.int .u64 0,.int .u64 0,.int .u64 0,.int .u64 0,.int .u64 0,.int .u64 0,.int .u64 0,.int .u64 0,.int .u64 0,.int .u64 0,.int .u64 0,.int .u64 0,.int .u64 0,.int .u64 0,.int .u64 0,.int .u64 0,.int .u64 0,.int .u64 0,.int .u64 0,.int .u64 0,.int .u64 0,.int .u64 0,.int .u64 0,.int .u64 0,.int .u64 0,.int .u64 0,.int .u64 0,.int .u64 0,.int .u64 0,.int .u64 0,.int .u64 0,.int .u64 0,.int .u64 0,.int .u64 0,.int .u64 0,.int .u64 0,.int .u64 0,.bool false,.int .i64 0,.int .i64 0,.bool false]⟩),
 (157, ⟨.st [(0,59,true),(59,1,false),(60,9,true)],69,[.int .i64 0,.int .u64 0,.int .u64 0,.int .u64 0,.int .u64 0,.int .u64 0,.int .u64 0,.int .u64 0,.int .u64 0,.int .u64 0,.int .u64 0,.int .u64 0,.int .u64 0,.int .u64 0,.int .u64 0,.int .u64 0,.int .u64 0,.int .u64 0,.int .u64 0,.int .u64 0,.int .u64 0,.int .u64 0,.int .u64 0,.int .u64 0,.int .u64 0,.int .u64 0,.int .u64 0,.int .u64 0,.int .u64 0,.int .u64 0,.int .u64 0,.int .u64 0,.int .u64 0,.int .u64 0,.int .u64 0,.int .u64 0,.int .u64 0,.int .u64 0,.int .u64 0,.int .u64 0,.int .u64 0,.int .u64 0,.int .u64 0,.int .u64 0,.int .u64 0,.int .u64 0,.int .u64 0,.int .u64 0,.int .u64 0,.int .u64 0,.int .u64 0,.int .u64 0,.int .u64 0,.int .u64 0,.int .u64 0,.bool false,.int .i64 0,.int .i64 0,.bool false,.cR,.int .u64 0,.int .u64 0,.int .u64 0,.int .u64 0,.int .u64 0,.int .u64 0,.int .u64 0,.int .u64 0,.int .u64 0]⟩),
 (158, ⟨.st [(0,59,true),(59,1,false),(60,9,true)],69,[.int .i64 0,.int .u64 0,.int .u64 0,.int .u64 0,.int .u64 0,.int .u64 0,.int .u64 0,.int .u64 0,.int .u64 0,.int .u64 0,.int .u64 0,.int .u64 0,.int .u64 0,.int .u64 0,.int .u64 0,.int .u64 0,.int .u64 0,.int .u64 0,.int .u64 0,.int .u64 0,.int .u64 0,.int .u64 0,.int .u64 0,.int .u64 0,.int .u64 0,.int .u64 0,.int .u64 0,.int .u64 0,.int .u64 0,.int .u64 0,.int .u64 0,.int .u64 0,.int .u64 0,.int .u64 0,.int .u64 0,.int .u64 0,.int .u64 0,.int .u64 0,.int .u64 0,.int .u64 0,.int .u64 0,.int .u64 0,.int .u64 0,.int .u64 0,.int .u64 0,.int .u64 0,.int .u64 0,.int .u64 0,.int .u64 0,.int .u64 0,.int .u64 0,.int .u64 0,.int .u64 0,.int .u64 0,.int .u64 0,.bool false,.int .i64 0,.int .i64 0,.bool false,.cR,.int .u64 0,.int .u64 0,.int .u64 0,.int .u64 0,.int .u64 0,.int .u64 0,.int .u64 0,.int .u64 0,.int .u64 0]⟩),
 (159, ⟨.p,1,[.cR]⟩),
 (160, ⟨.st [(0,1,false)],1,[.cR]⟩),
 (161, ⟨.st [(0,1,false)],1,[.cR]⟩),
 (162, ⟨.st [(0,9,true),(9,1,true)],10,[.int .u64 0,.int .u64 0,.int .u64 0,.int .u64 0,.int .u64 0,.int .u64 0,.int .u64 0,.int .u64 0,.int .u64 0,.cR]⟩),
 (163, ⟨.st [(0,9,true),(9,1,true)],10,[.int .u64 0,.int .u64 0,.int .u64 0,.int .u64 0,.int .u64 0,.int .u64 0,.int .u64 0,.int .u64 0,.int .u64 0,.cR]⟩),
 (164, ⟨.f,1,[.aH]⟩),
 (166, ⟨.f,1,[.aH]⟩),
 (167, ⟨.f,1,[.aH]⟩),
 (168, ⟨.f,1,[.aH]⟩),
 (169, ⟨.st [(0,1,false),(1,1,false),(2,1,false)],3,[.int .i64 0,.int .i64 0,.int .i64 0]⟩),
 (170, ⟨.st [(0,1,false),(1,1,false),(2,1,false)],3,[.int .i64 0,.int .i64 0,.int .i64 0]⟩),
 (172, ⟨.f,1,[.aH]⟩),
 (173, ⟨.f,1,[.aH]⟩),
 (179, ⟨.f,1,[.aH]⟩),
 (180, ⟨.f,1,[.aH]⟩),
 (181, ⟨.st [(0,9,true),(9,9,true),(18,9,true)],27,List.replicate 27 (.int .u64 0)⟩),
 (182, ⟨.st [(0,9,true),(9,9,true),(18,9,true)],27,List.replicate 27 (.int .u64 0)⟩),
 (183, ⟨.f,1,[.aH]⟩),
 (184, ⟨.f,1,[.aH]⟩),
 (185, ⟨.f,1,[.aH]⟩),
 (186, ⟨.ar 4 182 27 true,108,List.replicate 108 (.int .u64 0)⟩),
 (187, ⟨.f,1,[.aH]⟩),
 (188, ⟨.f,1,[.aH]⟩),
 (189, ⟨.f,1,[.aH]⟩),
 (191, ⟨.f,1,[.aH]⟩),
 (192, ⟨.f,1,[.aH]⟩),
 (193, ⟨.f,1,[.aH]⟩),
 (194, ⟨.f,1,[.aH]⟩),
 (195, ⟨.f,1,[.aH]⟩),
 (196, ⟨.f,1,[.aH]⟩),
 (197, ⟨.f,1,[.aH]⟩),
 (198, ⟨.f,1,[.aH]⟩),
 (199, ⟨.f,1,[.aH]⟩),
 (200, ⟨.f,1,[.aH]⟩),
 (201, ⟨.f,1,[.aH]⟩),
 (202, ⟨.p,1,[.cR]⟩),
 (208, ⟨.f,1,[.aH]⟩),
 (209, ⟨.f,1,[.aH]⟩),
 (210, ⟨.p,1,[.cR]⟩),
 (211, ⟨.f,1,[.aH]⟩),
 (212, ⟨.p,1,[.cR]⟩),
 (214, ⟨.f,1,[.aH]⟩),
 (215, ⟨.f,1,[.aH]⟩),
 (216, ⟨.f,1,[.aH]⟩),
 (218, ⟨.f,1,[.aH]⟩),
 (219, ⟨.st [(0,9,true),(9,1,false),(10,1,false),(11,9,true)],20,[.int .u64 0,.int .u64 0,.int .u64 0,.int .u64 0,.int .u64 0,.int .u64 0,.int .u64 0,.int .u64 0,.int .u64 0,.int .i64 0,.int .u64 0,.int .u64 0,.int .u64 0,.int .u64 0,.int .u64 0,.int .u64 0,.int .u64 0,.int .u64 0,.int .u64 0,.int .u64 0]⟩),
 (220, ⟨.st [(0,9,true),(9,1,false),(10,1,false),(11,9,true)],20,[.int .u64 0,.int .u64 0,.int .u64 0,.int .u64 0,.int .u64 0,.int .u64 0,.int .u64 0,.int .u64 0,.int .u64 0,.int .i64 0,.int .u64 0,.int .u64 0,.int .u64 0,.int .u64 0,.int .u64 0,.int .u64 0,.int .u64 0,.int .u64 0,.int .u64 0,.int .u64 0]⟩),
 (221, ⟨.ar 18 28 1 false,18,List.replicate 18 (.int .u64 0)⟩),
 (223, ⟨.st [(0,18,true)],18,List.replicate 18 (.int .u64 0)⟩),
 (233, ⟨.p,1,[.cR]⟩),
 (235, ⟨.st [(0,1,false),(1,1,false)],2,[.cR,.au]⟩),
 (241, ⟨.p,1,[.cR]⟩),
 (244, ⟨.sl 3 1,1,[.au]⟩),
 (248, ⟨.sl 42 19,1,[.au]⟩),
 (250, ⟨.st [(0,1,false)],1,[.au]⟩),
 (251, ⟨.f,1,[.aH]⟩),
 (252, ⟨.f,1,[.aH]⟩),
 (254, ⟨.st [(0,1,false),(1,1,false)],2,[.aH,.aH]⟩),
 (255, ⟨.p,1,[.cR]⟩),
 (260, ⟨.f,1,[.aH]⟩),
 (261, ⟨.f,1,[.aH]⟩),
 (262, ⟨.p,1,[.cR]⟩),
 (270, ⟨.sl 31 9,1,[.au]⟩),
 (271, ⟨.ar 11 28 1 false,11,List.replicate 11 (.int .u64 0)⟩),
 (273, ⟨.p,1,[.cR]⟩),
 (275, ⟨.st [(0,9,true),(9,1,false),(10,1,false)],11,[.int .u64 0,.int .u64 0,.int .u64 0,.int .u64 0,.int .u64 0,.int .u64 0,.int .u64 0,.int .u64 0,.int .u64 0,.int .i64 0,.int .i64 0]⟩),
 (276, ⟨.ar 19 28 1 false,19,List.replicate 19 (.int .u64 0)⟩),
 (283, ⟨.p,1,[.cR]⟩),
 (286, ⟨.st [(0,1,false),(1,1,false),(2,1,false)],3,[.int .i64 0,.str ⟨#[]⟩,.cR]⟩),
 (289, ⟨.f,1,[.aH]⟩),
 (291, ⟨.ar 8 88 1 false,8,[.int .u32 0,.int .u32 0,.int .u32 0,.int .u32 0,.int .u32 0,.int .u32 0,.int .u32 0,.int .u32 0]⟩),
 (294, ⟨.ar 64 88 1 false,64,List.replicate 64 (.int .u32 0)⟩),
 (297, ⟨.st [(0,1,false),(1,8,true),(9,64,true),(73,1,false),(74,1,false)],75,[.int .i64 0,.int .u32 0,.int .u32 0,.int .u32 0,.int .u32 0,.int .u32 0,.int .u32 0,.int .u32 0,.int .u32 0,.int .u32 0,.int .u32 0,.int .u32 0,.int .u32 0,.int .u32 0,.int .u32 0,.int .u32 0,.int .u32 0,.int .u32 0,.int .u32 0,.int .u32 0,.int .u32 0,.int .u32 0,.int .u32 0,.int .u32 0,.int .u32 0,.int .u32 0,.int .u32 0,.int .u32 0,.int .u32 0,.int .u32 0,.int .u32 0,.int .u32 0,.int .u32 0,.int .u32 0,.int .u32 0,.int .u32 0,.int .u32 0,.int .u32 0,.int .u32 0,.int .u32 0,.int .u32 0,.int .u32 0,.int .u32 0,.int .u32 0,.int .u32 0,.int .u32 0,.int .u32 0,.int .u32 0,.int .u32 0,.int .u32 0,.int .u32 0,.int .u32 0,.int .u32 0,.int .u32 0,.int .u32 0,.int .u32 0,.int .u32 0,.int .u32 0,.int .u32 0,.int .u32 0,.int .u32 0,.int .u32 0,.int .u32 0,.int .u32 0,.int .u32 0,.int .u32 0,.int .u32 0,.int .u32 0,.int .u32 0,.int .u32 0,.int .u32 0,.int .u32 0,.int .u32 0,.au,.int .u64 0]⟩),
 (299, ⟨.f,1,[.aH]⟩),
 (313, ⟨.st [(0,1,false)],1,[.int .u64 0]⟩)]
set_option maxRecDepth 100000 in
theorem aqN:cI Tryz.prog (fun k=>ty tbl k):=cI.of (by kernel_rfl)
def av(k:Nat):Option Ty:=ty tbl k
theorem aI:cI Tryz.prog av:=aqN
theorem mixed:Tryz.prog.follows .mixedOrders=true:=by kernel_rfl
end Go.Proofs.YtfocopihipejfaaGreat
namespace Go.Proofs.YtfocopihipejfaaGreat
open Go.Vg
theorem aq {P : Program} (hP : P = Tryz.prog) {f : FuncId} {fn : Func} {c : Code} {rs : List ResultVar} {N n0 : Nat} {ms : List Nat} {args : List SV} {Lp : LL} {R : SV → LL → Nat → Prop} (hf : Tryz.prog.funcs[f]? = some fn) (SW : ay (fun l => l < n0) args) (jD : ∀ b ∈ Lp, ay (fun l => l < n0) b.cs)
  (h : ∀ (A : Ar) (g : G) (K : SV → LL → Nat → Prop), A = Ar.real → GI g n0 ms N → (∀ v L n, R v L n → K v L n) → zd av A P g n0 ms c (adp av A rs K) (CX 0 args) Lp n0) (hb : fn.body = some c := by rfl) (mI : fn.results.toList = rs := by rfl) (S5 : (fn.body.isNone || fn.name == "runtime.NumGoroutine") = false := by rfl) (hN : fn.ntmps = N := by rfl) (hd : yf N c = true := by decide) (Gc : Nat.ble args.length N = true := by rfl) (oP : UE n0 Lp = true := by rfl) : ah P f args Lp n0 ms R :=
  ah.of (hP ▸ aI) (hP ▸ hf) hb mI S5 hN hd Gc oP SW jD h
theorem cf {P : Program} (hP : P = Tryz.prog) {A : Ar} {g : G} (hA : A = Ar.real) {n0 N : Nat} {ms : List Nat} (hg : GI g n0 ms N) {id : Nat} {ops : Array Oper} {K : FF → LL → Nat → Prop} {F : FF} {L : LL} {n : Nat}
  (h : ∀ m, eR [] ops.toList = m → qJ av A P g n0 ms (fun _ _ => true) ops.toList m K ops.toList 0 F L [] n) (hB : zI ops.toList = true := by rfl) (hd : (ops.toList.all fun o => dD N o.dst) = true := by rfl) : tV g P id ops K F L n :=
  apt (hP ▸ aI) hA hg (hP ▸ mixed) hB hd h
theorem cm {P : Program} (hP : P = Tryz.prog) {A : Ar} {g : G} (hA : A = Ar.real) {n0 N : Nat} {ms : List Nat} (hg : GI g n0 ms N) {id : Nat} {ops : Array Oper} {K : FF → LL → Nat → Prop} {F : FF} {L : LL} {n : Nat}
  (h : qJ av A P g n0 ms (fun _ _ => true) ops.toList (eR [] ops.toList) K ops.toList 0 F L [] n) (hB : zI ops.toList = true := by rfl) (hd : (ops.toList.all fun o => dD N o.dst) = true := by rfl) : tV g P id ops K F L n :=
  adb (hP ▸ aI) hA hg (hP ▸ mixed) hB hd h
end Go.Proofs.YtfocopihipejfaaGreat

namespace Go.Proofs.YtfocopihipejfaaGreat
open Go.Vg
set_option maxRecDepth 200000
set_option cbv.maxSteps 100000000
theorem u9{P:Program}(hP:P=Tryz.prog)(x y c r s:Nat)(hc:c<=1)(hr:r=(x+y+c)%0x10000000000000000)(hs:s=(x+y+c)/0x10000000000000000):
 Hp P 169 [.int .u64 (.ofNat x),.int .u64 (.ofNat y),.int .u64 (.ofNat c)] (.aR [.int .u64 (.ofNat r),.int .u64 (.ofNat s)]):=by
 subst hP
 refine⟨fun w=> ?_,⟨trivial,trivial,trivial,trivial⟩,⟨trivial,trivial,trivial⟩⟩
 show(callFunc 169 #[.int .u64 (x:Int),.int .u64 (y:Int),.int .u64 (c:Int)]).run Tryz.prog w=_
 rw[run_callFunc_extern Tryz.func169 (by kernel_rfl) (by kernel_rfl) (by kernel_rfl) (e:=add64Entry) (by kernel_rfl),run_add64 x y c (by omega) (by omega) (by omega) (by omega)]
 subst hr hs
 simp only[Result.andThen,den,aM]
 congr 5
theorem XS{P:Program}(hP:P=Tryz.prog)(x y c r s:Nat)(hc:c<=1)(hr:r=(x+0x10000000000000000-y-c)%0x10000000000000000)(hs:s=if x<y+c then 1 else 0):
 Hp P 139 [.int .u64 (.ofNat x),.int .u64 (.ofNat y),.int .u64 (.ofNat c)] (.aR [.int .u64 (.ofNat r),.int .u64 (.ofNat s)]):=by
 subst hP
 refine⟨fun w=> ?_,⟨trivial,trivial,trivial,trivial⟩,⟨trivial,trivial,trivial⟩⟩
 show(callFunc 139 #[.int .u64 (x:Int),.int .u64 (y:Int),.int .u64 (c:Int)]).run Tryz.prog w=_
 rw[run_callFunc_extern Tryz.func139 (by kernel_rfl) (by kernel_rfl) (by kernel_rfl) (e:=sub64Entry) (by kernel_rfl),run_sub64 x y c hc]
 subst hr hs
 rfl
theorem yV{p:Nat->Prop}{K:IntKind}{f:Nat->Int}:∀ {s:Nat} (n:Nat),ay p (aw K f s n)
 |_,0=>trivial
 |_,n+1=>⟨trivial,yV n⟩
theorem iX(f:Nat->Nat)(n:Nat):V (n+1) f=V n f+f n*0x10000000000000000^n:=rfl
theorem Ma{r:Nat->Nat}{i v:Nat}:V (i+1) (fun j=>if j=i then v else r j)=V i r+v*0x10000000000000000^i:=by
 rw[iX]
 simp only[V]
 rw[Dg.acU _ (aE i)]
 simp
theorem Qh{R C A B P x y c r s:Nat}(h:R+c*P=A+B)(hr:r=(x+y+c)%0x10000000000000000)(hs:s=(x+y+c)/0x10000000000000000)(hP:C=P*0x10000000000000000):R+r*P+s*C=(A+x*P)+(B+y*P):=by
 have e:=gN (x+y+c) 0x10000000000000000
 rw[<-hs,<-hr]at e
 subst hP
 have h2:R+r*P+s*(P*0x10000000000000000)=R+(0x10000000000000000*s+r)*P:=by grind
 rw[h2,e]
 grind
theorem aqF{R C A B P x y c r s:Nat}(h:R+B=A+c*P)(hx:x<0x10000000000000000)(hy:y<0x10000000000000000)(hc:c<=1)(hr:r=(x+0x10000000000000000-y-c)%0x10000000000000000)(hs:s=if x<y+c then 1 else 0)(hP:C=P*0x10000000000000000):
 R+r*P+(B+y*P)=(A+x*P)+s*C:=by
 have e:r+y+c=x+s*0x10000000000000000:=by
  subst hs
  split<;>omega
 subst hP
 have h2:R+r*P+(B+y*P)+c*P=R+B+(r+y+c)*P:=by grind
 have h3:R+r*P+(B+y*P)+c*P=A+x*P+s*(P*0x10000000000000000)+c*P:=by
  rw[h2,e,h];grind
 omega
theorem Ms{P:Program}(hP:P=Tryz.prog)(a b r:Nat->Nat)(ha:Wn 9 a)(hb:Wn 9 b)(hr:Wn 9 r)(o:Bool)(Ja:V 9 r=(V 9 a+V 9 b)%0x10000000000000000^9)(ho:o=decide (0x10000000000000000^9<=V 9 a+V 9 b)):
 ah P 135 [.agg (ws a 9),.agg (ws b 9)] [] 0 [] (fun v _ _=>v= .aR [.agg (ws r 9),.bool o]):=by
 refine aq hP Tryz.func135 ⟨yV _,yV _,trivial⟩ (by simp) ?_
 intro A g K hA hg hK
 obtain⟨bin,_,cmp,_,_,ix,_,_,_,_,_,_,_,_,_,off⟩:=A
 have f1:∀i,i<9->cmp .lss (.ofNat i) 9=true:=fun i h=>(B7 hA i 9).trans (eh h)
 have f2:∀i,i<9->ix (.ofNat i) 9=some i:=fun i h=>bB hA h
 have f3:∀i,off 0 i 1=i:=fun i=>(dh hA 0 i 1).trans (by omega)
 have f4:=fun(f:Nat->Nat) (k:Nat) (h:k<9)=>ei hA .u64 (n:=9) f h
 have f5:=fun(f g:Nat->Nat) (k v:Nat) (h:k<9) (e:g=fun j=>if j=k then v else f j)=>gX hA .u64 (n:=9) f g h e
 have f6:∀i,i<9->bin .add .i64 (.ofNat i) 1=Int.ofNat (i+1):=fun i h=>gP hA (by omega)
 simp only[aw,Nat.reduceAdd]at f4 f5
 cbv
 refine bH (Nat×(Nat->Nat)×Nat) (fun s=>s.1<=9/\s.2.2<=1/\Wn s.1 s.2.1/\(∀j,s.1<=j->s.2.1 j=a j)/\V s.1 s.2.1+s.2.2*0x10000000000000000^s.1=V s.1 a+V s.1 b) (fun s=>9-s.1)
  (fun s=> [(8,.int .i64 (.ofNat s.1)),(6,.int .u64 (.ofNat s.2.2))]) [2,3,4,5] (fun s=> [(0,ws s.2.1 9)]) (0,a,0) ⟨bf _,bf _,fun j h=>absurd h (mh j),fun _ _=>rfl,rfl⟩ ?_ ?_
 ·exact a_
 rintro⟨i,q,c⟩ ⟨hi,hc,hw,hq,hv⟩
 have hi:i<=9:=hi
 have hc:c<=1:=hc
 have hw:Wn i q:=hw
 have hq:∀j,i<=j->q j=a j:=hq
 cbv
 by_cases ab:i<9
 ·obtain⟨w,ji⟩:=aa ((q i+b i+c)%0x10000000000000000)
  obtain⟨s,nq⟩:=aa ((q i+b i+c)/0x10000000000000000)
  obtain⟨q',dt⟩:=aa (fun j=>if j=i then w else q j:Nat->Nat)
  rw[f1 i ab]
  cbv
  refine cf hP hA hg fun mk _=> ?_
  cbv
  rw[f2 i ab]
  cbv
  rw[f3 i,f4 q i ab]
  cbv
  rw[f2 i ab]
  cbv
  rw[f3 i,f4 b i ab]
  cbv
  refine eV (zM rfl hg rfl rfl (u9 hP (q i) (b i) c w s hc ji nq)) ?_
  cbv
  rw[f2 i ab]
  cbv
  rw[f3 i,f5 q q' i w ab dt]
  cbv
  rw[f6 i ab]
  refine⟨(i+1,q',s),id,⟨ab,?_,?_,?_,?_⟩,(by show 9-(i+1)<9-i;omega),?_⟩
  ·have h1:=ha i ab
   have h2:=hb i ab
   rw[hq i (aE i)]at nq
   show s<=1
   rw[nq];omega
  ·intro j hj
   show q' j<_
   rw[dt]
   by_cases oO:j=i
   ·simp only[oO,aj];rw[ji];exact ax _ (by decide)
   ·simp only[af oO];exact hw j (by have:j<i+1:=hj;omega)
  ·intro j hj
   have hj:i+1<=j:=hj
   show q' j=a j
   rw[dt]
   simp only[af (show j≠i by omega)]
   exact hq j (by omega)
  ·show V (i+1) q'+s*0x10000000000000000^(i+1)=V (i+1) a+V (i+1) b
   rw[dt,Ma,iX a,iX b]
   rw[hq i (aE i)]at ji nq
   exact Qh hv ji nq (br ..)
  ·exact a_
 ·obtain rfl:i=9:=by omega
  have f7:cmp .lss (.ofNat 9) 9=false:=(B7 hA 9 9).trans (by decide)
  have f8:cmp .eql (.ofNat c) 1=decide (c=1):=sJ hA c 1
  obtain⟨o',d_⟩:=aa (decide (c=1))
  rw[<-d_]at f8
  rw[f7]
  cbv
  rw[f8]
  have hv:V 9 q+c*0x10000000000000000^9=V 9 a+V 9 b:=hv
  have e1:V 9 q=V 9 r:=by
   have h1:=eg hw
   have h2:=eg ha
   have h3:=eg hb
   rw[Ja]
   generalize 0x10000000000000000^9=M at *
   rcases(show c=0\/c=1 by omega)with rfl|rfl
   ·rw[aO (by omega)];omega
   ·rw[show V 9 a+V 9 b=V 9 q+M by omega,vg,aO h1]
  have e2:o'=o:=by
   have h1:=eg hw
   have h2:=eg ha
   have h3:=eg hb
   rw[ho,d_]
   generalize 0x10000000000000000^9=M at *
   refine ye.2 ?_
   rcases(show c=0\/c=1 by omega)with rfl|rfl
   ·constructor<;>intro h<;>omega
   ·constructor<;>intro h<;>omega
  have e3:=kx hw hr e1 (k:= .u64)
  simp only[aw,Nat.reduceAdd]at e3
  refine hK _ _ _ ?_
  rw[e3,e2]
  rfl
theorem Dh{P:Program}(hP:P=Tryz.prog)(a b r:Nat->Nat)(ha:Wn 9 a)(hb:Wn 9 b)(hr:Wn 9 r)(o:Bool)(Ja:V 9 r=(V 9 a+0x10000000000000000^9-V 9 b)%0x10000000000000000^9)(ho:o=decide (V 9 a<V 9 b)):
 ah P 96 [.agg (ws a 9),.agg (ws b 9)] [] 0 [] (fun v _ _=>v= .aR [.agg (ws r 9),.bool o]):=by
 refine aq hP Tryz.func96 ⟨yV _,yV _,trivial⟩ (by simp) ?_
 intro A g K hA hg hK
 obtain⟨bin,_,cmp,_,_,ix,_,_,_,_,_,_,_,_,_,off⟩:=A
 have f1:∀i,i<9->cmp .lss (.ofNat i) 9=true:=fun i h=>(B7 hA i 9).trans (eh h)
 have f2:∀i,i<9->ix (.ofNat i) 9=some i:=fun i h=>bB hA h
 have f3:∀i,off 0 i 1=i:=fun i=>(dh hA 0 i 1).trans (by omega)
 have f4:=fun(f:Nat->Nat) (k:Nat) (h:k<9)=>ei hA .u64 (n:=9) f h
 have f5:=fun(f g:Nat->Nat) (k v:Nat) (h:k<9) (e:g=fun j=>if j=k then v else f j)=>gX hA .u64 (n:=9) f g h e
 have f6:∀i,i<9->bin .add .i64 (.ofNat i) 1=Int.ofNat (i+1):=fun i h=>gP hA (by omega)
 simp only[aw,Nat.reduceAdd]at f4 f5
 cbv
 refine bH (Nat×(Nat->Nat)×Nat) (fun s=>s.1<=9/\s.2.2<=1/\Wn s.1 s.2.1/\(∀j,s.1<=j->s.2.1 j=a j)/\V s.1 s.2.1+V s.1 b=V s.1 a+s.2.2*0x10000000000000000^s.1) (fun s=>9-s.1)
  (fun s=> [(8,.int .i64 (.ofNat s.1)),(6,.int .u64 (.ofNat s.2.2))]) [2,3,4,5] (fun s=> [(0,ws s.2.1 9)]) (0,a,0) ⟨bf _,bf _,fun j h=>absurd h (mh j),fun _ _=>rfl,rfl⟩ ?_ ?_
 ·exact a_
 rintro⟨i,q,c⟩ ⟨hi,hc,hw,hq,hv⟩
 have hi:i<=9:=hi
 have hc:c<=1:=hc
 have hw:Wn i q:=hw
 have hq:∀j,i<=j->q j=a j:=hq
 cbv
 by_cases ab:i<9
 ·obtain⟨w,ji⟩:=aa ((q i+0x10000000000000000-b i-c)%0x10000000000000000)
  obtain⟨s,nq⟩:=aa (if q i<b i+c then 1 else 0)
  obtain⟨q',dt⟩:=aa (fun j=>if j=i then w else q j:Nat->Nat)
  rw[f1 i ab]
  cbv
  refine cf hP hA hg fun mk _=> ?_
  cbv
  rw[f2 i ab]
  cbv
  rw[f3 i,f4 q i ab]
  cbv
  rw[f2 i ab]
  cbv
  rw[f3 i,f4 b i ab]
  cbv
  refine eV (zM rfl hg rfl rfl (XS hP (q i) (b i) c w s hc ji nq)) ?_
  cbv
  rw[f2 i ab]
  cbv
  rw[f3 i,f5 q q' i w ab dt]
  cbv
  rw[f6 i ab]
  refine⟨(i+1,q',s),id,⟨ab,?_,?_,?_,?_⟩,(by show 9-(i+1)<9-i;omega),?_⟩
  ·have h1:=ha i ab
   have h2:=hb i ab
   rw[hq i (aE i)]at nq
   show s<=1
   rw[nq];split<;>omega
  ·intro j hj
   show q' j<_
   rw[dt]
   by_cases oO:j=i
   ·simp only[oO,aj];rw[ji];exact ax _ (by decide)
   ·simp only[af oO];exact hw j (by have:j<i+1:=hj;omega)
  ·intro j hj
   have hj:i+1<=j:=hj
   show q' j=a j
   rw[dt]
   simp only[af (show j≠i by omega)]
   exact hq j (by omega)
  ·show V (i+1) q'+V (i+1) b=V (i+1) a+s*0x10000000000000000^(i+1)
   rw[dt,Ma,iX a,iX b]
   rw[hq i (aE i)]at ji nq
   exact aqF hv (ha i ab) (hb i ab) hc ji nq (br ..)
  ·exact a_
 ·obtain rfl:i=9:=by omega
  have f7:cmp .lss (.ofNat 9) 9=false:=(B7 hA 9 9).trans (by decide)
  have f8:cmp .eql (.ofNat c) 1=decide (c=1):=sJ hA c 1
  obtain⟨o',d_⟩:=aa (decide (c=1))
  rw[<-d_]at f8
  rw[f7]
  cbv
  rw[f8]
  have hv:V 9 q+V 9 b=V 9 a+c*0x10000000000000000^9:=hv
  have e1:V 9 q=V 9 r:=by
   have h1:=eg hw
   have h2:=eg ha
   have h3:=eg hb
   rw[Ja]
   generalize 0x10000000000000000^9=M at *
   rcases(show c=0\/c=1 by omega)with rfl|rfl
   ·rw[show V 9 a+M-V 9 b=V 9 q+M by omega,vg,aO h1]
   ·rw[aO (by omega)];omega
  have e2:o'=o:=by
   have h1:=eg hw
   have h2:=eg ha
   have h3:=eg hb
   rw[ho,d_]
   generalize 0x10000000000000000^9=M at *
   refine ye.2 ?_
   rcases(show c=0\/c=1 by omega)with rfl|rfl
   ·constructor<;>intro h<;>omega
   ·constructor<;>intro h<;>omega
  have e3:=kx hw hr e1 (k:= .u64)
  simp only[aw,Nat.reduceAdd]at e3
  refine hK _ _ _ ?_
  rw[e3,e2]
  rfl
end Go.Proofs.YtfocopihipejfaaGreat
namespace Go.Vg
open Go.RowKit
section
variable {P:Program}{g:G}{F:FF}{L:LL}{n:Nat}
theorem apO{W:World}{a:Act}{o:Oper}{s x:Operand}{sA:Array TypeId}(ho:o.op= .call {callee:= .builtin .max,args:= #[s,x],argTypes:=sA}){v:Value}{W':World}(h:(Builtin.max_ sA o.type #[a.eval s,a.eval x]).run P W= .ok v W'):(execOp a.eval o).run P W= .ok (.value v) W':=by
 unfold execOp
 simp only[ho,resolve,invoke,builtin,Sem.run_bind,Sem.run_pure,Result.andThen_ok,Hv,ve,Hu,h]
theorem apP{W:World}{a:Act}{o:Oper}{s x:Operand}{sA:Array TypeId}(ho:o.op= .call {callee:= .builtin .min,args:= #[s,x],argTypes:=sA}){v:Value}{W':World}(h:(Builtin.min_ sA o.type #[a.eval s,a.eval x]).run P W= .ok v W'):(execOp a.eval o).run P W= .ok (.value v) W':=by
 unfold execOp
 simp only[ho,resolve,invoke,builtin,Sem.run_bind,Sem.run_pure,Result.andThen_ok,Hv,ve,Hu,h]
theorem Pe{o:Oper}{m0 N:Nat}{ms:List Nat}(hg:GI g m0 ms N)(aA:dD N o.dst=true){s x:Operand}{sA:Array TypeId}(ho:o.op= .call {callee:= .builtin .max,args:= #[s,x],argTypes:=sA})
 {k k':IntKind} {a b r:Int} (hs:ev (look F) s=some (.int k a)) (hx:ev (look F) x=some (.int k' b)) (hr:r=if b>a then b else a) {K:FF->LL->Nat->Prop} (hK:K (cH F o.dst (.int k r)) L n):Step g P o K F L n:=by
 refine Cy hg aA (fun β act W hm hf=> ?_) hK
 obtain⟨e1,_⟩:=cq hf hs
 obtain⟨e2,_⟩:=cq hf hx
 refine⟨apO ho ?_,trivial⟩
 rw[e1,e2,hr]
 exact run_max_int2 W sA o.type k k' a b
theorem ad5{o:Oper}{m0 N:Nat}{ms:List Nat}(hg:GI g m0 ms N)(aA:dD N o.dst=true){s x:Operand}{sA:Array TypeId}(ho:o.op= .call {callee:= .builtin .min,args:= #[s,x],argTypes:=sA})
 {k k':IntKind} {a b r:Int} (hs:ev (look F) s=some (.int k a)) (hx:ev (look F) x=some (.int k' b)) (hr:r=if b<a then b else a) {K:FF->LL->Nat->Prop} (hK:K (cH F o.dst (.int k r)) L n):Step g P o K F L n:=by
 refine Cy hg aA (fun β act W hm hf=> ?_) hK
 obtain⟨e1,_⟩:=cq hf hs
 obtain⟨e2,_⟩:=cq hf hx
 refine⟨apP ho ?_,trivial⟩
 rw[e1,e2,hr]
 exact run_min_int2 W sA o.type k k' a b
end
theorem A9(a:Nat->Nat):∀m,∃u,Used m a u
 |0=>⟨0,aE 0,fun j h1 h2=>by omega,fun h=>absurd h (by decide)⟩
 |m+1=>by
  by_cases h:a m=0
  ·obtain⟨u,h1,h2,h3⟩:=A9 a m
   refine⟨u,by omega,fun j hj hl=> ?_,h3⟩
   by_cases hm:j=m
   ·rw[hm];exact h
   ·exact h2 j hj (by omega)
  ·exact⟨m+1,aE _,fun j h1 h2=>by omega,fun _=>h⟩
theorem xV{m u:Nat}{a:Nat->Nat}(h:Used m a u):V m a=V u a:=by
 obtain⟨k,rfl⟩:∃k,m=u+k:=⟨m-u,by have:=h.1;omega⟩
 exact Dg.rM a u k fun i h1 h2=>h.2.1 i h1 h2
theorem ig.zero{k:Nat}(h:ig 0 k):k=0:=by
 rcases Nat.eq_zero_or_pos k with h1|h1
 ·exact h1
 ·have:=h.2 h1
  have:=ew (n:=k-1) (show 0<2 by decide)
  omega
theorem ig.shift{x y s l:Nat}(hx:x<2^s)(hy:ig y l)(h0:0<y):ig (x+y*2^s) (s+l):=by
 have hl:0<l:=by
  rcases Nat.eq_zero_or_pos l with h|h
  ·subst h;have:=hy.1;simp at this;omega
  ·exact h
 refine⟨?_,fun _=> ?_⟩
 ·have h1:=ea (2^s) (show y+1<=2^l from hy.1)
  rw[cw,fN]at h1
  rw[dV,bJ (2^s)]
  omega
 ·have h1:=ea (2^s) (hy.2 hl)
  rw[show s+l-1=l-1+s by omega,dV]
  omega
theorem ua(x:Nat):∃k,ig x k:=by
 by_cases h:x=0
 ·exact⟨0,by subst h;decide,fun h=>absurd h (by decide)⟩
 ·exact⟨Nat.log2 x+1,HE,fun _=>Nat.log2_self_le h⟩
theorem zx(n:Nat):18446744073709551616^n=2^(64*n):=by
 rw[jS]
theorem W9 {b : Nat} (hb : b = 64 * 9) : 18446744073709551616 ^ 9 = 2 ^ b := by rw [hb, zx]
section
variable {A:Ar}
theorem CV(hA:A=Ar.real){a b:Nat}(h:a+b<0x10000000000000000):A.bin .add .u64 (Int.ofNat a) (Int.ofNat b)=Int.ofNat (a+b):=by
 subst hA
 show IntKind.u64.wrap (Int.ofNat a+Int.ofNat b)=_
 simp[IntKind.wrap,IntKind.signed,IntKind.bits]
 omega
end
end Go.Vg
namespace Go.Proofs
open Go.Shelf
def Tryz.akG:Go.Shelf.Ren:=⟨fun|134=>181|129=>141|n=>n,fun|53=>28|3=>3|4=>4|46=>50|5=>5|9=>9|n=>n,fun|n=>n⟩
theorem Tryz.akF:Go.Proofs.Lays.n134 Tryz.prog Tryz.akG:= {
 mixed:=by kernel_rfl
 f129:=Tryz.func141.trans (aK some (by kernel_rfl))
 f134:=Tryz.func181.trans (aK some (by kernel_rfl))
 t3:=Tryz.underlying3
 a3:=Tryz.isAgg3
 z3:=Tryz.sizeOf3
 v3:=Tryz.zeroValue3
 t4:=Tryz.underlying4
 a4:=Tryz.isAgg4
 z4:=Tryz.sizeOf4
 v4:=Tryz.zeroValue4
 t5:=Tryz.underlying5
 a5:=Tryz.isAgg5
 z5:=Tryz.sizeOf5
 v5:=Tryz.zeroValue5
 t9:=Tryz.underlying9
 a9:=Tryz.isAgg9
 z9:=Tryz.sizeOf9
 v9:=Tryz.zeroValue9
 t46:=Tryz.underlying50
 a46:=Tryz.isAgg50
 z46:=Tryz.sizeOf50
 v46:=Tryz.zeroValue50
 t53:=Tryz.underlying28
 a53:=Tryz.isAgg28
 z53:=Tryz.sizeOf28
 v53:=Tryz.zeroValue28}
theorem Tryz.bits_LeadingZeros64(x:Int)(w:World)(h0:0<=x)(h1:x<=0xffffffffffffffff):
 Calls Tryz.prog 181 #[.int .u64 x] w fun e w'=>e= .returned (.int .i64 (64-(Lib.bitLen x.toNat:Int)))/\w'=w:=Any.bits_LeadingZeros64 Tryz.akF x w h0 h1
def Tryz.akE:Go.Shelf.Ren:=⟨fun|129=>141|n=>n,fun|53=>28|3=>3|4=>4|46=>50|5=>5|9=>9|n=>n,fun|n=>n⟩
theorem Tryz.akD:Go.Proofs.Lays.n129 Tryz.prog Tryz.akE:= {
 mixed:=by kernel_rfl
 f129:=Tryz.func141.trans (aK some (by kernel_rfl))
 t3:=Tryz.underlying3
 a3:=Tryz.isAgg3
 z3:=Tryz.sizeOf3
 v3:=Tryz.zeroValue3
 t4:=Tryz.underlying4
 a4:=Tryz.isAgg4
 z4:=Tryz.sizeOf4
 v4:=Tryz.zeroValue4
 t5:=Tryz.underlying5
 a5:=Tryz.isAgg5
 z5:=Tryz.sizeOf5
 v5:=Tryz.zeroValue5
 t9:=Tryz.underlying9
 a9:=Tryz.isAgg9
 z9:=Tryz.sizeOf9
 v9:=Tryz.zeroValue9
 t46:=Tryz.underlying50
 a46:=Tryz.isAgg50
 z46:=Tryz.sizeOf50
 v46:=Tryz.zeroValue50
 t53:=Tryz.underlying28
 a53:=Tryz.isAgg28
 z53:=Tryz.sizeOf28
 v53:=Tryz.zeroValue28}
theorem Tryz.bits_Len64(x:Int)(w:World)(h0:0<=x)(h1:x<=0xffffffffffffffff):
 Calls Tryz.prog 141 #[.int .u64 x] w fun e w'=>e= .returned (.int .i64 (Lib.bitLen x.toNat))/\w'=w:=Any.bits_Len64 Tryz.akD x w h0 h1
def Tryz.akI:Go.Shelf.Ren:=⟨fun|264=>186|n=>n,fun|53=>28|46=>50|n=>n,fun|n=>n⟩
theorem Tryz.akH:Go.Proofs.Lays.n264 Tryz.prog Tryz.akI:= {
 mixed:=by kernel_rfl
 f264:=Tryz.func186.trans (aK some (by kernel_rfl))
 t46:=Tryz.underlying50
 a46:=Tryz.isAgg50
 z46:=Tryz.sizeOf50
 v46:=Tryz.zeroValue50
 t53:=Tryz.underlying28
 a53:=Tryz.isAgg28
 z53:=Tryz.sizeOf28
 v53:=Tryz.zeroValue28}
open Go.RowKit Go.Lib in
theorem Tryz.bits_Mul64(x y:Nat)(hx:x<0x10000000000000000)(hy:y<0x10000000000000000)(w:World):
 Calls Tryz.prog 186 #[.int .u64 x,.int .u64 y] w fun e w'=>e= .returned (.tuple #[.int .u64 ((x*y/0x10000000000000000:Nat):Int),.int .u64 ((x*y%0x10000000000000000:Nat):Int)])/\w'=w:=Any.bits_Mul64 Tryz.akH x y hx hy w
def Tryz.abU:Go.Shelf.Ren:=⟨fun|105=>128|212=>158|99=>159|165=>160|166=>161|170=>162|169=>163|263=>185|264=>186|206=>187|240=>188|241=>189|276=>209|277=>210|n=>n,fun|9=>9|3=>3|4=>4|20=>20|0=>0|46=>50|109=>230|5=>5|72=>235|76=>239|51=>88|146=>280|53=>28|148=>207|70=>233|37=>89|75=>238|127=>283|164=>307|80=>216|n=>n,fun|n=>n⟩
theorem Tryz.akC:Go.Proofs.Lays.n105 Tryz.prog Tryz.abU:= {
 mixed:=by kernel_rfl
 f99:=Tryz.func159.trans (aK some (by kernel_rfl))
 f105:=Tryz.func128.trans (aK some (by kernel_rfl))
 f165:=Tryz.func160.trans (aK some (by kernel_rfl))
 f166:=Tryz.func161.trans (aK some (by kernel_rfl))
 f169:=Tryz.func163.trans (aK some (by kernel_rfl))
 f170:=Tryz.func162.trans (aK some (by kernel_rfl))
 f206:=Tryz.func187.trans (aK some (by kernel_rfl))
 f212:=Tryz.func158.trans (aK some (by kernel_rfl))
 f240:=Tryz.func188.trans (aK some (by kernel_rfl))
 f241:=Tryz.func189.trans (aK some (by kernel_rfl))
 f263:=Tryz.func185.trans (aK some (by kernel_rfl))
 f264:=Tryz.func186.trans (aK some (by kernel_rfl))
 f276:=Tryz.func209.trans (aK some (by kernel_rfl))
 f277:=Tryz.func210.trans (aK some (by kernel_rfl))
 t0:=Tryz.underlying0
 a0:=Tryz.isAgg0
 z0:=Tryz.sizeOf0
 v0:=Tryz.zeroValue0
 t3:=Tryz.underlying3
 a3:=Tryz.isAgg3
 z3:=Tryz.sizeOf3
 v3:=Tryz.zeroValue3
 t4:=Tryz.underlying4
 a4:=Tryz.isAgg4
 z4:=Tryz.sizeOf4
 v4:=Tryz.zeroValue4
 t5:=Tryz.underlying5
 a5:=Tryz.isAgg5
 z5:=Tryz.sizeOf5
 v5:=Tryz.zeroValue5
 t9:=Tryz.underlying9
 a9:=Tryz.isAgg9
 z9:=Tryz.sizeOf9
 v9:=Tryz.zeroValue9
 t20:=Tryz.underlying20
 a20:=Tryz.isAgg20
 z20:=Tryz.sizeOf20
 v20:=Tryz.zeroValue20
 t37:=Tryz.underlying89
 a37:=Tryz.isAgg89
 z37:=Tryz.sizeOf89
 v37:=Tryz.zeroValue89
 t46:=Tryz.underlying50
 a46:=Tryz.isAgg50
 z46:=Tryz.sizeOf50
 v46:=Tryz.zeroValue50
 t51:=Tryz.underlying88
 a51:=Tryz.isAgg88
 z51:=Tryz.sizeOf88
 v51:=Tryz.zeroValue88
 t53:=Tryz.underlying28
 a53:=Tryz.isAgg28
 z53:=Tryz.sizeOf28
 v53:=Tryz.zeroValue28
 t70:=Tryz.underlying233
 a70:=Tryz.isAgg233
 z70:=Tryz.sizeOf233
 v70:=Tryz.zeroValue233
 t72:=Tryz.underlying235
 a72:=Tryz.isAgg235
 z72:=Tryz.sizeOf235
 v72:=Tryz.zeroValue235
 t75:=Tryz.underlying238
 a75:=Tryz.isAgg238
 z75:=Tryz.sizeOf238
 v75:=Tryz.zeroValue238
 t76:=Tryz.underlying239
 a76:=Tryz.isAgg239
 z76:=Tryz.sizeOf239
 v76:=Tryz.zeroValue239
 t109:=Tryz.underlying230
 a109:=Tryz.isAgg230
 z109:=Tryz.sizeOf230
 v109:=Tryz.zeroValue230
 t127:=Tryz.underlying283
 a127:=Tryz.isAgg283
 z127:=Tryz.sizeOf283
 v127:=Tryz.zeroValue283
 t146:=Tryz.underlying280
 a146:=Tryz.isAgg280
 z146:=Tryz.sizeOf280
 v146:=Tryz.zeroValue280
 t148:=Tryz.underlying207
 a148:=Tryz.isAgg207
 z148:=Tryz.sizeOf207
 v148:=Tryz.zeroValue207
 t164:=Tryz.underlying307
 a164:=Tryz.isAgg307
 z164:=Tryz.sizeOf307
 v164:=Tryz.zeroValue307}
theorem Tryz.aeV:Builder.Extra Tryz.prog Tryz.abU:= {
 sizeBuilder:=by kernel_rfl
 liesBuilder:=by kernel_rfl
 t5:=Tryz.underlying5
 a5:=Tryz.isAgg5
 z5:=Tryz.sizeOf5
 v5:=Tryz.zeroValue5
 infoByte:=by kernel_rfl
 cellsByte:=by kernel_rfl
 sizeByte:=by kernel_rfl
 neB5:=by decide}
open Go.RowKit Go.Lib in
theorem Tryz.strings_Repeat(s:ByteArray)(c:Nat)(w:World)(hc:c<=9223372036854775807)(hlen:s.size*c<=140737488355328):
 Calls Tryz.prog 128 #[.string s,.int .i64 c] w fun e w'=>e= .returned (.string ⟨(Lib.repeatL s.data.toList c).toArray⟩)/\Below w.heap.size w w':=Any.strings_Repeat Tryz.akC Tryz.aeV s c w hc hlen
end Go.Proofs
namespace Go.Proofs.YtfocopihipejfaaGreat
open Go.Vg Go.RowKit
set_option maxRecDepth 200000
set_option cbv.maxSteps 100000000
theorem QV{P:Program}(hP:P=Tryz.prog)(a:Nat->Nat)(u:Nat)(hu:Used 9 a u):
 ah P 140 [.ptr 0 0] [⟨0,ws a 9,31⟩] 1 [] (fun v _ _=>v= .int .i64 (.ofNat u)):=by
 refine aq hP Tryz.func140 (ak _ rfl) (aD rfl) ?_
 intro A g K hA hg hK
 obtain⟨bin,_,cmp,_,_,ix,_,_,_,_,_,_,_,_,_,off,_,_,sub⟩:=A
 have f0:∀i,cmp .gtr (.ofNat i) 0=decide (0<i):=fun i=>M0 hA i 0
 have f1:∀i,i<9->bin .sub .i64 (.ofNat (i+1)) 1=Int.ofNat i:=fun i h=>(er hA (a:=i+1) (b:=1) (by omega) (by omega)).trans (by simp)
 have f2:∀i,i<9->ix (.ofNat i) 9=some i:=fun i h=>bB hA h
 have f3:∀i,off 0 i 1=i:=fun i=>(dh hA 0 i 1).trans (by omega)
 have f4:=fun(f:Nat->Nat) (k:Nat) (h:k<9)=>ei hA .u64 (n:=9) f h
 have f5:∀i,cmp .eql (.ofNat i) 0=decide (i=0):=fun i=>sJ hA i 0
 simp only[aw,Nat.reduceAdd]at f4
 cbv
 refine bH Nat (fun i=>i<=9/\u<=i) (fun i=>i) (fun i=> [(3,.int .i64 (.ofNat i))]) [0] (fun i=> []) 9 ⟨aE _,hu.1⟩ ?_ ?_
 ·exact a_
 rintro i ⟨hi,Eh⟩
 cbv
 cases i with
 |zero=>
  have e0:cmp .gtr (.ofNat 0) 0=false:=f0 0
  rw[e0]
  cbv
  exact hK _ _ _ (by rw[show u=0 by omega];rfl)
 |succ i=>
  have e0:cmp .gtr (.ofNat (i+1)) 0=true:=(f0 (i+1)).trans (by simp)
  have e1:=f1 i (by omega)
  obtain⟨i1,dQ⟩:=aa (i+1)
  rw[<-dQ]at e0 e1⊢
  rw[e0]
  cbv
  rw[e1]
  rw[f2 i (by omega)]
  cbv
  rw[f3 i,f4 a i (by omega)]
  cbv
  rw[f5 (a i)]
  by_cases hz:a i=0
  ·rw[eh hz]
   cbv
   rw[e1]
   refine⟨i,id,⟨by omega,?_⟩,(by show i<i1;omega),?_⟩
   ·by_cases h:u=i1
    ·exact absurd (by rw[show u-1=i by omega];exact hz) (hu.2.2 (by omega))
    ·show u<=i
     omega
   ·exact a_
  ·rw[da hz]
   cbv
   refine hK _ _ _ ?_
   have:u=i1:=by
    by_cases h:u=i1
    ·exact h
    ·exact absurd (hu.2.1 i (by omega) (by omega)) hz
   rw[this]
   rfl
theorem zB{P:Program}(hP:P=Tryz.prog)(x:Nat)(hx:x<2^63)(r:Nat->Nat)(hr:r=fun j=>if j=0 then x else 0):
 ah P 97 [.int .i64 (.ofNat x)] [] 0 [] (fun v _ _=>v= .agg (ws r 9)):=by
 refine aq hP Tryz.func97 (ak _ rfl) (aD rfl) ?_
 intro A g K hA hg hK
 obtain⟨_,_,_,_,aX⟩:=A
 have f1:aX .u64 (.ofNat x)=Int.ofNat x:=nQ hA (fun h=>by cases h) (fun _=>by show x<0x10000000000000000;omega)
 cbv
 refine Pe hg rfl rfl (r:=Int.ofNat x) rfl rfl (by split<;>simp_all<;>omega) ?_
 cbv
 rw[f1]
 refine hK _ _ _ ?_
 subst hr
 rfl
theorem Y8{x:Nat}(h:x<0x10000000000000000):ig x (Lib.bitLen x):=by
 by_cases h0:x=0
 ·subst h0
  exact⟨by decide,fun h=>absurd h (by decide)⟩
 ·obtain⟨_,h2,h3⟩:=Lib.bitLenAux_bounds 64 x h h0
  exact⟨h3,fun _=>h2⟩
theorem agf{P:Program}(hP:P=Tryz.prog)(x k:Nat)(hx:x<0x10000000000000000)(hk:ig x k):
 ah P 141 [.int .u64 (.ofNat x)] [] 0 [] (fun v _ _=>v= .int .i64 (.ofNat k)):=by
 subst hP
 refine ah.MW (u_.of Tryz.func141 rfl) (fun W=>(Tryz.bits_Len64 (x:Int) W (by omega) (by omega)).mono ?_) ⟨trivial,trivial⟩ trivial
 rintro e W' ⟨rfl,rfl⟩
 refine⟨?_,Below.refl _ _⟩
 rw[hk.uniq (Y8 hx)]
 rfl
theorem Zl{P:Program}(hP:P=Tryz.prog)(x k:Nat)(hx:x<0x10000000000000000)(hk:ig x k):
 ah P 181 [.int .u64 (.ofNat x)] [] 0 [] (fun v _ _=>v= .int .i64 (.ofNat (64-k))):=by
 subst hP
 refine ah.MW (u_.of Tryz.func181 rfl) (fun W=>(Tryz.bits_LeadingZeros64 (x:Int) W (by omega) (by omega)).mono ?_) ⟨trivial,trivial⟩ trivial
 rintro e W' ⟨rfl,rfl⟩
 refine⟨?_,Below.refl _ _⟩
 have h1:=Y8 hx
 rw[hk.uniq h1]
 have h2:Lib.bitLen x<=64:=vk fun h3=>by
  have h4:=h1.2 (by omega)
  have h5:=cV (show 0<2 by decide) (show 64<=Lib.bitLen x-1 by omega)
  omega
 simp only[den,Int.toNat_natCast]
 congr 2
 show(64:Int)-(Lib.bitLen x:Int)=((64-Lib.bitLen x:Nat):Int)
 omega
theorem Ic{P:Program}(hP:P=Tryz.prog)(x y h l:Nat)(hx:x<0x10000000000000000)(hy:y<0x10000000000000000)(hh:h=x*y/0x10000000000000000)(hl:l=x*y%0x10000000000000000):
 ah P 186 [.int .u64 (.ofNat x),.int .u64 (.ofNat y)] [] 0 [] (fun v _ _=>v= .aR [.int .u64 (.ofNat h),.int .u64 (.ofNat l)]):=by
 subst hP
 refine ah.MW (u_.of Tryz.func186 rfl) (fun W=>(Tryz.bits_Mul64 x y hx hy W).mono ?_) ⟨trivial,trivial,trivial⟩ ⟨trivial,trivial,trivial⟩
 rintro e W' ⟨rfl,rfl⟩
 refine⟨?_,Below.refl _ _⟩
 subst hh hl
 rfl
theorem Da{P:Program}(hP:P=Tryz.prog)(a b:Nat->Nat)(ha:Wn 9 a)(hb:Wn 9 b)(o:Int)(ho:o=if V 9 a<V 9 b then -1 else if V 9 b<V 9 a then 1 else 0):
 ah P 111 [.agg (ws a 9),.agg (ws b 9)] [] 0 [] (fun v _ _=>v= .int .i64 o):=by
 refine aq hP Tryz.func111 ⟨yV _,yV _,trivial⟩ (by simp) ?_
 intro A g K hA hg hK
 obtain⟨bin,_,cmp,_,_,ix,_,_,_,_,_,_,_,_,_,off,_,_,sub⟩:=A
 have f0:∀i,cmp .geq (.ofNat i) 0=true:=fun i=>(Rx hA i 0).trans (by simp)
 have f0':cmp .geq (-1) 0=false:=by subst_vars;exact(bg (bg (bg (kA hA) .geq) (-1)) 0).trans rfl
 have f1:∀i,i<9->bin .sub .i64 (.ofNat (i+1)) 1=Int.ofNat i:=fun i h=>(er hA (a:=i+1) (b:=1) (by omega) (by omega)).trans (by simp)
 have f1':bin .sub .i64 (.ofNat 0) 1= -1:=(bg (bg (bg (bg (qQ hA) .sub) .i64) (Int.ofNat 0)) 1).trans rfl
 have f2:∀i,i<9->ix (.ofNat i) 9=some i:=fun i h=>bB hA h
 have f3:∀i,off 0 i 1=i:=fun i=>(dh hA 0 i 1).trans (by omega)
 have f4:=fun(f:Nat->Nat) (k:Nat) (h:k<9)=>ei hA .u64 (n:=9) f h
 have f5:∀x y,cmp .lss (.ofNat x) (.ofNat y)=decide (x<y):=fun x y=>B7 hA x y
 have f6:∀x y,cmp .gtr (.ofNat x) (.ofNat y)=decide (y<x):=fun x y=>M0 hA x y
 simp only[aw,Nat.reduceAdd]at f4
 have heq:∀i,i<=9->(∀j,i<=j->j<9->a j=b j)->V 9 a=V i a+(V 9 b-V i b)/\V i b<=V 9 b:=by
  intro i hi hj
  obtain⟨k,hk⟩:∃k,9=i+k:=⟨9-i,by omega⟩
  have h1:=Dg.yZ (b:=0x10000000000000000) a i k
  have h2:=Dg.yZ (b:=0x10000000000000000) b i k
  rw[<-hk]at h1 h2
  have h3:Dg.num 0x10000000000000000 (fun q=>a (i+q)) k=Dg.num 0x10000000000000000 (fun q=>b (i+q)) k:=Dg.jP k fun q hq=>hj (i+q) (by omega) (by omega)
  rw[h3]at h1
  simp only[V]
  omega
 have ab:∀i,i<9->∀f g:Nat->Nat,Wn 9 f->f i<g i->V (i+1) f<V (i+1) g:=by
  intro i hi f g hf h
  have h1:V i f<0x10000000000000000^i:=eg fun j hj=>hf j (by omega)
  rw[iX,iX]
  have h2:=ea (0x10000000000000000^i) (show f i+1<=g i from h)
  rw[cw,fN]at h2
  generalize 0x10000000000000000^i=M at *
  omega
 cbv
 refine bH (Option Nat) (fun s=>match s with|none=>V 9 a=V 9 b|some i=>i<9/\∀j,i<j->j<9->a j=b j) (fun s=>match s with|none=>0|some i=>i+1) (fun s=> [(5,.int .i64 (match s with|none=> -1|some i=>Int.ofNat i))]) [2,3,4] (fun _=> []) (some 8) ⟨by decide,fun j h1 h2=>by omega⟩ ?_ ?_
 ·exact a_
 rintro(_|i) hs
 ·cbv
  rw[f0']
  cbv
  have hs:V 9 a=V 9 b:=hs
  exact hK _ _ _ (by rw[ho,hs,af (iO _),af (iO _)];rfl)
 ·obtain⟨hi,hj⟩:=hs
  have hi:i<9:=hi
  have hj:∀j,i<j->j<9->a j=b j:=hj
  cbv
  rw[f0 i]
  cbv
  refine cf hP hA hg fun mk _=> ?_
  cbv
  rw[f2 i hi]
  cbv
  rw[f3 i,f4 a i hi]
  cbv
  rw[f2 i hi]
  cbv
  rw[f3 i,f4 b i hi]
  cbv
  rw[f5]
  have e1:=heq (i+1) (by omega) (fun j h1 h2=>hj j (by omega) h2)
  by_cases h1:a i<b i
  ·rw[eh h1]
   cbv
   have e2:=ab i hi a b ha h1
   exact hK _ _ _ (by rw[ho,aj (by omega)];rfl)
  ·rw[da h1]
   cbv
   refine cf hP hA hg fun mk _=> ?_
   cbv
   rw[f2 i hi]
   cbv
   rw[f3 i,f4 a i hi]
   cbv
   rw[f2 i hi]
   cbv
   rw[f3 i,f4 b i hi]
   cbv
   rw[f6]
   by_cases h2:b i<a i
   ·rw[eh h2]
    cbv
    have e2:=ab i hi b a hb h2
    exact hK _ _ _ (by rw[ho,af (by omega),aj (by omega)];rfl)
   ·rw[da h2]
    cbv
    have h3:a i=b i:=by omega
    have DS:∀j,i<=j->j<9->a j=b j:=fun j h1 h2=>by
     rcases Nat.lt_or_eq_of_le h1 with h4|h4
     ·exact hj j h4 h2
     ·rw[<-h4];exact h3
    cases i with
    |zero=>
     rw[show bin .sub .i64 (.ofNat 0) 1= -1 from f1']
     refine⟨none,id,?_,(by show 0<0+1;omega),?_⟩
     ·show V 9 a=V 9 b
      exact Dg.jP 9 fun j h=>DS j (by omega) h
     ·exact a_
    |succ i=>
     rw[f1 i (by omega)]
     refine⟨some i,id,⟨by omega,fun j h1 h2=>DS j (by omega) h2⟩,(by show i+1<i+1+1;omega),?_⟩
     exact a_
theorem Ib{P:Program}(hP:P=Tryz.prog)(a:Nat->Nat)(ha:Wn 9 a)(k:Nat)(hk:ig (V 9 a) k):
 ah P 98 [.agg (ws a 9)] [] 0 [] (fun v _ _=>v= .int .i64 (.ofNat k)):=by
 obtain⟨u,hu⟩:=A9 a 9
 have uI:=xV hu
 refine aq hP Tryz.func98 ⟨yV _,trivial⟩ (by simp) ?_
 intro A g K hA hg hK
 obtain⟨bin,_,cmp,_,_,ix,_,_,_,_,_,_,_,_,_,off,_,_,sub⟩:=A
 have f0:∀i,cmp .eql (.ofNat i) 0=decide (i=0):=fun i=>sJ hA i 0
 have f2:∀i,i<9->ix (.ofNat i) 9=some i:=fun i h=>bB hA h
 have f3:∀i,off 0 i 1=i:=fun i=>(dh hA 0 i 1).trans (by omega)
 have f4:=fun(f:Nat->Nat) (k:Nat) (h:k<9)=>ei hA .u64 (n:=9) f h
 simp only[aw,Nat.reduceAdd]at f4
 cbv
 refine fT rfl hg rfl rfl (QV hP a u hu) id rfl ⟨rfl,trivial⟩ ?_
 rintro _ _ _ rfl
 cbv
 rw[f0]
 cases u with
 |zero=>
  rw[show decide (0=0)=true from rfl]
  cbv
  rw[uI]at hk
  refine hK _ _ _ ?_
  rw[hk.zero]
  rfl
 |succ u=>
  rw[show decide (u+1=0)=false from da (by omega)]
  have Od:u<9:=hu.1
  obtain⟨l,hl⟩:=ua (a u)
  have arB:l<=64:=vk fun h3=>by
   have h4:=hl.2 (by omega)
   have h5:=cV (show 0<2 by decide) (show 64<=l-1 by omega)
   have:=ha u Od
   omega
  have e0:bin .sub .i64 (.ofNat (u+1)) 1=Int.ofNat u:=(er hA (a:=u+1) (b:=1) (by omega) (by omega)).trans (by simp)
  have e1:bin .mul .i64 (.ofNat u) 64=Int.ofNat (u*64):=k8 hA (b:=64) (by omega)
  have e2:bin .add .i64 (.ofNat (u*64)) (.ofNat l)=Int.ofNat (u*64+l):=e_ hA (by omega)
  have jE:k=u*64+l:=by
   refine hk.uniq ?_
   rw[uI,iX,zx,show u*64=64*u by omega]
   refine ig.shift ?_ hl ?_
   ·have:=eg (n:=u) (f:=a) fun j hj=>ha j (by omega)
    rw[zx]at this
    exact this
   ·have:=hu.2.2 (by omega)
    simp at this
    omega
  generalize hw:u+1=u1 at e0
  generalize uJ:u*64=u64 at e1 e2 jE
  cbv
  rw[e0,e1,f2 u Od]
  cbv
  rw[f3 u,f4 a u Od]
  cbv
  refine fe rfl hg rfl rfl (agf hP (a u) l (ha u Od) hl) ?_
  rintro _ _ _ rfl
  cbv
  rw[e2,<-jE]
  exact hK _ _ _ rfl
theorem alC{x y z c h l l1 c1 l2 c2:Nat}(hx:x<0x10000000000000000)(hy:y<0x10000000000000000)(hz:z<0x10000000000000000)(hc:c<0x10000000000000000)(hh:h=x*y/0x10000000000000000)(hl:l=x*y%0x10000000000000000)
 (cQ:l1=(l+z+0)%0x10000000000000000) (eA:c1=(l+z+0)/0x10000000000000000) (eO:l2=(l1+c+0)%0x10000000000000000) (dP:c2=(l1+c+0)/0x10000000000000000):
 x*y+z+c=l2+(h+c1+c2)*0x10000000000000000/\h+c1+c2<0x10000000000000000/\l2<0x10000000000000000/\c1<=1/\c2<=1:=by
 have h1:x*y<=0xffffffffffffffff*0xffffffffffffffff:=mV (by omega) (by omega)
 generalize x*y=p at *
 omega
theorem alB{Vp Vq c cc x y z P Pk Pi B l2:Nat}(At:Vp+c*P=Vq+x*B*Pi)(w1:x*y+z+c=l2+cc*0x10000000000000000)(hP:P=Pk*Pi):Vp+l2*P+cc*(P*0x10000000000000000)=(Vq+z*P)+x*(B+y*Pk)*Pi:=by
 have h1:(Vq+z*P)+x*(B+y*Pk)*Pi=(Vq+x*B*Pi)+(x*y+z)*P:=by subst hP;grind
 have h2:Vp+l2*P+cc*(P*0x10000000000000000)=Vp+(l2+cc*0x10000000000000000)*P:=by grind
 rw[h1,h2,<-At,<-w1]
 grind
theorem agr{P:Program}(hP:P=Tryz.prog)(a b r:Nat->Nat)(ha:Wn 9 a)(hb:Wn 9 b)(hr:Wn 18 r)(Ja:V 18 r=V 9 a*V 9 b):
 ah P 178 [.agg (ws a 9),.agg (ws b 9)] [] 0 [] (fun v _ _=>v= .agg (ws r 18)):=by
 obtain⟨m,hm⟩:=A9 a 9
 obtain⟨n,hn⟩:=A9 b 9
 have uI:=xV hm
 have El:=xV hn
 have hm9:=hm.1
 have Gr:=hn.1
 refine aq hP Tryz.func178 ⟨yV _,yV _,trivial⟩ (by simp) ?_
 intro A g K hA hg hK
 obtain⟨bin,_,cmp,_,_,ix,_,_,_,_,_,_,_,_,_,off⟩:=A
 have f1:∀x y,cmp .lss (.ofNat x) (.ofNat y)=decide (x<y):=fun x y=>B7 hA x y
 have f2:∀i,i<9->ix (.ofNat i) 9=some i:=fun i h=>bB hA h
 have iq:∀i,i<18->ix (.ofNat i) 18=some i:=fun i h=>bB hA h
 have f3:∀i,off 0 i 1=i:=fun i=>(dh hA 0 i 1).trans (by omega)
 have f4:=fun(f:Nat->Nat) (k:Nat) (h:k<9)=>ei hA .u64 (n:=9) f h
 have pn:=fun(f:Nat->Nat) (k:Nat) (h:k<18)=>ei hA .u64 (n:=18) f h
 have f5:=fun(f g:Nat->Nat) (k v:Nat) (h:k<18) (e:g=fun j=>if j=k then v else f j)=>gX hA .u64 (n:=18) f g h e
 have f6:∀i,i<9->bin .add .i64 (.ofNat i) 1=Int.ofNat (i+1):=fun i h=>gP hA (by omega)
 have f7:∀x y,x+y<0x10000000000000000->bin .add .u64 (.ofNat x) (.ofNat y)=Int.ofNat (x+y):=fun x y h=>CV hA h
 have f8:∀x y,x+y<18->bin .add .i64 (.ofNat x) (.ofNat y)=Int.ofNat (x+y):=fun x y h=>e_ hA (by omega)
 simp only[aw,Nat.reduceAdd]at f4 pn f5
 cbv
 refine fT rfl hg rfl rfl (QV hP a m hm) id rfl ⟨rfl,trivial⟩ ?_
 rintro _ _ _ rfl
 cbv
 refine fT rfl hg rfl rfl (QV hP b n hn) (fun l=>l+1) rfl ⟨rfl,trivial⟩ ?_
 rintro _ _ _ rfl
 cbv
 refine bH (Nat×(Nat->Nat)) (fun s=>s.1<=m/\Wn 18 s.2/\(∀j,s.1+n<=j->s.2 j=0)/\V (s.1+n) s.2=V s.1 a*V n b) (fun s=>m-s.1)
  (fun s=> [(17,.int .i64 (.ofNat s.1))]) [2,3,4,5,6,7,16] (fun s=> [(3,ws s.2 18)]) (0,fun _=>0) ⟨bf _,fun j _=>by show 0<_;decide,fun _ _=>rfl,?_⟩ ?_ ?_
 ·show V (0+n) (fun _=>0)=V 0 a*V n b
  rw[show V 0 a=0 from rfl,fE]
  exact Dg.rM (b:=0x10000000000000000) (fun _=>0) 0 n fun _ _ _=>rfl
 ·exact a_
 rintro⟨i,q⟩ ⟨hi,hq,hz,hv⟩
 have hi:i<=m:=hi
 have hq:Wn 18 q:=hq
 have hz:∀j,i+n<=j->q j=0:=hz
 have hv:V (i+n) q=V i a*V n b:=hv
 cbv
 rw[f1]
 by_cases ab:i<m
 ·rw[eh ab]
  cbv
  refine bH (Nat×(Nat->Nat)×Nat) (fun s=>s.1<=n/\Wn 18 s.2.1/\s.2.2<0x10000000000000000/\(∀j,i+s.1<=j->s.2.1 j=q j)/\V (i+s.1) s.2.1+s.2.2*0x10000000000000000^(i+s.1)=V (i+s.1) q+a i*V s.1 b*0x10000000000000000^i) (fun s=>n-s.1)
   (fun s=> [(21,.int .i64 (.ofNat s.1)),(9,.int .u64 (.ofNat s.2.2))]) [2,3,4,5,6,7,8,16,17,20] (fun s=> [(3,ws s.2.1 18)]) (0,q,0) ⟨bf _,hq,by show 0<_;decide,fun _ _=>rfl,?_⟩ ?_ ?_
  ·show V (i+0) q+0*_=V (i+0) q+a i*V 0 b*_
   rw[show V 0 b=0 from rfl];simp
  ·exact a_
  rintro⟨k,p,c⟩ ⟨hk,hp,hc,Gw,At⟩
  have hk:k<=n:=hk
  have hp:Wn 18 p:=hp
  have hc:c<0x10000000000000000:=hc
  have Gw:∀j,i+k<=j->p j=q j:=Gw
  have At:V (i+k) p+c*0x10000000000000000^(i+k)=V (i+k) q+a i*V k b*0x10000000000000000^i:=At
  cbv
  rw[f1]
  by_cases wO:k<n
  ·rw[eh wO]
   have i9:i<9:=by omega
   have k9:k<9:=by omega
   obtain⟨h,hh⟩:=aa (a i*b k/0x10000000000000000)
   obtain⟨l,hl⟩:=aa (a i*b k%0x10000000000000000)
   obtain⟨l1,cQ⟩:=aa ((l+p (i+k)+0)%0x10000000000000000)
   obtain⟨c1,eA⟩:=aa ((l+p (i+k)+0)/0x10000000000000000)
   obtain⟨l2,eO⟩:=aa ((l1+c+0)%0x10000000000000000)
   obtain⟨c2,dP⟩:=aa ((l1+c+0)/0x10000000000000000)
   obtain⟨w1,w2,w3,w4,w5⟩:=alC (ha i i9) (hb k k9) (hp (i+k) (by omega)) hc hh hl cQ eA eO dP
   have e8:=f8 i k (by omega)
   have e7:=f7 h c1 (by omega)
   have Q8:=f7 (h+c1) c2 (by omega)
   obtain⟨ik,fV⟩:=aa (i+k)
   obtain⟨p',iJ⟩:=aa (fun j=>if j=ik then l2 else p j:Nat->Nat)
   have e5:=f5 p p' ik l2 (by omega) iJ
   have e4:=pn p ik (by omega)
   have e2:=iq ik (by omega)
   have e3:=f3 ik
   obtain⟨ajv,rh⟩:=aa (h+c1)
   obtain⟨cc,oa⟩:=aa (ajv+c2)
   rw[<-rh]at e7 Q8 w2
   rw[<-oa]at Q8 w2
   rw[<-rh,<-oa]at w1
   rw[<-fV]at e8 cQ eA
   cbv
   refine cf hP hA hg fun mk _=> ?_
   cbv
   rw[f2 i i9]
   cbv
   rw[f3 i,f4 a i i9]
   cbv
   rw[f2 k k9]
   cbv
   rw[f3 k,f4 b k k9]
   cbv
   refine eV (Dl rfl hg rfl rfl (Ic hP (a i) (b k) h l (ha i i9) (hb k k9) hh hl) (fun _ _ _ h=>h) ⟨trivial,trivial,trivial⟩) ?_
   cbv
   rw[e8]
   rw[e2]
   cbv
   rw[e3,e4]
   cbv
   refine G' rfl hg rfl rfl (u9 hP l (p ik) 0 l1 c1 (by decide) cQ eA) ?_
   cbv
   rw[e7]
   refine G' rfl hg rfl rfl (u9 hP l1 c 0 l2 c2 (by decide) eO dP) ?_
   cbv
   rw[e8]
   rw[Q8,e2]
   cbv
   rw[e3,e5]
   cbv
   rw[f6 k k9]
   refine⟨(k+1,p',cc),id,⟨wO,?_,w2,?_,?_⟩,(by show n-(k+1)<n-k;omega),?_⟩
   ·intro j hj
    show p' j<_
    rw[iJ]
    by_cases oO:j=ik
    ·simp only[oO,aj];exact w3
    ·simp only[af oO];exact hp j hj
   ·intro j hj
    have hj:i+(k+1)<=j:=hj
    show p' j=q j
    rw[iJ]
    simp only[af (show j≠ik by omega)]
    exact Gw j (by omega)
   ·show V (i+(k+1)) p'+cc*0x10000000000000000^(i+(k+1))=V (i+(k+1)) q+a i*V (k+1) b*0x10000000000000000^i
    rw[<-xP,<-fV,iJ,Ma,iX q,iX b,br]
    rw[<-fV]at At
    have qv:p ik=q ik:=Gw ik (by omega)
    rw[fV]at qv
    rw[qv]at w1
    rw[<-fV]at w1
    exact alB At w1 (by rw[fV,dV,bJ])
   ·exact a_
  ·rw[da wO]
   obtain rfl:k=n:=by omega
   have e8:=f8 i k (by omega)
   obtain⟨ik,fV⟩:=aa (i+k)
   obtain⟨p',iJ⟩:=aa (fun j=>if j=ik then c else p j:Nat->Nat)
   have e5:=f5 p p' ik c (by omega) iJ
   have e2:=iq ik (by omega)
   have e3:=f3 ik
   rw[<-fV]at e8
   cbv
   rw[e8,e2]
   cbv
   rw[e3,e5]
   cbv
   rw[f6 i (by omega)]
   refine⟨(i+1,p'),id,⟨ab,?_,?_,?_⟩,(by show m-(i+1)<m-i;omega),?_⟩
   ·intro j hj
    show p' j<_
    rw[iJ]
    by_cases oO:j=ik
    ·simp only[oO,aj];exact hc
    ·simp only[af oO];exact hp j hj
   ·intro j hj
    have hj:i+1+k<=j:=hj
    show p' j=0
    rw[iJ]
    simp only[af (show j≠ik by omega)]
    rw[Gw j (by omega)]
    exact hz j (by omega)
   ·show V (i+1+k) p'=V (i+1) a*V k b
    rw[show i+1+k=ik+1 by omega,iJ,Ma,iX a,fV,At,hv]
    grind
   ·exact a_
 ·rw[da ab]
  obtain rfl:i=m:=by omega
  have e1:V 18 q=V 18 r:=by
   rw[Ja,uI,El,<-hv]
   obtain⟨d,hd⟩:∃d,18=(i+n)+d:=⟨18-(i+n),by omega⟩
   rw[hd]
   exact Dg.rM (b:=0x10000000000000000) q (i+n) d fun j h1 _=>hz j h1
  have e3:=kx hq hr e1 (k:= .u64)
  simp only[aw,Nat.reduceAdd]at e3
  cbv
  refine hK _ _ _ ?_
  rw[e3]
  rfl
end Go.Proofs.YtfocopihipejfaaGreat
