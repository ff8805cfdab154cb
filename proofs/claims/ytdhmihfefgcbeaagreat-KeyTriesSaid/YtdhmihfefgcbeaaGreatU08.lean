/-
  This text proves what these texts prove: VgT, Na, SA, Nb, Nc. Conditions: those of each theorem.
-/
import Derived.Shelf.Small.Bits
import Derived.Shelf.Strconv.Itoa0
import Derived.Shelf.Bits.Mul64
import Derived.Shelf.Strings.Repeat
import Derived.Lib.ItoaNum
import Derived.Test.YtdhmihfefgcbeaaGreatU05
import Derived.Test.YtdhmihfefgcbeaaGreatRows
import Derived.Test.YtdhmihfefgcbeaaGreatU07
import Derived.Test.YtdhmihfefgcbeaaGreatProg
set_option maxHeartbeats 8000000
namespace Go.Proofs.YtdhmihfefgcbeaaGreat
open Go.Vg
def tbl : List (Nat × Ty) := [
 (1, ⟨.f,1,[.nilfn]⟩),
 (2, ⟨.i .i64,1,[.int .i64 0]⟩),
 (3, ⟨.i .i64,1,[.int .i64 0]⟩),
 (4, ⟨.b,1,[.bool false]⟩),
 (5, ⟨.i .u8,1,[.int .u8 0]⟩),
 (6, ⟨.i .u8,1,[.int .u8 0]⟩),
 (7, ⟨.st [(0,1,false),(1,1,false),(2,1,false),(3,1,false)],4,[.int .i64 0,.int .i64 0,.bool false,.int .u8 0]⟩),
 (8, ⟨.st [(0,1,false),(1,1,false),(2,1,false),(3,1,false)],4,[.int .i64 0,.int .i64 0,.bool false,.int .u8 0]⟩),
 (9, ⟨.s,1,[.str ⟨#[]⟩]⟩),
 (10, ⟨.s,1,[.str ⟨#[]⟩]⟩),
 (11, ⟨.s,1,[.str ⟨#[]⟩]⟩),
 (12, ⟨.i .u64,1,[.int .u64 0]⟩),
 (13, ⟨.st [(0,1,false),(1,1,false)],2,[.str ⟨#[]⟩,.int .u64 0]⟩),
 (14, ⟨.st [(0,1,false),(1,1,false)],2,[.str ⟨#[]⟩,.int .u64 0]⟩),
 (15, ⟨.p,1,[.nilp]⟩),
 (16, ⟨.p,1,[.nilp]⟩),
 (17, ⟨.p,1,[.nilp]⟩),
 (18, ⟨.st [(0,1,false)],1,[.nilp]⟩),
 (19, ⟨.st [(0,1,false)],1,[.nilp]⟩),
 (21, ⟨.i .i32,1,[.int .i32 0]⟩),
 (22, ⟨.i .u64,1,[.int .u64 0]⟩),
 (23, ⟨.ar 9 22 1 false,9,List.replicate 9 (.int .u64 0)⟩),
 (24, ⟨.st [(0,9,true)],9,List.replicate 9 (.int .u64 0)⟩),
 (25, ⟨.st [(0,9,true)],9,List.replicate 9 (.int .u64 0)⟩),
 (26, ⟨.sl 58 1,1,[.nils]⟩),
 (27, ⟨.sl 58 1,1,[.nils]⟩),
 (28, ⟨.st [(0,1,false),(1,1,false),(2,1,false),(3,1,false),(4,1,false),(5,1,false),(6,1,false)],7,[.int .i64 0,.nils,.nils,.nils,.nils,.nils,.nils]⟩),
 (29, ⟨.st [(0,1,false),(1,1,false),(2,1,false),(3,1,false),(4,1,false),(5,1,false),(6,1,false)],7,[.int .i64 0,.nils,.nils,.nils,.nils,.nils,.nils]⟩),
 (31, ⟨.f,1,[.nilfn]⟩),
 (32, ⟨.i .i64,1,[.int .i64 0]⟩),
 (33, ⟨.f,1,[.nilfn]⟩),
 (34, ⟨.st [(0,9,true),(9,9,true),(18,1,false)],19,[.int .u64 0,.int .u64 0,.int .u64 0,.int .u64 0,.int .u64 0,.int .u64 0,.int .u64 0,.int .u64 0,.int .u64 0,.int .u64 0,.int .u64 0,.int .u64 0,.int .u64 0,.int .u64 0,.int .u64 0,.int .u64 0,.int .u64 0,.int .u64 0,.bool false]⟩),
 (35, ⟨.st [(0,9,true),(9,9,true),(18,1,false)],19,[.int .u64 0,.int .u64 0,.int .u64 0,.int .u64 0,.int .u64 0,.int .u64 0,.int .u64 0,.int .u64 0,.int .u64 0,.int .u64 0,.int .u64 0,.int .u64 0,.int .u64 0,.int .u64 0,.int .u64 0,.int .u64 0,.int .u64 0,.int .u64 0,.bool false]⟩),
 (37, ⟨.f,1,[.nilfn]⟩),
 (38, ⟨.f,1,[.nilfn]⟩),
 (39, ⟨.f,1,[.nilfn]⟩),
 (40, ⟨.f,1,[.nilfn]⟩),
 (41, ⟨.f,1,[.nilfn]⟩),
 (42, ⟨.f,1,[.nilfn]⟩),
 (43, ⟨.st [(0,1,false),(1,1,false),(2,1,false)],3,[.nils,.nils,.bool false]⟩),
 (44, ⟨.st [(0,1,false),(1,1,false),(2,1,false)],3,[.nils,.nils,.bool false]⟩),
 (45, ⟨.f,1,[.nilfn]⟩),
 (46, ⟨.f,1,[.nilfn]⟩),
 (47, ⟨.f,1,[.nilfn]⟩),
 (48, ⟨.p,1,[.nilp]⟩),
 (49, ⟨.p,1,[.nilp]⟩),
 (51, ⟨.f,1,[.nilfn]⟩),
 (52, ⟨.i .u64,1,[.int .u64 0]⟩),
 (54, ⟨.f,1,[.nilfn]⟩),
 (55, ⟨.f,1,[.nilfn]⟩),
 (56, ⟨.f,1,[.nilfn]⟩),
 (57, ⟨.f,1,[.nilfn]⟩),
 (58, ⟨.i .u32,1,[.int .u32 0]⟩),
 (59, ⟨.f,1,[.nilfn]⟩),
 (60, ⟨.f,1,[.nilfn]⟩),
 (61, ⟨.f,1,[.nilfn]⟩),
 (62, ⟨.sl 4 1,1,[.nils]⟩),
 (63, ⟨.f,1,[.nilfn]⟩),
 (64, ⟨.sl 3 1,1,[.nils]⟩),
 (66, ⟨.f,1,[.nilfn]⟩),
 (71, ⟨.f,1,[.nilfn]⟩),
 (72, ⟨.st [(0,1,false),(1,1,false),(2,1,false),(3,1,false)],4,[.int .i64 0,.str ⟨#[]⟩,.str ⟨#[]⟩,.int .i64 0]⟩),
 (73, ⟨.st [(0,1,false),(1,1,false),(2,1,false),(3,1,false)],4,[.int .i64 0,.str ⟨#[]⟩,.str ⟨#[]⟩,.int .i64 0]⟩),
 (74, ⟨.f,1,[.nilfn]⟩),
 (75, ⟨.f,1,[.nilfn]⟩),
 (76, ⟨.f,1,[.nilfn]⟩),
 (77, ⟨.f,1,[.nilfn]⟩),
 (78, ⟨.f,1,[.nilfn]⟩),
 (79, ⟨.sl 9 1,1,[.nils]⟩),
 (80, ⟨.f,1,[.nilfn]⟩),
 (81, ⟨.p,1,[.nilp]⟩),
 (82, ⟨.f,1,[.nilfn]⟩),
 (83, ⟨.f,1,[.nilfn]⟩),
 (84, ⟨.p,1,[.nilp]⟩),
 (85, ⟨.f,1,[.nilfn]⟩),
 (86, ⟨.f,1,[.nilfn]⟩),
 (87, ⟨.f,1,[.nilfn]⟩),
 (88, ⟨.f,1,[.nilfn]⟩),
 (89, ⟨.f,1,[.nilfn]⟩),
 (91, ⟨.f,1,[.nilfn]⟩),
 (93, ⟨.f,1,[.nilfn]⟩),
 (95, ⟨.f,1,[.nilfn]⟩),
 (96, ⟨.f,1,[.nilfn]⟩),
 (98, ⟨.f,1,[.nilfn]⟩),
 (99, ⟨.st [(0,1,false),(1,1,false),(2,1,false),(3,1,false)],4,[.int .i64 0,.str ⟨#[]⟩,.str ⟨#[]⟩,.int .i64 0]⟩),
 (100, ⟨.st [(0,1,false),(1,1,false),(2,1,false),(3,1,false)],4,[.int .i64 0,.str ⟨#[]⟩,.str ⟨#[]⟩,.int .i64 0]⟩),
 (101, ⟨.f,1,[.nilfn]⟩),
 (102, ⟨.f,1,[.nilfn]⟩),
 (103, ⟨.f,1,[.nilfn]⟩),
 (105, ⟨.f,1,[.nilfn]⟩),
 (106, ⟨.f,1,[.nilfn]⟩),
 (107, ⟨.p,1,[.nilp]⟩),
 (108, ⟨.f,1,[.nilfn]⟩),
 (109, ⟨.st [(0,1,false),(1,1,false),(2,1,false),(3,1,false),(4,1,false)],5,[.str ⟨#[]⟩,.str ⟨#[]⟩,.str ⟨#[]⟩,.str ⟨#[]⟩,.str ⟨#[]⟩]⟩),
 (110, ⟨.st [(0,1,false),(1,1,false),(2,1,false),(3,1,false),(4,1,false)],5,[.str ⟨#[]⟩,.str ⟨#[]⟩,.str ⟨#[]⟩,.str ⟨#[]⟩,.str ⟨#[]⟩]⟩),
 (111, ⟨.f,1,[.nilfn]⟩),
 (112, ⟨.st [(0,1,false),(1,9,true),(10,9,true),(19,9,true),(28,9,true),(37,19,true),(56,1,false),(57,1,false),(58,1,false)],59,[.int .i64 0,.int .u64 0,.int .u64 0,.int .u64 0,.int .u64 0,.int .u64 0,.int .u64 0,.int .u64 0,.int .u64 0,.int .u64 0,.int .u64 0,.int .u64 0,.int .u64 0,.int .u64 0,.int .u64 0,.int .u64 0,.int .u64 0,.int .u64 0,.int .u64 0,.int .u64 0,.int .u64 0,.int .u64 0,.int .u64 0,.int .u64 0,.int .u64 0,.int .u64 0,.int .u64 0,.int .u64 0,.int .u64 0,.int .u64 0,.int .u64 0,.int .u64 0,.int .u64 0,.int .u64 0,.int .u64 0,.int .u64 0,.int .u64 0,.int .u64 0,.int .u64 0,.int .u64 0,.int .u64 0,.int .u64 0,.int .u64 0,.int .u64 0,.int .u64 0,.int .u64 0,.int .u64 0,.int .u64 0,.int .u64 0,.int .u64 0,.int .u64 0,.int .u64 0,.int .u64 0,.int .u64 0,.int .u64 0,.bool false,.int .i64 0,.int .i64 0,.bool false]⟩),
 (113, ⟨.st [(0,1,false),(1,9,true),(10,9,true),(19,9,true),(28,9,true),(37,19,true),(56,1,false),(57,1,false),(58,1,false)],59,[.int .i64 0,.int .u64 0,.int .u64 0,.int .u64 0,.int .u64 0,.int .u64 0,.int .u64 0,.int .u64 0,.int .u64 0,.int .u64 0,.int .u64 0,.int .u64 0,.int .u64 0,.int .u64 0,.int .u64 0,.int .u64 0,.int .u64 0,.int .u64 0,.int .u64 0,.int .u64 0,.int .u64 0,.int .u64 0,.int .u64 0,.int .u64 0,.int .u64 0,.int .u64 0,.int .u64 0,.int .u64 0,.int .u64 0,.int .u64 0,.int .u64 0,.int .u64 0,.int .u64 0,.int .u64 0,.int .u64 0,.int .u64 0,.int .u64 0,.int .u64 0,.int .u64 0,.int .u64 0,.int .u64 0,.int .u64 0,.int .u64 0,.int .u64 0,.int .u64 0,.int .u64 0,.int .u64 0,.int .u64 0,.int .u64 0,.int .u64 0,.int .u64 0,.int .u64 0,.int .u64 0,.int .u64 0,.int .u64 0,.bool false,.int .i64 0,.int .i64 0,.bool false]⟩),
 (115, ⟨.st [(0,59,true),(59,1,false),(60,9,true)],69,[.int .i64 0,.int .u64 0,.int .u64 0,.int .u64 0,.int .u64 0,.int .u64 0,.int .u64 0,.int .u64 0,.int .u64 0,.int .u64 0,.int .u64 0,.int .u64 0,.int .u64 0,.int .u64 0,.int .u64 0,.int .u64 0,.int .u64 0,.int .u64 0,.int .u64 0,.int .u64 0,.int .u64 0,.int .u64 0,.int .u64 0,.int .u64 0,.int .u64 0,.int .u64 0,.int .u64 0,.int .u64 0,.int .u64 0,.int .u64 0,.int .u64 0,.int .u64 0,.int .u64 0,.int .u64 0,.int .u64 0,.int .u64 0,.int .u64 0,.int .u64 0,.int .u64 0,.int .u64 0,.int .u64 0,.int .u64 0,.int .u64 0,.int .u64 0,.int .u64 0,.int .u64 0,.int .u64 0,.int .u64 0,.int .u64 0,.int .u64 0,.int .u64 0,.int .u64 0,.int .u64 0,.int .u64 0,.int .u64 0,.bool false,.int .i64 0,.int .i64 0,.bool false,.nilp,.int .u64 0,.int .u64 0,.int .u64 0,.int .u64 0,.int .u64 0,.int .u64 0,.int .u64 0,.int .u64 0,.int .u64 0]⟩),
 (116, ⟨.p,1,[.nilp]⟩),
 (117, ⟨.st [(0,1,false)],1,[.nilp]⟩),
 (118, ⟨.st [(0,1,false)],1,[.nilp]⟩),
 (119, ⟨.st [(0,9,true),(9,1,true)],10,[.int .u64 0,.int .u64 0,.int .u64 0,.int .u64 0,.int .u64 0,.int .u64 0,.int .u64 0,.int .u64 0,.int .u64 0,.nilp]⟩),
 (120, ⟨.st [(0,9,true),(9,1,true)],10,[.int .u64 0,.int .u64 0,.int .u64 0,.int .u64 0,.int .u64 0,.int .u64 0,.int .u64 0,.int .u64 0,.int .u64 0,.nilp]⟩),
 (121, ⟨.f,1,[.nilfn]⟩),
 (123, ⟨.f,1,[.nilfn]⟩),
 (124, ⟨.f,1,[.nilfn]⟩),
 (125, ⟨.f,1,[.nilfn]⟩),
 (126, ⟨.f,1,[.nilfn]⟩),
 (127, ⟨.f,1,[.nilfn]⟩),
 (128, ⟨.f,1,[.nilfn]⟩),
 (129, ⟨.p,1,[.nilp]⟩),
 (130, ⟨.f,1,[.nilfn]⟩),
 (131, ⟨.f,1,[.nilfn]⟩),
 (133, ⟨.f,1,[.nilfn]⟩),
 (134, ⟨.f,1,[.nilfn]⟩),
 (135, ⟨.f,1,[.nilfn]⟩),
 (136, ⟨.f,1,[.nilfn]⟩),
 (137, ⟨.f,1,[.nilfn]⟩),
 (141, ⟨.f,1,[.nilfn]⟩),
 (142, ⟨.f,1,[.nilfn]⟩),
 (143, ⟨.sl 5 1,1,[.nils]⟩),
 (144, ⟨.f,1,[.nilfn]⟩),
 (145, ⟨.f,1,[.nilfn]⟩),
 (146, ⟨.f,1,[.nilfn]⟩),
 (147, ⟨.f,1,[.nilfn]⟩),
 (148, ⟨.f,1,[.nilfn]⟩),
 (150, ⟨.f,1,[.nilfn]⟩),
 (151, ⟨.f,1,[.nilfn]⟩),
 (152, ⟨.p,1,[.nilp]⟩),
 (153, ⟨.f,1,[.nilfn]⟩),
 (157, ⟨.st [(0,9,true),(9,9,true),(18,9,true)],27,List.replicate 27 (.int .u64 0)⟩),
 (158, ⟨.f,1,[.nilfn]⟩),
 (159, ⟨.f,1,[.nilfn]⟩),
 (160, ⟨.f,1,[.nilfn]⟩),
 (161, ⟨.f,1,[.nilfn]⟩),
 (162, ⟨.f,1,[.nilfn]⟩),
 (163, ⟨.sl 35 19,1,[.nils]⟩),
 (164, ⟨.st [(0,1,false)],1,[.nils]⟩),
 (165, ⟨.st [(0,1,false)],1,[.nils]⟩),
 (166, ⟨.st [(0,1,false),(1,1,false),(2,1,false)],3,[.int .i64 0,.int .i64 0,.int .i64 0]⟩),
 (167, ⟨.st [(0,1,false),(1,1,false),(2,1,false)],3,[.int .i64 0,.int .i64 0,.int .i64 0]⟩),
 (173, ⟨.p,1,[.nilp]⟩),
 (175, ⟨.st [(0,1,false),(1,1,false)],2,[.nilp,.nils]⟩),
 (176, ⟨.f,1,[.nilfn]⟩),
 (181, ⟨.f,1,[.nilfn]⟩),
 (182, ⟨.p,1,[.nilp]⟩),
 (185, ⟨.f,1,[.nilfn]⟩),
 (190, ⟨.sl 22 1,1,[.nils]⟩),
 (196, ⟨.f,1,[.nilfn]⟩),
 (202, ⟨.p,1,[.nilp]⟩),
 (203, ⟨.p,1,[.nilp]⟩),
 (208, ⟨.st [(0,1,false),(1,1,false),(2,1,false)],3,[.int .i64 0,.str ⟨#[]⟩,.nilp]⟩),
 (213, ⟨.f,1,[.nilfn]⟩),
 (215, ⟨.st [(0,9,true),(9,1,false),(10,1,false)],11,[.int .u64 0,.int .u64 0,.int .u64 0,.int .u64 0,.int .u64 0,.int .u64 0,.int .u64 0,.int .u64 0,.int .u64 0,.int .i64 0,.int .i64 0]⟩),
 (216, ⟨.sl 220 2,1,[.nils]⟩),
 (218, ⟨.st [(0,1,false)],1,[.nils]⟩),
 (220, ⟨.st [(0,1,false),(1,1,false)],2,[.int .i64 0,.int .i64 0]⟩),
 (224, ⟨.st [(0,1,false)],1,[.int .u64 0]⟩),
 (229, ⟨.f,1,[.nilfn]⟩),
 (230, ⟨.f,1,[.nilfn]⟩),
 (232, ⟨.st [(0,1,false),(1,1,false)],2,[.nilfn,.nilfn]⟩),
 (233, ⟨.p,1,[.nilp]⟩),
 (238, ⟨.f,1,[.nilfn]⟩),
 (239, ⟨.f,1,[.nilfn]⟩),
 (240, ⟨.p,1,[.nilp]⟩),
 (246, ⟨.ar 18 22 1 false,18,List.replicate 18 (.int .u64 0)⟩),
 (248, ⟨.st [(0,18,true)],18,List.replicate 18 (.int .u64 0)⟩),
 (255, ⟨.ar 8 58 1 false,8,[.int .u32 0,.int .u32 0,.int .u32 0,.int .u32 0,.int .u32 0,.int .u32 0,.int .u32 0,.int .u32 0]⟩),
 (258, ⟨.ar 64 58 1 false,64,List.replicate 64 (.int .u32 0)⟩),
 (261, ⟨.st [(0,1,false),(1,8,true),(9,64,true),(73,1,false),(74,1,false)],75,[.int .i64 0,.int .u32 0,.int .u32 0,.int .u32 0,.int .u32 0,.int .u32 0,.int .u32 0,.int .u32 0,.int .u32 0,.int .u32 0,.int .u32 0,.int .u32 0,.int .u32 0,.int .u32 0,.int .u32 0,.int .u32 0,.int .u32 0,.int .u32 0,.int .u32 0,.int .u32 0,.int .u32 0,.int .u32 0,.int .u32 0,.int .u32 0,.int .u32 0,.int .u32 0,.int .u32 0,.int .u32 0,.int .u32 0,.int .u32 0,.int .u32 0,.int .u32 0,.int .u32 0,.int .u32 0,.int .u32 0,.int .u32 0,.int .u32 0,.int .u32 0,.int .u32 0,.int .u32 0,.int .u32 0,.int .u32 0,.int .u32 0,.int .u32 0,.int .u32 0,.int .u32 0,.int .u32 0,.int .u32 0,.int .u32 0,.int .u32 0,.int .u32 0,.int .u32 0,.int .u32 0,.int .u32 0,.int .u32 0,.int .u32 0,.int .u32 0,.int .u32 0,.int .u32 0,.int .u32 0,.int .u32 0,.int .u32 0,.int .u32 0,.int .u32 0,.int .u32 0,.int .u32 0,.int .u32 0,.int .u32 0,.int .u32 0,.int .u32 0,.int .u32 0,.int .u32 0,.int .u32 0,.nils,.int .u64 0]⟩),
 (263, ⟨.f,1,[.nilfn]⟩),
 (271, ⟨.ar 19 22 1 false,19,List.replicate 19 (.int .u64 0)⟩)]
set_option maxRecDepth 100000 in
theorem tblOk0:TOk Tryz.prog (fun k=>ty tbl k):=TOk.of (by kernel_rfl)
def tyT(k:Nat):Option Ty:=ty tbl k
theorem tblOk:TOk Tryz.prog tyT:=tblOk0
theorem mixed:Tryz.prog.follows .mixedOrders=true:=by kernel_rfl
end Go.Proofs.YtdhmihfefgcbeaaGreat
namespace Go.Proofs.YtdhmihfefgcbeaaGreat
open Go.Vg
theorem cof {P : Program} (hP : P = Tryz.prog) {f : FuncId} {fn : Func} {c : Code} {rs : List ResultVar} {N n0 : Nat} {ms : List Nat} {args : List SV} {Lp : LL} {R : SV → LL → Nat → Prop} (hf : Tryz.prog.funcs[f]? = some fn) (hba : bdL (fun l => l < n0) args) (hbl : ∀ b ∈ Lp, bdL (fun l => l < n0) b.cs)
  (h : ∀ (A : Ar) (g : G) (K : SV → LL → Nat → Prop), A = Ar.real → GI g n0 ms N → (∀ v L n, R v L n → K v L n) → vcC tyT A P g n0 ms c (retQ tyT A rs K) (argF 0 args) Lp n0) (hb : fn.body = some c := by rfl) (hrs : fn.results.toList = rs := by rfl) (hcall : (fn.body.isNone || fn.name == "runtime.NumGoroutine") = false := by rfl) (hN : fn.ntmps = N := by rfl) (hd : dstsB N c = true := by decide) (hargs : Nat.ble args.length N = true := by rfl) (hlb : lblsB n0 Lp = true := by rfl) : Con P f args Lp n0 ms R :=
  Con.of (hP ▸ tblOk) (hP ▸ hf) hb hrs hcall hN hd hargs hlb hba hbl h
theorem rgM {P : Program} (hP : P = Tryz.prog) {A : Ar} {g : G} (hA : A = Ar.real) {n0 N : Nat} {ms : List Nat} (hg : GI g n0 ms N) {id : Nat} {ops : Array Oper} {K : FF → LL → Nat → Prop} {F : FF} {L : LL} {n : Nat}
  (h : ∀ m, maskL [] ops.toList = m → vcD tyT A P g n0 ms (fun _ _ => true) ops.toList m K ops.toList 0 F L [] n) (hB : drawB ops.toList = true := by rfl) (hd : (ops.toList.all fun o => dstLt N o.dst) = true := by rfl) : Reg g P id ops K F L n :=
  reg_M (hP ▸ tblOk) hA hg (hP ▸ mixed) hB hd h
end Go.Proofs.YtdhmihfefgcbeaaGreat

namespace Go.Proofs.YtdhmihfefgcbeaaGreat
open Go.Vg
set_option maxRecDepth 200000
set_option cbv.maxSteps 100000000
theorem xAdd64{P:Program}(hP:P=Tryz.prog)(x y c r s:Nat)(hc:c<=1)(hr:r=(x+y+c)%0x10000000000000000)(hs:s=(x+y+c)/0x10000000000000000):
 ExtF P 118 [.int .u64 (.ofNat x),.int .u64 (.ofNat y),.int .u64 (.ofNat c)] (.tup [.int .u64 (.ofNat r),.int .u64 (.ofNat s)]):=by
 subst hP
 refine⟨fun w=> ?_,⟨trivial,trivial,trivial,trivial⟩,⟨trivial,trivial,trivial⟩⟩
 show(callFunc 118 #[.int .u64 (x:Int),.int .u64 (y:Int),.int .u64 (c:Int)]).run Tryz.prog w=_
 rw[run_callFunc_extern Tryz.func118 (by kernel_rfl) (by kernel_rfl) (by kernel_rfl) (e:=add64Entry) (by kernel_rfl),run_add64 x y c (by omega) (by omega) (by omega) (by omega)]
 subst hr hs
 simp only[Result.andThen,den,denL]
 congr 5
theorem xSub64{P:Program}(hP:P=Tryz.prog)(x y c r s:Nat)(hc:c<=1)(hr:r=(x+0x10000000000000000-y-c)%0x10000000000000000)(hs:s=if x<y+c then 1 else 0):
 ExtF P 87 [.int .u64 (.ofNat x),.int .u64 (.ofNat y),.int .u64 (.ofNat c)] (.tup [.int .u64 (.ofNat r),.int .u64 (.ofNat s)]):=by
 subst hP
 refine⟨fun w=> ?_,⟨trivial,trivial,trivial,trivial⟩,⟨trivial,trivial,trivial⟩⟩
 show(callFunc 87 #[.int .u64 (x:Int),.int .u64 (y:Int),.int .u64 (c:Int)]).run Tryz.prog w=_
 rw[run_callFunc_extern Tryz.func87 (by kernel_rfl) (by kernel_rfl) (by kernel_rfl) (e:=sub64Entry) (by kernel_rfl),run_sub64 x y c hc]
 subst hr hs
 rfl
theorem lst_bdL{p:Nat->Prop}{K:IntKind}{f:Nat->Int}:∀ {s:Nat} (n:Nat),bdL p (lst K f s n)
 |_,0=>trivial
 |_,n+1=>⟨trivial,lst_bdL n⟩
theorem nsn(f:Nat->Nat)(n:Nat):V (n+1) f=V n f+f n*0x10000000000000000^n:=rfl
theorem V_upd{r:Nat->Nat}{i v:Nat}:V (i+1) (fun j=>if j=i then v else r j)=V i r+v*0x10000000000000000^i:=by
 rw[nsn]
 simp only[V]
 rw[Dg.num_set _ (Nat.le_refl i)]
 simp
theorem add_word{R C A B P x y c r s:Nat}(h:R+c*P=A+B)(hr:r=(x+y+c)%0x10000000000000000)(hs:s=(x+y+c)/0x10000000000000000)(hP:C=P*0x10000000000000000):R+r*P+s*C=(A+x*P)+(B+y*P):=by
 have e:=Nat.div_add_mod (x+y+c) 0x10000000000000000
 rw[<-hs,<-hr]at e
 subst hP
 have h2:R+r*P+s*(P*0x10000000000000000)=R+(0x10000000000000000*s+r)*P:=by grind
 rw[h2,e]
 grind
theorem sub_word{R C A B P x y c r s:Nat}(h:R+B=A+c*P)(hx:x<0x10000000000000000)(hy:y<0x10000000000000000)(hc:c<=1)(hr:r=(x+0x10000000000000000-y-c)%0x10000000000000000)(hs:s=if x<y+c then 1 else 0)(hP:C=P*0x10000000000000000):
 R+r*P+(B+y*P)=(A+x*P)+s*C:=by
 have e:r+y+c=x+s*0x10000000000000000:=by
  subst hs
  split<;>omega
 subst hP
 have h2:R+r*P+(B+y*P)+c*P=R+B+(r+y+c)*P:=by grind
 have h3:R+r*P+(B+y*P)+c*P=A+x*P+s*(P*0x10000000000000000)+c*P:=by
  rw[h2,e,h];grind
 omega
theorem cAdd{P:Program}(hP:P=Tryz.prog)(a b r:Nat->Nat)(ha:Wn 9 a)(hb:Wn 9 b)(hr:Wn 9 r)(o:Bool)(hVr:V 9 r=(V 9 a+V 9 b)%0x10000000000000000^9)(ho:o=decide (0x10000000000000000^9<=V 9 a+V 9 b)):
 Con P 90 [.agg (ws a 9),.agg (ws b 9)] [] 0 [] (fun v _ _=>v= .tup [.agg (ws r 9),.bool o]):=by
 refine cof hP Tryz.func90 ⟨lst_bdL _,lst_bdL _,trivial⟩ (by simp) ?_
 intro A g K hA hg hK
 obtain⟨bin,_,cmp,_,_,ix,_,_,_,_,_,_,_,_,_,off⟩:=A
 have f1:∀i,i<9->cmp .lss (.ofNat i) 9=true:=fun i h=>(lssI hA i 9).trans (decide_eq_true h)
 have f2:∀i,i<9->ix (.ofNat i) 9=some i:=fun i h=>ix_of hA h
 have f3:∀i,off 0 i 1=i:=fun i=>(off_of hA 0 i 1).trans (by omega)
 have f4:=fun(f:Nat->Nat) (k:Nat) (h:k<9)=>getW hA .u64 (n:=9) f h
 have f5:=fun(f g:Nat->Nat) (k v:Nat) (h:k<9) (e:g=fun j=>if j=k then v else f j)=>splW hA .u64 (n:=9) f g h e
 have f6:∀i,i<9->bin .add .i64 (.ofNat i) 1=Int.ofNat (i+1):=fun i h=>add_of hA (by omega)
 simp only[lst,Nat.reduceAdd]at f4 f5
 cbv
 refine lpb (Nat×(Nat->Nat)×Nat) (fun s=>s.1<=9/\s.2.2<=1/\Wn s.1 s.2.1/\(∀j,s.1<=j->s.2.1 j=a j)/\V s.1 s.2.1+s.2.2*0x10000000000000000^s.1=V s.1 a+V s.1 b) (fun s=>9-s.1)
  (fun s=> [(8,.int .i64 (.ofNat s.1)),(6,.int .u64 (.ofNat s.2.2))]) [2,3,4,5] (fun s=> [(0,ws s.2.1 9)]) (0,a,0) ⟨Nat.zero_le _,Nat.zero_le _,fun j h=>absurd h (Nat.not_lt_zero j),fun _ _=>rfl,rfl⟩ ?_ ?_
 ·exact wkid
 rintro⟨i,q,c⟩ ⟨hi,hc,hw,hq,hv⟩
 have hi:i<=9:=hi
 have hc:c<=1:=hc
 have hw:Wn i q:=hw
 have hq:∀j,i<=j->q j=a j:=hq
 cbv
 by_cases hlt:i<9
 ·obtain⟨w,hwd⟩:=exq ((q i+b i+c)%0x10000000000000000)
  obtain⟨s,hsd⟩:=exq ((q i+b i+c)/0x10000000000000000)
  obtain⟨q',hq'⟩:=exq (fun j=>if j=i then w else q j:Nat->Nat)
  rw[f1 i hlt]
  cbv
  refine rgM hP hA hg fun mk _=> ?_
  cbv
  rw[f2 i hlt]
  cbv
  rw[f3 i,f4 q i hlt]
  cbv
  rw[f2 i hlt]
  cbv
  rw[f3 i,f4 b i hlt]
  cbv
  refine stepD (en_ext rfl hg rfl rfl (xAdd64 hP (q i) (b i) c w s hc hwd hsd)) ?_
  cbv
  rw[f2 i hlt]
  cbv
  rw[f3 i,f5 q q' i w hlt hq']
  cbv
  rw[f6 i hlt]
  refine⟨(i+1,q',s),id,⟨hlt,?_,?_,?_,?_⟩,(by show 9-(i+1)<9-i;omega),?_⟩
  ·have h1:=ha i hlt
   have h2:=hb i hlt
   rw[hq i (Nat.le_refl i)]at hsd
   show s<=1
   rw[hsd];omega
  ·intro j hj
   show q' j<_
   rw[hq']
   by_cases hji:j=i
   ·simp only[hji,if_pos];rw[hwd];exact Nat.mod_lt _ (by decide)
   ·simp only[if_neg hji];exact hw j (by have:j<i+1:=hj;omega)
  ·intro j hj
   have hj:i+1<=j:=hj
   show q' j=a j
   rw[hq']
   simp only[if_neg (show j≠i by omega)]
   exact hq j (by omega)
  ·show V (i+1) q'+s*0x10000000000000000^(i+1)=V (i+1) a+V (i+1) b
   rw[hq',V_upd,nsn a,nsn b]
   rw[hq i (Nat.le_refl i)]at hwd hsd
   exact add_word hv hwd hsd (Nat.pow_succ ..)
  ·exact wkid
 ·obtain rfl:i=9:=by omega
  have f7:cmp .lss (.ofNat 9) 9=false:=(lssI hA 9 9).trans (by decide)
  have f8:cmp .eql (.ofNat c) 1=decide (c=1):=eqlI hA c 1
  obtain⟨o',ho'⟩:=exq (decide (c=1))
  rw[<-ho']at f8
  rw[f7]
  cbv
  rw[f8]
  have hv:V 9 q+c*0x10000000000000000^9=V 9 a+V 9 b:=hv
  have e1:V 9 q=V 9 r:=by
   have h1:=V_lt hw
   have h2:=V_lt ha
   have h3:=V_lt hb
   rw[hVr]
   generalize 0x10000000000000000^9=M at *
   rcases(show c=0\/c=1 by omega)with rfl|rfl
   ·rw[Nat.mod_eq_of_lt (by omega)];omega
   ·rw[show V 9 a+V 9 b=V 9 q+M by omega,Nat.add_mod_right,Nat.mod_eq_of_lt h1]
  have e2:o'=o:=by
   have h1:=V_lt hw
   have h2:=V_lt ha
   have h3:=V_lt hb
   rw[ho,ho']
   generalize 0x10000000000000000^9=M at *
   refine decide_eq_decide.2 ?_
   rcases(show c=0\/c=1 by omega)with rfl|rfl
   ·constructor<;>intro h<;>omega
   ·constructor<;>intro h<;>omega
  have e3:=V_inj hw hr e1 (k:= .u64)
  simp only[lst,Nat.reduceAdd]at e3
  refine hK _ _ _ ?_
  rw[e3,e2]
  rfl
theorem cSub{P:Program}(hP:P=Tryz.prog)(a b r:Nat->Nat)(ha:Wn 9 a)(hb:Wn 9 b)(hr:Wn 9 r)(o:Bool)(hVr:V 9 r=(V 9 a+0x10000000000000000^9-V 9 b)%0x10000000000000000^9)(ho:o=decide (V 9 a<V 9 b)):
 Con P 60 [.agg (ws a 9),.agg (ws b 9)] [] 0 [] (fun v _ _=>v= .tup [.agg (ws r 9),.bool o]):=by
 refine cof hP Tryz.func60 ⟨lst_bdL _,lst_bdL _,trivial⟩ (by simp) ?_
 intro A g K hA hg hK
 obtain⟨bin,_,cmp,_,_,ix,_,_,_,_,_,_,_,_,_,off⟩:=A
 have f1:∀i,i<9->cmp .lss (.ofNat i) 9=true:=fun i h=>(lssI hA i 9).trans (decide_eq_true h)
 have f2:∀i,i<9->ix (.ofNat i) 9=some i:=fun i h=>ix_of hA h
 have f3:∀i,off 0 i 1=i:=fun i=>(off_of hA 0 i 1).trans (by omega)
 have f4:=fun(f:Nat->Nat) (k:Nat) (h:k<9)=>getW hA .u64 (n:=9) f h
 have f5:=fun(f g:Nat->Nat) (k v:Nat) (h:k<9) (e:g=fun j=>if j=k then v else f j)=>splW hA .u64 (n:=9) f g h e
 have f6:∀i,i<9->bin .add .i64 (.ofNat i) 1=Int.ofNat (i+1):=fun i h=>add_of hA (by omega)
 simp only[lst,Nat.reduceAdd]at f4 f5
 cbv
 refine lpb (Nat×(Nat->Nat)×Nat) (fun s=>s.1<=9/\s.2.2<=1/\Wn s.1 s.2.1/\(∀j,s.1<=j->s.2.1 j=a j)/\V s.1 s.2.1+V s.1 b=V s.1 a+s.2.2*0x10000000000000000^s.1) (fun s=>9-s.1)
  (fun s=> [(8,.int .i64 (.ofNat s.1)),(6,.int .u64 (.ofNat s.2.2))]) [2,3,4,5] (fun s=> [(0,ws s.2.1 9)]) (0,a,0) ⟨Nat.zero_le _,Nat.zero_le _,fun j h=>absurd h (Nat.not_lt_zero j),fun _ _=>rfl,rfl⟩ ?_ ?_
 ·exact wkid
 rintro⟨i,q,c⟩ ⟨hi,hc,hw,hq,hv⟩
 have hi:i<=9:=hi
 have hc:c<=1:=hc
 have hw:Wn i q:=hw
 have hq:∀j,i<=j->q j=a j:=hq
 cbv
 by_cases hlt:i<9
 ·obtain⟨w,hwd⟩:=exq ((q i+0x10000000000000000-b i-c)%0x10000000000000000)
  obtain⟨s,hsd⟩:=exq (if q i<b i+c then 1 else 0)
  obtain⟨q',hq'⟩:=exq (fun j=>if j=i then w else q j:Nat->Nat)
  rw[f1 i hlt]
  cbv
  refine rgM hP hA hg fun mk _=> ?_
  cbv
  rw[f2 i hlt]
  cbv
  rw[f3 i,f4 q i hlt]
  cbv
  rw[f2 i hlt]
  cbv
  rw[f3 i,f4 b i hlt]
  cbv
  refine stepD (en_ext rfl hg rfl rfl (xSub64 hP (q i) (b i) c w s hc hwd hsd)) ?_
  cbv
  rw[f2 i hlt]
  cbv
  rw[f3 i,f5 q q' i w hlt hq']
  cbv
  rw[f6 i hlt]
  refine⟨(i+1,q',s),id,⟨hlt,?_,?_,?_,?_⟩,(by show 9-(i+1)<9-i;omega),?_⟩
  ·have h1:=ha i hlt
   have h2:=hb i hlt
   rw[hq i (Nat.le_refl i)]at hsd
   show s<=1
   rw[hsd];split<;>omega
  ·intro j hj
   show q' j<_
   rw[hq']
   by_cases hji:j=i
   ·simp only[hji,if_pos];rw[hwd];exact Nat.mod_lt _ (by decide)
   ·simp only[if_neg hji];exact hw j (by have:j<i+1:=hj;omega)
  ·intro j hj
   have hj:i+1<=j:=hj
   show q' j=a j
   rw[hq']
   simp only[if_neg (show j≠i by omega)]
   exact hq j (by omega)
  ·show V (i+1) q'+V (i+1) b=V (i+1) a+s*0x10000000000000000^(i+1)
   rw[hq',V_upd,nsn a,nsn b]
   rw[hq i (Nat.le_refl i)]at hwd hsd
   exact sub_word hv (ha i hlt) (hb i hlt) hc hwd hsd (Nat.pow_succ ..)
  ·exact wkid
 ·obtain rfl:i=9:=by omega
  have f7:cmp .lss (.ofNat 9) 9=false:=(lssI hA 9 9).trans (by decide)
  have f8:cmp .eql (.ofNat c) 1=decide (c=1):=eqlI hA c 1
  obtain⟨o',ho'⟩:=exq (decide (c=1))
  rw[<-ho']at f8
  rw[f7]
  cbv
  rw[f8]
  have hv:V 9 q+V 9 b=V 9 a+c*0x10000000000000000^9:=hv
  have e1:V 9 q=V 9 r:=by
   have h1:=V_lt hw
   have h2:=V_lt ha
   have h3:=V_lt hb
   rw[hVr]
   generalize 0x10000000000000000^9=M at *
   rcases(show c=0\/c=1 by omega)with rfl|rfl
   ·rw[show V 9 a+M-V 9 b=V 9 q+M by omega,Nat.add_mod_right,Nat.mod_eq_of_lt h1]
   ·rw[Nat.mod_eq_of_lt (by omega)];omega
  have e2:o'=o:=by
   have h1:=V_lt hw
   have h2:=V_lt ha
   have h3:=V_lt hb
   rw[ho,ho']
   generalize 0x10000000000000000^9=M at *
   refine decide_eq_decide.2 ?_
   rcases(show c=0\/c=1 by omega)with rfl|rfl
   ·constructor<;>intro h<;>omega
   ·constructor<;>intro h<;>omega
  have e3:=V_inj hw hr e1 (k:= .u64)
  simp only[lst,Nat.reduceAdd]at e3
  refine hK _ _ _ ?_
  rw[e3,e2]
  rfl
end Go.Proofs.YtdhmihfefgcbeaaGreat
namespace Go.Proofs
open Go.Shelf
def Tryz.lays134_ren:Go.Shelf.Ren:=⟨fun|134=>142|129=>89|n=>n,fun|53=>22|3=>3|4=>4|46=>52|5=>5|9=>9|n=>n,fun|n=>n⟩
theorem Tryz.lays134:Go.Proofs.Lays.n134 Tryz.prog Tryz.lays134_ren:= {
 mixed:=by kernel_rfl
 f129:=Tryz.func89.trans (congrArg some (by kernel_rfl))
 f134:=Tryz.func142.trans (congrArg some (by kernel_rfl))
 t3:=Tryz.underlying3
 a3:=Tryz.isAgg3
 z3:=Tryz.sizeOf3
 v3:=Tryz.zeroValue3
 t4:=Tryz.underlying4
 a4:=Tryz.isAgg4
 z4:=Tryz.sizeOf4
 v4:=Tryz.zeroValue4
 t5:=Tryz.underlying5
 a5:=Tryz.isAgg5
 z5:=Tryz.sizeOf5
 v5:=Tryz.zeroValue5
 t9:=Tryz.underlying9
 a9:=Tryz.isAgg9
 z9:=Tryz.sizeOf9
 v9:=Tryz.zeroValue9
 t46:=Tryz.underlying52
 a46:=Tryz.isAgg52
 z46:=Tryz.sizeOf52
 v46:=Tryz.zeroValue52
 t53:=Tryz.underlying22
 a53:=Tryz.isAgg22
 z53:=Tryz.sizeOf22
 v53:=Tryz.zeroValue22}
theorem Tryz.bits_LeadingZeros64(x:Int)(w:World)(h0:0<=x)(h1:x<=0xffffffffffffffff):
 Calls Tryz.prog 142 #[.int .u64 x] w fun e w'=>e= .returned (.int .i64 (64-(Lib.bitLen x.toNat:Int)))/\w'=w:=Any.bits_LeadingZeros64 Tryz.lays134 x w h0 h1
def Tryz.lays129_ren:Go.Shelf.Ren:=⟨fun|129=>89|n=>n,fun|53=>22|3=>3|4=>4|46=>52|5=>5|9=>9|n=>n,fun|n=>n⟩
theorem Tryz.lays129:Go.Proofs.Lays.n129 Tryz.prog Tryz.lays129_ren:= {
 mixed:=by kernel_rfl
 f129:=Tryz.func89.trans (congrArg some (by kernel_rfl))
 t3:=Tryz.underlying3
 a3:=Tryz.isAgg3
 z3:=Tryz.sizeOf3
 v3:=Tryz.zeroValue3
 t4:=Tryz.underlying4
 a4:=Tryz.isAgg4
 z4:=Tryz.sizeOf4
 v4:=Tryz.zeroValue4
 t5:=Tryz.underlying5
 a5:=Tryz.isAgg5
 z5:=Tryz.sizeOf5
 v5:=Tryz.zeroValue5
 t9:=Tryz.underlying9
 a9:=Tryz.isAgg9
 z9:=Tryz.sizeOf9
 v9:=Tryz.zeroValue9
 t46:=Tryz.underlying52
 a46:=Tryz.isAgg52
 z46:=Tryz.sizeOf52
 v46:=Tryz.zeroValue52
 t53:=Tryz.underlying22
 a53:=Tryz.isAgg22
 z53:=Tryz.sizeOf22
 v53:=Tryz.zeroValue22}
theorem Tryz.bits_Len64(x:Int)(w:World)(h0:0<=x)(h1:x<=0xffffffffffffffff):
 Calls Tryz.prog 89 #[.int .u64 x] w fun e w'=>e= .returned (.int .i64 (Lib.bitLen x.toNat))/\w'=w:=Any.bits_Len64 Tryz.lays129 x w h0 h1
def Tryz.lays264_ren:Go.Shelf.Ren:=⟨fun|264=>127|n=>n,fun|53=>22|46=>52|n=>n,fun|n=>n⟩
theorem Tryz.lays264:Go.Proofs.Lays.n264 Tryz.prog Tryz.lays264_ren:= {
 mixed:=by kernel_rfl
 f264:=Tryz.func127.trans (congrArg some (by kernel_rfl))
 t46:=Tryz.underlying52
 a46:=Tryz.isAgg52
 z46:=Tryz.sizeOf52
 v46:=Tryz.zeroValue52
 t53:=Tryz.underlying22
 a53:=Tryz.isAgg22
 z53:=Tryz.sizeOf22
 v53:=Tryz.zeroValue22}
open Go.RowKit Go.Lib in
theorem Tryz.bits_Mul64(x y:Nat)(hx:x<0x10000000000000000)(hy:y<0x10000000000000000)(w:World):
 Calls Tryz.prog 127 #[.int .u64 x,.int .u64 y] w fun e w'=>e= .returned (.tuple #[.int .u64 ((x*y/0x10000000000000000:Nat):Int),.int .u64 ((x*y%0x10000000000000000:Nat):Int)])/\w'=w:=Any.bits_Mul64 Tryz.lays264 x y hx hy w
def Tryz.lays105_ren:Go.Shelf.Ren:=⟨fun|105=>73|212=>99|99=>100|165=>101|166=>102|170=>103|169=>104|263=>126|264=>127|206=>128|240=>129|241=>130|276=>148|277=>149|n=>n,fun|9=>9|3=>3|4=>4|20=>20|0=>0|46=>52|109=>170|5=>5|72=>175|76=>179|51=>58|146=>199|53=>22|148=>149|70=>173|37=>143|75=>178|127=>202|164=>226|80=>181|n=>n,fun|n=>n⟩
theorem Tryz.lays105:Go.Proofs.Lays.n105 Tryz.prog Tryz.lays105_ren:= {
 mixed:=by kernel_rfl
 f99:=Tryz.func100.trans (congrArg some (by kernel_rfl))
 f105:=Tryz.func73.trans (congrArg some (by kernel_rfl))
 f165:=Tryz.func101.trans (congrArg some (by kernel_rfl))
 f166:=Tryz.func102.trans (congrArg some (by kernel_rfl))
 f169:=Tryz.func104.trans (congrArg some (by kernel_rfl))
 f170:=Tryz.func103.trans (congrArg some (by kernel_rfl))
 f206:=Tryz.func128.trans (congrArg some (by kernel_rfl))
 f212:=Tryz.func99.trans (congrArg some (by kernel_rfl))
 f240:=Tryz.func129.trans (congrArg some (by kernel_rfl))
 f241:=Tryz.func130.trans (congrArg some (by kernel_rfl))
 f263:=Tryz.func126.trans (congrArg some (by kernel_rfl))
 f264:=Tryz.func127.trans (congrArg some (by kernel_rfl))
 f276:=Tryz.func148.trans (congrArg some (by kernel_rfl))
 f277:=Tryz.func149.trans (congrArg some (by kernel_rfl))
 t0:=Tryz.underlying0
 a0:=Tryz.isAgg0
 z0:=Tryz.sizeOf0
 v0:=Tryz.zeroValue0
 t3:=Tryz.underlying3
 a3:=Tryz.isAgg3
 z3:=Tryz.sizeOf3
 v3:=Tryz.zeroValue3
 t4:=Tryz.underlying4
 a4:=Tryz.isAgg4
 z4:=Tryz.sizeOf4
 v4:=Tryz.zeroValue4
 t5:=Tryz.underlying5
 a5:=Tryz.isAgg5
 z5:=Tryz.sizeOf5
 v5:=Tryz.zeroValue5
 t9:=Tryz.underlying9
 a9:=Tryz.isAgg9
 z9:=Tryz.sizeOf9
 v9:=Tryz.zeroValue9
 t20:=Tryz.underlying20
 a20:=Tryz.isAgg20
 z20:=Tryz.sizeOf20
 v20:=Tryz.zeroValue20
 t37:=Tryz.underlying143
 a37:=Tryz.isAgg143
 z37:=Tryz.sizeOf143
 v37:=Tryz.zeroValue143
 t46:=Tryz.underlying52
 a46:=Tryz.isAgg52
 z46:=Tryz.sizeOf52
 v46:=Tryz.zeroValue52
 t51:=Tryz.underlying58
 a51:=Tryz.isAgg58
 z51:=Tryz.sizeOf58
 v51:=Tryz.zeroValue58
 t53:=Tryz.underlying22
 a53:=Tryz.isAgg22
 z53:=Tryz.sizeOf22
 v53:=Tryz.zeroValue22
 t70:=Tryz.underlying173
 a70:=Tryz.isAgg173
 z70:=Tryz.sizeOf173
 v70:=Tryz.zeroValue173
 t72:=Tryz.underlying175
 a72:=Tryz.isAgg175
 z72:=Tryz.sizeOf175
 v72:=Tryz.zeroValue175
 t75:=Tryz.underlying178
 a75:=Tryz.isAgg178
 z75:=Tryz.sizeOf178
 v75:=Tryz.zeroValue178
 t76:=Tryz.underlying179
 a76:=Tryz.isAgg179
 z76:=Tryz.sizeOf179
 v76:=Tryz.zeroValue179
 t109:=Tryz.underlying170
 a109:=Tryz.isAgg170
 z109:=Tryz.sizeOf170
 v109:=Tryz.zeroValue170
 t127:=Tryz.underlying202
 a127:=Tryz.isAgg202
 z127:=Tryz.sizeOf202
 v127:=Tryz.zeroValue202
 t146:=Tryz.underlying199
 a146:=Tryz.isAgg199
 z146:=Tryz.sizeOf199
 v146:=Tryz.zeroValue199
 t148:=Tryz.underlying149
 a148:=Tryz.isAgg149
 z148:=Tryz.sizeOf149
 v148:=Tryz.zeroValue149
 t164:=Tryz.underlying226
 a164:=Tryz.isAgg226
 z164:=Tryz.sizeOf226
 v164:=Tryz.zeroValue226}
theorem Tryz.Builder_Extra_105:Builder.Extra Tryz.prog Tryz.lays105_ren:= {
 sizeBuilder:=by kernel_rfl
 liesBuilder:=by kernel_rfl
 t5:=Tryz.underlying5
 a5:=Tryz.isAgg5
 z5:=Tryz.sizeOf5
 v5:=Tryz.zeroValue5
 infoByte:=by kernel_rfl
 cellsByte:=by kernel_rfl
 sizeByte:=by kernel_rfl
 neB5:=by decide}
open Go.RowKit Go.Lib in
theorem Tryz.strings_Repeat(s:ByteArray)(c:Nat)(w:World)(hc:c<=9223372036854775807)(hlen:s.size*c<=140737488355328):
 Calls Tryz.prog 73 #[.string s,.int .i64 c] w fun e w'=>e= .returned (.string ⟨(Lib.repeatL s.data.toList c).toArray⟩)/\Below w.heap.size w w':=Any.strings_Repeat Tryz.lays105 Tryz.Builder_Extra_105 s c w hc hlen
end Go.Proofs
namespace Go.Proofs.YtdhmihfefgcbeaaGreat
open Go.Vg Go.RowKit
set_option maxRecDepth 200000
set_option cbv.maxSteps 100000000
theorem cUsed{P:Program}(hP:P=Tryz.prog)(a:Nat->Nat)(u:Nat)(hu:Used 9 a u):
 Con P 88 [.ptr 0 0] [⟨0,ws a 9,25⟩] 1 [] (fun v _ _=>v= .int .i64 (.ofNat u)):=by
 refine cof hP Tryz.func88 (bdb _ rfl) (bkb rfl) ?_
 intro A g K hA hg hK
 obtain⟨bin,_,cmp,_,_,ix,_,_,_,_,_,_,_,_,_,off,_,_,sub⟩:=A
 have f0:∀i,cmp .gtr (.ofNat i) 0=decide (0<i):=fun i=>gtrI hA i 0
 have f1:∀i,i<9->bin .sub .i64 (.ofNat (i+1)) 1=Int.ofNat i:=fun i h=>(subI hA (a:=i+1) (b:=1) (by omega) (by omega)).trans (by simp)
 have f2:∀i,i<9->ix (.ofNat i) 9=some i:=fun i h=>ix_of hA h
 have f3:∀i,off 0 i 1=i:=fun i=>(off_of hA 0 i 1).trans (by omega)
 have f4:=fun(f:Nat->Nat) (k:Nat) (h:k<9)=>getW hA .u64 (n:=9) f h
 have f5:∀i,cmp .eql (.ofNat i) 0=decide (i=0):=fun i=>eqlI hA i 0
 simp only[lst,Nat.reduceAdd]at f4
 cbv
 refine lpb Nat (fun i=>i<=9/\u<=i) (fun i=>i) (fun i=> [(3,.int .i64 (.ofNat i))]) [0] (fun i=> []) 9 ⟨Nat.le_refl _,hu.1⟩ ?_ ?_
 ·exact wkid
 rintro i ⟨hi,hui⟩
 cbv
 cases i with
 |zero=>
  have e0:cmp .gtr (.ofNat 0) 0=false:=f0 0
  rw[e0]
  cbv
  exact hK _ _ _ (by rw[show u=0 by omega];rfl)
 |succ i=>
  have e0:cmp .gtr (.ofNat (i+1)) 0=true:=(f0 (i+1)).trans (by simp)
  have e1:=f1 i (by omega)
  obtain⟨i1,hi1⟩:=exq (i+1)
  rw[<-hi1]at e0 e1⊢
  rw[e0]
  cbv
  rw[e1]
  rw[f2 i (by omega)]
  cbv
  rw[f3 i,f4 a i (by omega)]
  cbv
  rw[f5 (a i)]
  by_cases hz:a i=0
  ·rw[decide_eq_true hz]
   cbv
   rw[e1]
   refine⟨i,id,⟨by omega,?_⟩,(by show i<i1;omega),?_⟩
   ·by_cases h:u=i1
    ·exact absurd (by rw[show u-1=i by omega];exact hz) (hu.2.2 (by omega))
    ·show u<=i
     omega
   ·exact wkid
  ·rw[decide_eq_false hz]
   cbv
   refine hK _ _ _ ?_
   have:u=i1:=by
    by_cases h:u=i1
    ·exact h
    ·exact absurd (hu.2.1 i (by omega) (by omega)) hz
   rw[this]
   rfl
theorem cSmall{P:Program}(hP:P=Tryz.prog)(x:Nat)(hx:x<2^63)(r:Nat->Nat)(hr:r=fun j=>if j=0 then x else 0):
 Con P 61 [.int .i64 (.ofNat x)] [] 0 [] (fun v _ _=>v= .agg (ws r 9)):=by
 refine cof hP Tryz.func61 (bdb _ rfl) (bkb rfl) ?_
 intro A g K hA hg hK
 obtain⟨_,_,_,_,cvt⟩:=A
 have f1:cvt .u64 (.ofNat x)=Int.ofNat x:=cvtI hA (fun h=>by cases h) (fun _=>by show x<0x10000000000000000;omega)
 cbv
 refine step_max hg rfl rfl (r:=Int.ofNat x) rfl rfl (by split<;>simp_all<;>omega) ?_
 cbv
 rw[f1]
 refine hK _ _ _ ?_
 subst hr
 rfl
theorem bl_of{x:Nat}(h:x<0x10000000000000000):IsBl x (Lib.bitLen x):=by
 by_cases h0:x=0
 ·subst h0
  exact⟨by decide,fun h=>absurd h (by decide)⟩
 ·obtain⟨_,h2,h3⟩:=Lib.bitLenAux_bounds 64 x h h0
  exact⟨h3,fun _=>h2⟩
theorem cLen64{P:Program}(hP:P=Tryz.prog)(x k:Nat)(hx:x<0x10000000000000000)(hk:IsBl x k):
 Con P 89 [.int .u64 (.ofNat x)] [] 0 [] (fun v _ _=>v= .int .i64 (.ofNat k)):=by
 subst hP
 refine Con.from_calls (Callable.of Tryz.func89 rfl) (fun W=>(Tryz.bits_Len64 (x:Int) W (by omega) (by omega)).mono ?_) ⟨trivial,trivial⟩ trivial
 rintro e W' ⟨rfl,rfl⟩
 refine⟨?_,Below.refl _ _⟩
 rw[hk.uniq (bl_of hx)]
 rfl
theorem cLz64{P:Program}(hP:P=Tryz.prog)(x k:Nat)(hx:x<0x10000000000000000)(hk:IsBl x k):
 Con P 142 [.int .u64 (.ofNat x)] [] 0 [] (fun v _ _=>v= .int .i64 (.ofNat (64-k))):=by
 subst hP
 refine Con.from_calls (Callable.of Tryz.func142 rfl) (fun W=>(Tryz.bits_LeadingZeros64 (x:Int) W (by omega) (by omega)).mono ?_) ⟨trivial,trivial⟩ trivial
 rintro e W' ⟨rfl,rfl⟩
 refine⟨?_,Below.refl _ _⟩
 have h1:=bl_of hx
 rw[hk.uniq h1]
 have h2:Lib.bitLen x<=64:=Nat.le_of_not_lt fun h3=>by
  have h4:=h1.2 (by omega)
  have h5:=Nat.pow_le_pow_right (show 0<2 by decide) (show 64<=Lib.bitLen x-1 by omega)
  omega
 simp only[den,Int.toNat_natCast]
 congr 2
 show(64:Int)-(Lib.bitLen x:Int)=((64-Lib.bitLen x:Nat):Int)
 omega
theorem cMul64{P:Program}(hP:P=Tryz.prog)(x y h l:Nat)(hx:x<0x10000000000000000)(hy:y<0x10000000000000000)(hh:h=x*y/0x10000000000000000)(hl:l=x*y%0x10000000000000000):
 Con P 127 [.int .u64 (.ofNat x),.int .u64 (.ofNat y)] [] 0 [] (fun v _ _=>v= .tup [.int .u64 (.ofNat h),.int .u64 (.ofNat l)]):=by
 subst hP
 refine Con.from_calls (Callable.of Tryz.func127 rfl) (fun W=>(Tryz.bits_Mul64 x y hx hy W).mono ?_) ⟨trivial,trivial,trivial⟩ ⟨trivial,trivial,trivial⟩
 rintro e W' ⟨rfl,rfl⟩
 refine⟨?_,Below.refl _ _⟩
 subst hh hl
 rfl
theorem cCmp{P:Program}(hP:P=Tryz.prog)(a b:Nat->Nat)(ha:Wn 9 a)(hb:Wn 9 b)(o:Int)(ho:o=if V 9 a<V 9 b then -1 else if V 9 b<V 9 a then 1 else 0):
 Con P 64 [.agg (ws a 9),.agg (ws b 9)] [] 0 [] (fun v _ _=>v= .int .i64 o):=by
 refine cof hP Tryz.func64 ⟨lst_bdL _,lst_bdL _,trivial⟩ (by simp) ?_
 intro A g K hA hg hK
 obtain⟨bin,_,cmp,_,_,ix,_,_,_,_,_,_,_,_,_,off,_,_,sub⟩:=A
 have f0:∀i,cmp .geq (.ofNat i) 0=true:=fun i=>(geqI hA i 0).trans (by simp)
 have f0':cmp .geq (-1) 0=false:=by subst_vars;exact(congrFun (congrFun (congrFun (cmp_of hA) .geq) (-1)) 0).trans rfl
 have f1:∀i,i<9->bin .sub .i64 (.ofNat (i+1)) 1=Int.ofNat i:=fun i h=>(subI hA (a:=i+1) (b:=1) (by omega) (by omega)).trans (by simp)
 have f1':bin .sub .i64 (.ofNat 0) 1= -1:=(congrFun (congrFun (congrFun (congrFun (bin_of hA) .sub) .i64) (Int.ofNat 0)) 1).trans rfl
 have f2:∀i,i<9->ix (.ofNat i) 9=some i:=fun i h=>ix_of hA h
 have f3:∀i,off 0 i 1=i:=fun i=>(off_of hA 0 i 1).trans (by omega)
 have f4:=fun(f:Nat->Nat) (k:Nat) (h:k<9)=>getW hA .u64 (n:=9) f h
 have f5:∀x y,cmp .lss (.ofNat x) (.ofNat y)=decide (x<y):=fun x y=>lssI hA x y
 have f6:∀x y,cmp .gtr (.ofNat x) (.ofNat y)=decide (y<x):=fun x y=>gtrI hA x y
 simp only[lst,Nat.reduceAdd]at f4
 have heq:∀i,i<=9->(∀j,i<=j->j<9->a j=b j)->V 9 a=V i a+(V 9 b-V i b)/\V i b<=V 9 b:=by
  intro i hi hj
  obtain⟨k,hk⟩:∃k,9=i+k:=⟨9-i,by omega⟩
  have h1:=Dg.num_split (b:=0x10000000000000000) a i k
  have h2:=Dg.num_split (b:=0x10000000000000000) b i k
  rw[<-hk]at h1 h2
  have h3:Dg.num 0x10000000000000000 (fun q=>a (i+q)) k=Dg.num 0x10000000000000000 (fun q=>b (i+q)) k:=Dg.num_congr k fun q hq=>hj (i+q) (by omega) (by omega)
  rw[h3]at h1
  simp only[V]
  omega
 have hlt:∀i,i<9->∀f g:Nat->Nat,Wn 9 f->f i<g i->V (i+1) f<V (i+1) g:=by
  intro i hi f g hf h
  have h1:V i f<0x10000000000000000^i:=V_lt fun j hj=>hf j (by omega)
  rw[nsn,nsn]
  have h2:=Nat.mul_le_mul_right (0x10000000000000000^i) (show f i+1<=g i from h)
  rw[Nat.add_mul,Nat.one_mul]at h2
  generalize 0x10000000000000000^i=M at *
  omega
 cbv
 refine lpb (Option Nat) (fun s=>match s with|none=>V 9 a=V 9 b|some i=>i<9/\∀j,i<j->j<9->a j=b j) (fun s=>match s with|none=>0|some i=>i+1) (fun s=> [(5,.int .i64 (match s with|none=> -1|some i=>Int.ofNat i))]) [2,3,4] (fun _=> []) (some 8) ⟨by decide,fun j h1 h2=>by omega⟩ ?_ ?_
 ·exact wkid
 rintro(_|i) hs
 ·cbv
  rw[f0']
  cbv
  have hs:V 9 a=V 9 b:=hs
  exact hK _ _ _ (by rw[ho,hs,if_neg (Nat.lt_irrefl _),if_neg (Nat.lt_irrefl _)];rfl)
 ·obtain⟨hi,hj⟩:=hs
  have hi:i<9:=hi
  have hj:∀j,i<j->j<9->a j=b j:=hj
  cbv
  rw[f0 i]
  cbv
  refine rgM hP hA hg fun mk _=> ?_
  cbv
  rw[f2 i hi]
  cbv
  rw[f3 i,f4 a i hi]
  cbv
  rw[f2 i hi]
  cbv
  rw[f3 i,f4 b i hi]
  cbv
  rw[f5]
  have e1:=heq (i+1) (by omega) (fun j h1 h2=>hj j (by omega) h2)
  by_cases h1:a i<b i
  ·rw[decide_eq_true h1]
   cbv
   have e2:=hlt i hi a b ha h1
   exact hK _ _ _ (by rw[ho,if_pos (by omega)];rfl)
  ·rw[decide_eq_false h1]
   cbv
   refine rgM hP hA hg fun mk _=> ?_
   cbv
   rw[f2 i hi]
   cbv
   rw[f3 i,f4 a i hi]
   cbv
   rw[f2 i hi]
   cbv
   rw[f3 i,f4 b i hi]
   cbv
   rw[f6]
   by_cases h2:b i<a i
   ·rw[decide_eq_true h2]
    cbv
    have e2:=hlt i hi b a hb h2
    exact hK _ _ _ (by rw[ho,if_neg (by omega),if_pos (by omega)];rfl)
   ·rw[decide_eq_false h2]
    cbv
    have h3:a i=b i:=by omega
    have hj':∀j,i<=j->j<9->a j=b j:=fun j h1 h2=>by
     rcases Nat.lt_or_eq_of_le h1 with h4|h4
     ·exact hj j h4 h2
     ·rw[<-h4];exact h3
    cases i with
    |zero=>
     rw[show bin .sub .i64 (.ofNat 0) 1= -1 from f1']
     refine⟨none,id,?_,(by show 0<0+1;omega),?_⟩
     ·show V 9 a=V 9 b
      exact Dg.num_congr 9 fun j h=>hj' j (by omega) h
     ·exact wkid
    |succ i=>
     rw[f1 i (by omega)]
     refine⟨some i,id,⟨by omega,fun j h1 h2=>hj' j (by omega) h2⟩,(by show i+1<i+1+1;omega),?_⟩
     exact wkid
theorem cBits{P:Program}(hP:P=Tryz.prog)(a:Nat->Nat)(ha:Wn 9 a)(k:Nat)(hk:IsBl (V 9 a) k):
 Con P 62 [.agg (ws a 9)] [] 0 [] (fun v _ _=>v= .int .i64 (.ofNat k)):=by
 obtain⟨u,hu⟩:=used_ex a 9
 have hva:=V_used hu
 refine cof hP Tryz.func62 ⟨lst_bdL _,trivial⟩ (by simp) ?_
 intro A g K hA hg hK
 obtain⟨bin,_,cmp,_,_,ix,_,_,_,_,_,_,_,_,_,off,_,_,sub⟩:=A
 have f0:∀i,cmp .eql (.ofNat i) 0=decide (i=0):=fun i=>eqlI hA i 0
 have f2:∀i,i<9->ix (.ofNat i) 9=some i:=fun i h=>ix_of hA h
 have f3:∀i,off 0 i 1=i:=fun i=>(off_of hA 0 i 1).trans (by omega)
 have f4:=fun(f:Nat->Nat) (k:Nat) (h:k<9)=>getW hA .u64 (n:=9) f h
 simp only[lst,Nat.reduceAdd]at f4
 cbv
 refine cro rfl hg rfl rfl (cUsed hP a u hu) id rfl ⟨rfl,trivial⟩ ?_
 rintro _ _ _ rfl
 cbv
 rw[f0]
 cases u with
 |zero=>
  rw[show decide (0=0)=true from rfl]
  cbv
  rw[hva]at hk
  refine hK _ _ _ ?_
  rw[hk.zero]
  rfl
 |succ u=>
  rw[show decide (u+1=0)=false from decide_eq_false (by omega)]
  have hu9:u<9:=hu.1
  obtain⟨l,hl⟩:=bl_ex (a u)
  have hl64:l<=64:=Nat.le_of_not_lt fun h3=>by
   have h4:=hl.2 (by omega)
   have h5:=Nat.pow_le_pow_right (show 0<2 by decide) (show 64<=l-1 by omega)
   have:=ha u hu9
   omega
  have e0:bin .sub .i64 (.ofNat (u+1)) 1=Int.ofNat u:=(subI hA (a:=u+1) (b:=1) (by omega) (by omega)).trans (by simp)
  have e1:bin .mul .i64 (.ofNat u) 64=Int.ofNat (u*64):=mulI hA (b:=64) (by omega)
  have e2:bin .add .i64 (.ofNat (u*64)) (.ofNat l)=Int.ofNat (u*64+l):=addI hA (by omega)
  have hkl:k=u*64+l:=by
   refine hk.uniq ?_
   rw[hva,nsn,W_pow,show u*64=64*u by omega]
   refine IsBl.shift ?_ hl ?_
   ·have:=V_lt (n:=u) (f:=a) fun j hj=>ha j (by omega)
    rw[W_pow]at this
    exact this
   ·have:=hu.2.2 (by omega)
    simp at this
    omega
  generalize hw:u+1=u1 at e0
  generalize hw2:u*64=u64 at e1 e2 hkl
  cbv
  rw[e0,e1,f2 u hu9]
  cbv
  rw[f3 u,f4 a u hu9]
  cbv
  refine cva rfl hg rfl rfl (cLen64 hP (a u) l (ha u hu9) hl) ?_
  rintro _ _ _ rfl
  cbv
  rw[e2,<-hkl]
  exact hK _ _ _ rfl
theorem mul_word{x y z c h l l1 c1 l2 c2:Nat}(hx:x<0x10000000000000000)(hy:y<0x10000000000000000)(hz:z<0x10000000000000000)(hc:c<0x10000000000000000)(hh:h=x*y/0x10000000000000000)(hl:l=x*y%0x10000000000000000)
 (hl1:l1=(l+z+0)%0x10000000000000000) (hc1:c1=(l+z+0)/0x10000000000000000) (hl2:l2=(l1+c+0)%0x10000000000000000) (hc2:c2=(l1+c+0)/0x10000000000000000):
 x*y+z+c=l2+(h+c1+c2)*0x10000000000000000/\h+c1+c2<0x10000000000000000/\l2<0x10000000000000000/\c1<=1/\c2<=1:=by
 have h1:x*y<=0xffffffffffffffff*0xffffffffffffffff:=Nat.mul_le_mul (by omega) (by omega)
 generalize x*y=p at *
 omega
theorem mul_step{Vp Vq c cc x y z P Pk Pi B l2:Nat}(hpv:Vp+c*P=Vq+x*B*Pi)(w1:x*y+z+c=l2+cc*0x10000000000000000)(hP:P=Pk*Pi):Vp+l2*P+cc*(P*0x10000000000000000)=(Vq+z*P)+x*(B+y*Pk)*Pi:=by
 have h1:(Vq+z*P)+x*(B+y*Pk)*Pi=(Vq+x*B*Pi)+(x*y+z)*P:=by subst hP;grind
 have h2:Vp+l2*P+cc*(P*0x10000000000000000)=Vp+(l2+cc*0x10000000000000000)*P:=by grind
 rw[h1,h2,<-hpv,<-w1]
 grind
theorem cMul{P:Program}(hP:P=Tryz.prog)(a b r:Nat->Nat)(ha:Wn 9 a)(hb:Wn 9 b)(hr:Wn 18 r)(hVr:V 18 r=V 9 a*V 9 b):
 Con P 158 [.agg (ws a 9),.agg (ws b 9)] [] 0 [] (fun v _ _=>v= .agg (ws r 18)):=by
 obtain⟨m,hm⟩:=used_ex a 9
 obtain⟨n,hn⟩:=used_ex b 9
 have hva:=V_used hm
 have hvb:=V_used hn
 have hm9:=hm.1
 have hn9:=hn.1
 refine cof hP Tryz.func158 ⟨lst_bdL _,lst_bdL _,trivial⟩ (by simp) ?_
 intro A g K hA hg hK
 obtain⟨bin,_,cmp,_,_,ix,_,_,_,_,_,_,_,_,_,off⟩:=A
 have f1:∀x y,cmp .lss (.ofNat x) (.ofNat y)=decide (x<y):=fun x y=>lssI hA x y
 have f2:∀i,i<9->ix (.ofNat i) 9=some i:=fun i h=>ix_of hA h
 have f2':∀i,i<18->ix (.ofNat i) 18=some i:=fun i h=>ix_of hA h
 have f3:∀i,off 0 i 1=i:=fun i=>(off_of hA 0 i 1).trans (by omega)
 have f4:=fun(f:Nat->Nat) (k:Nat) (h:k<9)=>getW hA .u64 (n:=9) f h
 have f4':=fun(f:Nat->Nat) (k:Nat) (h:k<18)=>getW hA .u64 (n:=18) f h
 have f5:=fun(f g:Nat->Nat) (k v:Nat) (h:k<18) (e:g=fun j=>if j=k then v else f j)=>splW hA .u64 (n:=18) f g h e
 have f6:∀i,i<9->bin .add .i64 (.ofNat i) 1=Int.ofNat (i+1):=fun i h=>add_of hA (by omega)
 have f7:∀x y,x+y<0x10000000000000000->bin .add .u64 (.ofNat x) (.ofNat y)=Int.ofNat (x+y):=fun x y h=>addU hA h
 have f8:∀x y,x+y<18->bin .add .i64 (.ofNat x) (.ofNat y)=Int.ofNat (x+y):=fun x y h=>addI hA (by omega)
 simp only[lst,Nat.reduceAdd]at f4 f4' f5
 cbv
 refine cro rfl hg rfl rfl (cUsed hP a m hm) id rfl ⟨rfl,trivial⟩ ?_
 rintro _ _ _ rfl
 cbv
 refine cro rfl hg rfl rfl (cUsed hP b n hn) (fun l=>l+1) rfl ⟨rfl,trivial⟩ ?_
 rintro _ _ _ rfl
 cbv
 refine lpb (Nat×(Nat->Nat)) (fun s=>s.1<=m/\Wn 18 s.2/\(∀j,s.1+n<=j->s.2 j=0)/\V (s.1+n) s.2=V s.1 a*V n b) (fun s=>m-s.1)
  (fun s=> [(17,.int .i64 (.ofNat s.1))]) [2,3,4,5,6,7,16] (fun s=> [(3,ws s.2 18)]) (0,fun _=>0) ⟨Nat.zero_le _,fun j _=>by show 0<_;decide,fun _ _=>rfl,?_⟩ ?_ ?_
 ·show V (0+n) (fun _=>0)=V 0 a*V n b
  rw[show V 0 a=0 from rfl,Nat.zero_mul]
  exact Dg.num_zero (b:=0x10000000000000000) (fun _=>0) 0 n fun _ _ _=>rfl
 ·exact wkid
 rintro⟨i,q⟩ ⟨hi,hq,hz,hv⟩
 have hi:i<=m:=hi
 have hq:Wn 18 q:=hq
 have hz:∀j,i+n<=j->q j=0:=hz
 have hv:V (i+n) q=V i a*V n b:=hv
 cbv
 rw[f1]
 by_cases hlt:i<m
 ·rw[decide_eq_true hlt]
  cbv
  refine lpb (Nat×(Nat->Nat)×Nat) (fun s=>s.1<=n/\Wn 18 s.2.1/\s.2.2<0x10000000000000000/\(∀j,i+s.1<=j->s.2.1 j=q j)/\V (i+s.1) s.2.1+s.2.2*0x10000000000000000^(i+s.1)=V (i+s.1) q+a i*V s.1 b*0x10000000000000000^i) (fun s=>n-s.1)
   (fun s=> [(21,.int .i64 (.ofNat s.1)),(9,.int .u64 (.ofNat s.2.2))]) [2,3,4,5,6,7,8,16,17,20] (fun s=> [(3,ws s.2.1 18)]) (0,q,0) ⟨Nat.zero_le _,hq,by show 0<_;decide,fun _ _=>rfl,?_⟩ ?_ ?_
  ·show V (i+0) q+0*_=V (i+0) q+a i*V 0 b*_
   rw[show V 0 b=0 from rfl];simp
  ·exact wkid
  rintro⟨k,p,c⟩ ⟨hk,hp,hc,hpq,hpv⟩
  have hk:k<=n:=hk
  have hp:Wn 18 p:=hp
  have hc:c<0x10000000000000000:=hc
  have hpq:∀j,i+k<=j->p j=q j:=hpq
  have hpv:V (i+k) p+c*0x10000000000000000^(i+k)=V (i+k) q+a i*V k b*0x10000000000000000^i:=hpv
  cbv
  rw[f1]
  by_cases hkn:k<n
  ·rw[decide_eq_true hkn]
   have i9:i<9:=by omega
   have k9:k<9:=by omega
   obtain⟨h,hh⟩:=exq (a i*b k/0x10000000000000000)
   obtain⟨l,hl⟩:=exq (a i*b k%0x10000000000000000)
   obtain⟨l1,hl1⟩:=exq ((l+p (i+k)+0)%0x10000000000000000)
   obtain⟨c1,hc1⟩:=exq ((l+p (i+k)+0)/0x10000000000000000)
   obtain⟨l2,hl2⟩:=exq ((l1+c+0)%0x10000000000000000)
   obtain⟨c2,hc2⟩:=exq ((l1+c+0)/0x10000000000000000)
   obtain⟨w1,w2,w3,w4,w5⟩:=mul_word (ha i i9) (hb k k9) (hp (i+k) (by omega)) hc hh hl hl1 hc1 hl2 hc2
   have e8:=f8 i k (by omega)
   have e7:=f7 h c1 (by omega)
   have e7':=f7 (h+c1) c2 (by omega)
   obtain⟨ik,hik⟩:=exq (i+k)
   obtain⟨p',hp'⟩:=exq (fun j=>if j=ik then l2 else p j:Nat->Nat)
   have e5:=f5 p p' ik l2 (by omega) hp'
   have e4:=f4' p ik (by omega)
   have e2:=f2' ik (by omega)
   have e3:=f3 ik
   obtain⟨hc1',hhc⟩:=exq (h+c1)
   obtain⟨cc,hcc⟩:=exq (hc1'+c2)
   rw[<-hhc]at e7 e7' w2
   rw[<-hcc]at e7' w2
   rw[<-hhc,<-hcc]at w1
   rw[<-hik]at e8 hl1 hc1
   cbv
   refine rgM hP hA hg fun mk _=> ?_
   cbv
   rw[f2 i i9]
   cbv
   rw[f3 i,f4 a i i9]
   cbv
   rw[f2 k k9]
   cbv
   rw[f3 k,f4 b k k9]
   cbv
   refine stepD (en_val rfl hg rfl rfl (cMul64 hP (a i) (b k) h l (ha i i9) (hb k k9) hh hl) (fun _ _ _ h=>h) ⟨trivial,trivial,trivial⟩) ?_
   cbv
   rw[e8]
   rw[e2]
   cbv
   rw[e3,e4]
   cbv
   refine step_ext rfl hg rfl rfl (xAdd64 hP l (p ik) 0 l1 c1 (by decide) hl1 hc1) ?_
   cbv
   rw[e7]
   refine step_ext rfl hg rfl rfl (xAdd64 hP l1 c 0 l2 c2 (by decide) hl2 hc2) ?_
   cbv
   rw[e8]
   rw[e7',e2]
   cbv
   rw[e3,e5]
   cbv
   rw[f6 k k9]
   refine⟨(k+1,p',cc),id,⟨hkn,?_,w2,?_,?_⟩,(by show n-(k+1)<n-k;omega),?_⟩
   ·intro j hj
    show p' j<_
    rw[hp']
    by_cases hji:j=ik
    ·simp only[hji,if_pos];exact w3
    ·simp only[if_neg hji];exact hp j hj
   ·intro j hj
    have hj:i+(k+1)<=j:=hj
    show p' j=q j
    rw[hp']
    simp only[if_neg (show j≠ik by omega)]
    exact hpq j (by omega)
   ·show V (i+(k+1)) p'+cc*0x10000000000000000^(i+(k+1))=V (i+(k+1)) q+a i*V (k+1) b*0x10000000000000000^i
    rw[<-Nat.add_assoc,<-hik,hp',V_upd,nsn q,nsn b,Nat.pow_succ]
    rw[<-hik]at hpv
    have hz1:p ik=q ik:=hpq ik (by omega)
    rw[hik]at hz1
    rw[hz1]at w1
    rw[<-hik]at w1
    exact mul_step hpv w1 (by rw[hik,Nat.pow_add,Nat.mul_comm])
   ·exact wkid
  ·rw[decide_eq_false hkn]
   obtain rfl:k=n:=by omega
   have e8:=f8 i k (by omega)
   obtain⟨ik,hik⟩:=exq (i+k)
   obtain⟨p',hp'⟩:=exq (fun j=>if j=ik then c else p j:Nat->Nat)
   have e5:=f5 p p' ik c (by omega) hp'
   have e2:=f2' ik (by omega)
   have e3:=f3 ik
   rw[<-hik]at e8
   cbv
   rw[e8,e2]
   cbv
   rw[e3,e5]
   cbv
   rw[f6 i (by omega)]
   refine⟨(i+1,p'),id,⟨hlt,?_,?_,?_⟩,(by show m-(i+1)<m-i;omega),?_⟩
   ·intro j hj
    show p' j<_
    rw[hp']
    by_cases hji:j=ik
    ·simp only[hji,if_pos];exact hc
    ·simp only[if_neg hji];exact hp j hj
   ·intro j hj
    have hj:i+1+k<=j:=hj
    show p' j=0
    rw[hp']
    simp only[if_neg (show j≠ik by omega)]
    rw[hpq j (by omega)]
    exact hz j (by omega)
   ·show V (i+1+k) p'=V (i+1) a*V k b
    rw[show i+1+k=ik+1 by omega,hp',V_upd,nsn a,hik,hpv,hv]
    grind
   ·exact wkid
 ·rw[decide_eq_false hlt]
  obtain rfl:i=m:=by omega
  have e1:V 18 q=V 18 r:=by
   rw[hVr,hva,hvb,<-hv]
   obtain⟨d,hd⟩:∃d,18=(i+n)+d:=⟨18-(i+n),by omega⟩
   rw[hd]
   exact Dg.num_zero (b:=0x10000000000000000) q (i+n) d fun j h1 _=>hz j h1
  have e3:=V_inj hq hr e1 (k:= .u64)
  simp only[lst,Nat.reduceAdd]at e3
  cbv
  refine hK _ _ _ ?_
  rw[e3]
  rfl
end Go.Proofs.YtdhmihfefgcbeaaGreat
