/- What the abstract machine knows of the types. -/
import Derived.Test.YtaffpkogcpkmjaaAmY
import Derived.Test.YtaffpkogcpkmjaaProg
namespace Go.Proofs.Ytaffpkogcpkmjaa
set_option linter.unusedVariables false
set_option linter.unusedSimpArgs false
set_option maxRecDepth 100000

theorem tv2 : TyVar Try.prog 2 false 1 := TyVar.mk' (d := (Try.prog.underlying 2).getD .bool) (by kernel_rfl) (by kernel_rfl) (by kernel_rfl)
instance : TyVar Try.prog 2 false 1 := tv2
instance : TyZero Try.prog 2 false [.int .i64 0] := TyZero.mk' (z := .int .i64 0) (by kernel_rfl) rfl rfl
instance : TyConc Try.prog 2 := TyConc.mk' (d := (Try.prog.underlying 2).getD .bool) (by kernel_rfl) (by kernel_rfl)
instance : TyInt Try.prog 2 .i64 := ⟨by kernel_rfl⟩
theorem tv3 : TyVar Try.prog 3 false 1 := TyVar.mk' (d := (Try.prog.underlying 3).getD .bool) (by kernel_rfl) (by kernel_rfl) (by kernel_rfl)
instance : TyVar Try.prog 3 false 1 := tv3
instance : TyZero Try.prog 3 false [.int .i64 0] := TyZero.mk' (z := .int .i64 0) (by kernel_rfl) rfl rfl
instance : TyConc Try.prog 3 := TyConc.mk' (d := (Try.prog.underlying 3).getD .bool) (by kernel_rfl) (by kernel_rfl)
instance : TyInt Try.prog 3 .i64 := ⟨by kernel_rfl⟩
theorem tv4 : TyVar Try.prog 4 false 1 := TyVar.mk' (d := (Try.prog.underlying 4).getD .bool) (by kernel_rfl) (by kernel_rfl) (by kernel_rfl)
instance : TyVar Try.prog 4 false 1 := tv4
instance : TyZero Try.prog 4 false [.bool false] := TyZero.mk' (z := .bool false) (by kernel_rfl) rfl rfl
instance : TyConc Try.prog 4 := TyConc.mk' (d := (Try.prog.underlying 4).getD .bool) (by kernel_rfl) (by kernel_rfl)
instance : TyBool Try.prog 4 := ⟨by kernel_rfl⟩
theorem tv5 : TyVar Try.prog 5 false 1 := TyVar.mk' (d := (Try.prog.underlying 5).getD .bool) (by kernel_rfl) (by kernel_rfl) (by kernel_rfl)
instance : TyVar Try.prog 5 false 1 := tv5
instance : TyZero Try.prog 5 false [.int .u8 0] := TyZero.mk' (z := .int .u8 0) (by kernel_rfl) rfl rfl
instance : TyConc Try.prog 5 := TyConc.mk' (d := (Try.prog.underlying 5).getD .bool) (by kernel_rfl) (by kernel_rfl)
instance : TyInt Try.prog 5 .u8 := ⟨by kernel_rfl⟩
theorem tv9 : TyVar Try.prog 9 false 1 := TyVar.mk' (d := (Try.prog.underlying 9).getD .bool) (by kernel_rfl) (by kernel_rfl) (by kernel_rfl)
instance : TyVar Try.prog 9 false 1 := tv9
instance : TyZero Try.prog 9 false [.string ⟨#[]⟩] := TyZero.mk' (z := .string ⟨#[]⟩) (by kernel_rfl) rfl rfl
instance : TyConc Try.prog 9 := TyConc.mk' (d := (Try.prog.underlying 9).getD .bool) (by kernel_rfl) (by kernel_rfl)
instance : TyStr Try.prog 9 := ⟨by kernel_rfl⟩
theorem tv12 : TyVar Try.prog 12 false 1 := TyVar.mk' (d := (Try.prog.underlying 12).getD .bool) (by kernel_rfl) (by kernel_rfl) (by kernel_rfl)
instance : TyVar Try.prog 12 false 1 := tv12
instance : TyZero Try.prog 12 false [.int .u64 0] := TyZero.mk' (z := .int .u64 0) (by kernel_rfl) rfl rfl
instance : TyConc Try.prog 12 := TyConc.mk' (d := (Try.prog.underlying 12).getD .bool) (by kernel_rfl) (by kernel_rfl)
instance : TyInt Try.prog 12 .u64 := ⟨by kernel_rfl⟩
theorem tv20 : TyVar Try.prog 20 false 1 := TyVar.mk' (d := (Try.prog.underlying 20).getD .bool) (by kernel_rfl) (by kernel_rfl) (by kernel_rfl)
instance : TyVar Try.prog 20 false 1 := tv20
instance : TyZero Try.prog 20 false [.nilIface] := TyZero.mk' (z := .nilIface) (by kernel_rfl) rfl rfl
instance : TyIface Try.prog 20 := ⟨⟨_, (show Try.prog.underlying 20 = some ((Try.prog.underlying 20).getD .bool) by kernel_rfl).trans (by kernel_rfl : some ((Try.prog.underlying 20).getD .bool) = some (.interface #[]))⟩⟩
theorem tv21 : TyVar Try.prog 21 false 1 := TyVar.mk' (d := (Try.prog.underlying 21).getD .bool) (by kernel_rfl) (by kernel_rfl) (by kernel_rfl)
instance : TyVar Try.prog 21 false 1 := tv21
instance : TyZero Try.prog 21 false [.int .i32 0] := TyZero.mk' (z := .int .i32 0) (by kernel_rfl) rfl rfl
instance : TyConc Try.prog 21 := TyConc.mk' (d := (Try.prog.underlying 21).getD .bool) (by kernel_rfl) (by kernel_rfl)
instance : TyInt Try.prog 21 .i32 := ⟨by kernel_rfl⟩
theorem tv22 : TyVar Try.prog 22 false 1 := TyVar.mk' (d := (Try.prog.underlying 22).getD .bool) (by kernel_rfl) (by kernel_rfl) (by kernel_rfl)
instance : TyVar Try.prog 22 false 1 := tv22
instance : TyZero Try.prog 22 false [.slice none 0 0] := TyZero.mk' (z := .slice none 0 0) (by kernel_rfl) rfl rfl
instance : TyConc Try.prog 22 := TyConc.mk' (d := (Try.prog.underlying 22).getD .bool) (by kernel_rfl) (by kernel_rfl)
instance : TySl Try.prog 22 5 1 1 := TySl.mk' (z := .int .u8 0) (by kernel_rfl) (by kernel_rfl) rfl (by decide)
theorem tv23 : TyVar Try.prog 23 false 1 := TyVar.mk' (d := (Try.prog.underlying 23).getD .bool) (by kernel_rfl) (by kernel_rfl) (by kernel_rfl)
instance : TyVar Try.prog 23 false 1 := tv23
instance : TyZero Try.prog 23 false [.slice none 0 0] := TyZero.mk' (z := .slice none 0 0) (by kernel_rfl) rfl rfl
instance : TyConc Try.prog 23 := TyConc.mk' (d := (Try.prog.underlying 23).getD .bool) (by kernel_rfl) (by kernel_rfl)
instance : TySl Try.prog 23 45 2 32 := TySl.mk' (z := .agg #[.int .i64 0, .slice none 0 0]) (by kernel_rfl) (by kernel_rfl) rfl (by decide)
theorem tv24 : TyVar Try.prog 24 true 9 := TyVar.mk' (d := (Try.prog.underlying 24).getD .bool) (by kernel_rfl) (by kernel_rfl) (by kernel_rfl)
instance : TyVar Try.prog 24 true 9 := tv24
instance : TyZero Try.prog 24 true [.int .i64 0, .int .i64 0, .int .i64 0, .slice none 0 0, .slice none 0 0, .int .i64 0, .int .i64 0, .int .i64 0, .slice none 0 0] := TyZero.mk' (z := .agg #[.int .i64 0, .int .i64 0, .int .i64 0, .slice none 0 0, .slice none 0 0, .int .i64 0, .int .i64 0, .int .i64 0, .slice none 0 0]) (by kernel_rfl) rfl rfl
instance : TyConc Try.prog 24 := TyConc.mk' (d := (Try.prog.underlying 24).getD .bool) (by kernel_rfl) (by kernel_rfl)
instance : TyFldS Try.prog 24 0 0 false 1 := TyFldS.mk' (ft := 3) (by kernel_rfl) (by kernel_rfl) (TyVar.mk' (d := (Try.prog.underlying 3).getD .bool) (by kernel_rfl) (by kernel_rfl) (by kernel_rfl)) (by decide)
instance : TyFldS Try.prog 24 1 1 false 1 := TyFldS.mk' (ft := 3) (by kernel_rfl) (by kernel_rfl) (TyVar.mk' (d := (Try.prog.underlying 3).getD .bool) (by kernel_rfl) (by kernel_rfl) (by kernel_rfl)) (by decide)
instance : TyFldS Try.prog 24 2 2 false 1 := TyFldS.mk' (ft := 3) (by kernel_rfl) (by kernel_rfl) (TyVar.mk' (d := (Try.prog.underlying 3).getD .bool) (by kernel_rfl) (by kernel_rfl) (by kernel_rfl)) (by decide)
instance : TyFldS Try.prog 24 3 3 false 1 := TyFldS.mk' (ft := 22) (by kernel_rfl) (by kernel_rfl) (TyVar.mk' (d := (Try.prog.underlying 22).getD .bool) (by kernel_rfl) (by kernel_rfl) (by kernel_rfl)) (by decide)
instance : TyFldS Try.prog 24 4 4 false 1 := TyFldS.mk' (ft := 22) (by kernel_rfl) (by kernel_rfl) (TyVar.mk' (d := (Try.prog.underlying 22).getD .bool) (by kernel_rfl) (by kernel_rfl) (by kernel_rfl)) (by decide)
instance : TyFldS Try.prog 24 5 5 false 1 := TyFldS.mk' (ft := 3) (by kernel_rfl) (by kernel_rfl) (TyVar.mk' (d := (Try.prog.underlying 3).getD .bool) (by kernel_rfl) (by kernel_rfl) (by kernel_rfl)) (by decide)
instance : TyFldS Try.prog 24 6 6 false 1 := TyFldS.mk' (ft := 3) (by kernel_rfl) (by kernel_rfl) (TyVar.mk' (d := (Try.prog.underlying 3).getD .bool) (by kernel_rfl) (by kernel_rfl) (by kernel_rfl)) (by decide)
instance : TyFldS Try.prog 24 7 7 false 1 := TyFldS.mk' (ft := 3) (by kernel_rfl) (by kernel_rfl) (TyVar.mk' (d := (Try.prog.underlying 3).getD .bool) (by kernel_rfl) (by kernel_rfl) (by kernel_rfl)) (by decide)
instance : TyFldS Try.prog 24 8 8 false 1 := TyFldS.mk' (ft := 23) (by kernel_rfl) (by kernel_rfl) (TyVar.mk' (d := (Try.prog.underlying 23).getD .bool) (by kernel_rfl) (by kernel_rfl) (by kernel_rfl)) (by decide)
instance : TyPlaces Try.prog 24 [(0, 1), (1, 1), (2, 1), (3, 1), (4, 1), (5, 1), (6, 1), (7, 1), (8, 1)] := TyPlaces.mk' (by kernel_rfl) (fun w => by kernel_rfl)
theorem tv25 : TyVar Try.prog 25 true 9 := TyVar.mk' (d := (Try.prog.underlying 25).getD .bool) (by kernel_rfl) (by kernel_rfl) (by kernel_rfl)
instance : TyVar Try.prog 25 true 9 := tv25
instance : TyZero Try.prog 25 true [.int .i64 0, .int .i64 0, .int .i64 0, .slice none 0 0, .slice none 0 0, .int .i64 0, .int .i64 0, .int .i64 0, .slice none 0 0] := TyZero.mk' (z := .agg #[.int .i64 0, .int .i64 0, .int .i64 0, .slice none 0 0, .slice none 0 0, .int .i64 0, .int .i64 0, .int .i64 0, .slice none 0 0]) (by kernel_rfl) rfl rfl
instance : TyConc Try.prog 25 := TyConc.mk' (d := (Try.prog.underlying 25).getD .bool) (by kernel_rfl) (by kernel_rfl)
instance : TyFldS Try.prog 25 0 0 false 1 := TyFldS.mk' (ft := 3) (by kernel_rfl) (by kernel_rfl) (TyVar.mk' (d := (Try.prog.underlying 3).getD .bool) (by kernel_rfl) (by kernel_rfl) (by kernel_rfl)) (by decide)
instance : TyFldS Try.prog 25 1 1 false 1 := TyFldS.mk' (ft := 3) (by kernel_rfl) (by kernel_rfl) (TyVar.mk' (d := (Try.prog.underlying 3).getD .bool) (by kernel_rfl) (by kernel_rfl) (by kernel_rfl)) (by decide)
instance : TyFldS Try.prog 25 2 2 false 1 := TyFldS.mk' (ft := 3) (by kernel_rfl) (by kernel_rfl) (TyVar.mk' (d := (Try.prog.underlying 3).getD .bool) (by kernel_rfl) (by kernel_rfl) (by kernel_rfl)) (by decide)
instance : TyFldS Try.prog 25 3 3 false 1 := TyFldS.mk' (ft := 22) (by kernel_rfl) (by kernel_rfl) (TyVar.mk' (d := (Try.prog.underlying 22).getD .bool) (by kernel_rfl) (by kernel_rfl) (by kernel_rfl)) (by decide)
instance : TyFldS Try.prog 25 4 4 false 1 := TyFldS.mk' (ft := 22) (by kernel_rfl) (by kernel_rfl) (TyVar.mk' (d := (Try.prog.underlying 22).getD .bool) (by kernel_rfl) (by kernel_rfl) (by kernel_rfl)) (by decide)
instance : TyFldS Try.prog 25 5 5 false 1 := TyFldS.mk' (ft := 3) (by kernel_rfl) (by kernel_rfl) (TyVar.mk' (d := (Try.prog.underlying 3).getD .bool) (by kernel_rfl) (by kernel_rfl) (by kernel_rfl)) (by decide)
instance : TyFldS Try.prog 25 6 6 false 1 := TyFldS.mk' (ft := 3) (by kernel_rfl) (by kernel_rfl) (TyVar.mk' (d := (Try.prog.underlying 3).getD .bool) (by kernel_rfl) (by kernel_rfl) (by kernel_rfl)) (by decide)
instance : TyFldS Try.prog 25 7 7 false 1 := TyFldS.mk' (ft := 3) (by kernel_rfl) (by kernel_rfl) (TyVar.mk' (d := (Try.prog.underlying 3).getD .bool) (by kernel_rfl) (by kernel_rfl) (by kernel_rfl)) (by decide)
instance : TyFldS Try.prog 25 8 8 false 1 := TyFldS.mk' (ft := 23) (by kernel_rfl) (by kernel_rfl) (TyVar.mk' (d := (Try.prog.underlying 23).getD .bool) (by kernel_rfl) (by kernel_rfl) (by kernel_rfl)) (by decide)
instance : TyPlaces Try.prog 25 [(0, 1), (1, 1), (2, 1), (3, 1), (4, 1), (5, 1), (6, 1), (7, 1), (8, 1)] := TyPlaces.mk' (by kernel_rfl) (fun w => by kernel_rfl)
theorem tv28 : TyVar Try.prog 28 false 1 := TyVar.mk' (d := (Try.prog.underlying 28).getD .bool) (by kernel_rfl) (by kernel_rfl) (by kernel_rfl)
instance : TyVar Try.prog 28 false 1 := tv28
instance : TyZero Try.prog 28 false [.slice none 0 0] := TyZero.mk' (z := .slice none 0 0) (by kernel_rfl) rfl rfl
instance : TyConc Try.prog 28 := TyConc.mk' (d := (Try.prog.underlying 28).getD .bool) (by kernel_rfl) (by kernel_rfl)
instance : TySl Try.prog 28 71 2 32 := TySl.mk' (z := .agg #[.int .i64 0, .slice none 0 0]) (by kernel_rfl) (by kernel_rfl) rfl (by decide)
theorem tv29 : TyVar Try.prog 29 true 9 := TyVar.mk' (d := (Try.prog.underlying 29).getD .bool) (by kernel_rfl) (by kernel_rfl) (by kernel_rfl)
instance : TyVar Try.prog 29 true 9 := tv29
instance : TyZero Try.prog 29 true [.int .i64 0, .int .i64 0, .int .i64 0, .slice none 0 0, .slice none 0 0, .int .i64 0, .int .i64 0, .int .i64 0, .slice none 0 0] := TyZero.mk' (z := .agg #[.int .i64 0, .int .i64 0, .int .i64 0, .slice none 0 0, .slice none 0 0, .int .i64 0, .int .i64 0, .int .i64 0, .slice none 0 0]) (by kernel_rfl) rfl rfl
instance : TyConc Try.prog 29 := TyConc.mk' (d := (Try.prog.underlying 29).getD .bool) (by kernel_rfl) (by kernel_rfl)
instance : TyFldS Try.prog 29 0 0 false 1 := TyFldS.mk' (ft := 3) (by kernel_rfl) (by kernel_rfl) (TyVar.mk' (d := (Try.prog.underlying 3).getD .bool) (by kernel_rfl) (by kernel_rfl) (by kernel_rfl)) (by decide)
instance : TyFldS Try.prog 29 1 1 false 1 := TyFldS.mk' (ft := 3) (by kernel_rfl) (by kernel_rfl) (TyVar.mk' (d := (Try.prog.underlying 3).getD .bool) (by kernel_rfl) (by kernel_rfl) (by kernel_rfl)) (by decide)
instance : TyFldS Try.prog 29 2 2 false 1 := TyFldS.mk' (ft := 3) (by kernel_rfl) (by kernel_rfl) (TyVar.mk' (d := (Try.prog.underlying 3).getD .bool) (by kernel_rfl) (by kernel_rfl) (by kernel_rfl)) (by decide)
instance : TyFldS Try.prog 29 3 3 false 1 := TyFldS.mk' (ft := 22) (by kernel_rfl) (by kernel_rfl) (TyVar.mk' (d := (Try.prog.underlying 22).getD .bool) (by kernel_rfl) (by kernel_rfl) (by kernel_rfl)) (by decide)
instance : TyFldS Try.prog 29 4 4 false 1 := TyFldS.mk' (ft := 22) (by kernel_rfl) (by kernel_rfl) (TyVar.mk' (d := (Try.prog.underlying 22).getD .bool) (by kernel_rfl) (by kernel_rfl) (by kernel_rfl)) (by decide)
instance : TyFldS Try.prog 29 5 5 false 1 := TyFldS.mk' (ft := 3) (by kernel_rfl) (by kernel_rfl) (TyVar.mk' (d := (Try.prog.underlying 3).getD .bool) (by kernel_rfl) (by kernel_rfl) (by kernel_rfl)) (by decide)
instance : TyFldS Try.prog 29 6 6 false 1 := TyFldS.mk' (ft := 3) (by kernel_rfl) (by kernel_rfl) (TyVar.mk' (d := (Try.prog.underlying 3).getD .bool) (by kernel_rfl) (by kernel_rfl) (by kernel_rfl)) (by decide)
instance : TyFldS Try.prog 29 7 7 false 1 := TyFldS.mk' (ft := 3) (by kernel_rfl) (by kernel_rfl) (TyVar.mk' (d := (Try.prog.underlying 3).getD .bool) (by kernel_rfl) (by kernel_rfl) (by kernel_rfl)) (by decide)
instance : TyFldS Try.prog 29 8 8 false 1 := TyFldS.mk' (ft := 28) (by kernel_rfl) (by kernel_rfl) (TyVar.mk' (d := (Try.prog.underlying 28).getD .bool) (by kernel_rfl) (by kernel_rfl) (by kernel_rfl)) (by decide)
instance : TyPlaces Try.prog 29 [(0, 1), (1, 1), (2, 1), (3, 1), (4, 1), (5, 1), (6, 1), (7, 1), (8, 1)] := TyPlaces.mk' (by kernel_rfl) (fun w => by kernel_rfl)
theorem tv30 : TyVar Try.prog 30 true 9 := TyVar.mk' (d := (Try.prog.underlying 30).getD .bool) (by kernel_rfl) (by kernel_rfl) (by kernel_rfl)
instance : TyVar Try.prog 30 true 9 := tv30
instance : TyZero Try.prog 30 true [.int .i64 0, .int .i64 0, .int .i64 0, .slice none 0 0, .slice none 0 0, .int .i64 0, .int .i64 0, .int .i64 0, .slice none 0 0] := TyZero.mk' (z := .agg #[.int .i64 0, .int .i64 0, .int .i64 0, .slice none 0 0, .slice none 0 0, .int .i64 0, .int .i64 0, .int .i64 0, .slice none 0 0]) (by kernel_rfl) rfl rfl
instance : TyConc Try.prog 30 := TyConc.mk' (d := (Try.prog.underlying 30).getD .bool) (by kernel_rfl) (by kernel_rfl)
instance : TyFldS Try.prog 30 0 0 false 1 := TyFldS.mk' (ft := 3) (by kernel_rfl) (by kernel_rfl) (TyVar.mk' (d := (Try.prog.underlying 3).getD .bool) (by kernel_rfl) (by kernel_rfl) (by kernel_rfl)) (by decide)
instance : TyFldS Try.prog 30 1 1 false 1 := TyFldS.mk' (ft := 3) (by kernel_rfl) (by kernel_rfl) (TyVar.mk' (d := (Try.prog.underlying 3).getD .bool) (by kernel_rfl) (by kernel_rfl) (by kernel_rfl)) (by decide)
instance : TyFldS Try.prog 30 2 2 false 1 := TyFldS.mk' (ft := 3) (by kernel_rfl) (by kernel_rfl) (TyVar.mk' (d := (Try.prog.underlying 3).getD .bool) (by kernel_rfl) (by kernel_rfl) (by kernel_rfl)) (by decide)
instance : TyFldS Try.prog 30 3 3 false 1 := TyFldS.mk' (ft := 22) (by kernel_rfl) (by kernel_rfl) (TyVar.mk' (d := (Try.prog.underlying 22).getD .bool) (by kernel_rfl) (by kernel_rfl) (by kernel_rfl)) (by decide)
instance : TyFldS Try.prog 30 4 4 false 1 := TyFldS.mk' (ft := 22) (by kernel_rfl) (by kernel_rfl) (TyVar.mk' (d := (Try.prog.underlying 22).getD .bool) (by kernel_rfl) (by kernel_rfl) (by kernel_rfl)) (by decide)
instance : TyFldS Try.prog 30 5 5 false 1 := TyFldS.mk' (ft := 3) (by kernel_rfl) (by kernel_rfl) (TyVar.mk' (d := (Try.prog.underlying 3).getD .bool) (by kernel_rfl) (by kernel_rfl) (by kernel_rfl)) (by decide)
instance : TyFldS Try.prog 30 6 6 false 1 := TyFldS.mk' (ft := 3) (by kernel_rfl) (by kernel_rfl) (TyVar.mk' (d := (Try.prog.underlying 3).getD .bool) (by kernel_rfl) (by kernel_rfl) (by kernel_rfl)) (by decide)
instance : TyFldS Try.prog 30 7 7 false 1 := TyFldS.mk' (ft := 3) (by kernel_rfl) (by kernel_rfl) (TyVar.mk' (d := (Try.prog.underlying 3).getD .bool) (by kernel_rfl) (by kernel_rfl) (by kernel_rfl)) (by decide)
instance : TyFldS Try.prog 30 8 8 false 1 := TyFldS.mk' (ft := 28) (by kernel_rfl) (by kernel_rfl) (TyVar.mk' (d := (Try.prog.underlying 28).getD .bool) (by kernel_rfl) (by kernel_rfl) (by kernel_rfl)) (by decide)
instance : TyPlaces Try.prog 30 [(0, 1), (1, 1), (2, 1), (3, 1), (4, 1), (5, 1), (6, 1), (7, 1), (8, 1)] := TyPlaces.mk' (by kernel_rfl) (fun w => by kernel_rfl)
theorem tv32 : TyVar Try.prog 32 false 1 := TyVar.mk' (d := (Try.prog.underlying 32).getD .bool) (by kernel_rfl) (by kernel_rfl) (by kernel_rfl)
instance : TyVar Try.prog 32 false 1 := tv32
instance : TyZero Try.prog 32 false [.int .i64 0] := TyZero.mk' (z := .int .i64 0) (by kernel_rfl) rfl rfl
instance : TyConc Try.prog 32 := TyConc.mk' (d := (Try.prog.underlying 32).getD .bool) (by kernel_rfl) (by kernel_rfl)
instance : TyInt Try.prog 32 .i64 := ⟨by kernel_rfl⟩
theorem tv44 : TyVar Try.prog 44 true 2 := TyVar.mk' (d := (Try.prog.underlying 44).getD .bool) (by kernel_rfl) (by kernel_rfl) (by kernel_rfl)
instance : TyVar Try.prog 44 true 2 := tv44
instance : TyZero Try.prog 44 true [.int .i64 0, .slice none 0 0] := TyZero.mk' (z := .agg #[.int .i64 0, .slice none 0 0]) (by kernel_rfl) rfl rfl
instance : TyConc Try.prog 44 := TyConc.mk' (d := (Try.prog.underlying 44).getD .bool) (by kernel_rfl) (by kernel_rfl)
instance : TyFldS Try.prog 44 0 0 false 1 := TyFldS.mk' (ft := 3) (by kernel_rfl) (by kernel_rfl) (TyVar.mk' (d := (Try.prog.underlying 3).getD .bool) (by kernel_rfl) (by kernel_rfl) (by kernel_rfl)) (by decide)
instance : TyFldS Try.prog 44 1 1 false 1 := TyFldS.mk' (ft := 22) (by kernel_rfl) (by kernel_rfl) (TyVar.mk' (d := (Try.prog.underlying 22).getD .bool) (by kernel_rfl) (by kernel_rfl) (by kernel_rfl)) (by decide)
instance : TyPlaces Try.prog 44 [(0, 1), (1, 1)] := TyPlaces.mk' (by kernel_rfl) (fun w => by kernel_rfl)
theorem tv45 : TyVar Try.prog 45 true 2 := TyVar.mk' (d := (Try.prog.underlying 45).getD .bool) (by kernel_rfl) (by kernel_rfl) (by kernel_rfl)
instance : TyVar Try.prog 45 true 2 := tv45
instance : TyZero Try.prog 45 true [.int .i64 0, .slice none 0 0] := TyZero.mk' (z := .agg #[.int .i64 0, .slice none 0 0]) (by kernel_rfl) rfl rfl
instance : TyConc Try.prog 45 := TyConc.mk' (d := (Try.prog.underlying 45).getD .bool) (by kernel_rfl) (by kernel_rfl)
instance : TyFldS Try.prog 45 0 0 false 1 := TyFldS.mk' (ft := 3) (by kernel_rfl) (by kernel_rfl) (TyVar.mk' (d := (Try.prog.underlying 3).getD .bool) (by kernel_rfl) (by kernel_rfl) (by kernel_rfl)) (by decide)
instance : TyFldS Try.prog 45 1 1 false 1 := TyFldS.mk' (ft := 22) (by kernel_rfl) (by kernel_rfl) (TyVar.mk' (d := (Try.prog.underlying 22).getD .bool) (by kernel_rfl) (by kernel_rfl) (by kernel_rfl)) (by decide)
instance : TyPlaces Try.prog 45 [(0, 1), (1, 1)] := TyPlaces.mk' (by kernel_rfl) (fun w => by kernel_rfl)
theorem tv47 : TyVar Try.prog 47 false 1 := TyVar.mk' (d := (Try.prog.underlying 47).getD .bool) (by kernel_rfl) (by kernel_rfl) (by kernel_rfl)
instance : TyVar Try.prog 47 false 1 := tv47
instance : TyZero Try.prog 47 false [.slice none 0 0] := TyZero.mk' (z := .slice none 0 0) (by kernel_rfl) rfl rfl
instance : TyConc Try.prog 47 := TyConc.mk' (d := (Try.prog.underlying 47).getD .bool) (by kernel_rfl) (by kernel_rfl)
instance : TySl Try.prog 47 25 9 120 := TySl.mk' (z := .agg #[.int .i64 0, .int .i64 0, .int .i64 0, .slice none 0 0, .slice none 0 0, .int .i64 0, .int .i64 0, .int .i64 0, .slice none 0 0]) (by kernel_rfl) (by kernel_rfl) rfl (by decide)
theorem tv48 : TyVar Try.prog 48 false 1 := TyVar.mk' (d := (Try.prog.underlying 48).getD .bool) (by kernel_rfl) (by kernel_rfl) (by kernel_rfl)
instance : TyVar Try.prog 48 false 1 := tv48
instance : TyZero Try.prog 48 false [.slice none 0 0] := TyZero.mk' (z := .slice none 0 0) (by kernel_rfl) rfl rfl
instance : TyConc Try.prog 48 := TyConc.mk' (d := (Try.prog.underlying 48).getD .bool) (by kernel_rfl) (by kernel_rfl)
instance : TySl Try.prog 48 64 2 16 := TySl.mk' (z := .agg #[.int .i64 0, .int .i64 0]) (by kernel_rfl) (by kernel_rfl) rfl (by decide)
theorem tv49 : TyVar Try.prog 49 true 3 := TyVar.mk' (d := (Try.prog.underlying 49).getD .bool) (by kernel_rfl) (by kernel_rfl) (by kernel_rfl)
instance : TyVar Try.prog 49 true 3 := tv49
instance : TyZero Try.prog 49 true [.int .i64 0, .int .i64 0, .slice none 0 0] := TyZero.mk' (z := .agg #[.int .i64 0, .int .i64 0, .slice none 0 0]) (by kernel_rfl) rfl rfl
instance : TyConc Try.prog 49 := TyConc.mk' (d := (Try.prog.underlying 49).getD .bool) (by kernel_rfl) (by kernel_rfl)
instance : TyFldS Try.prog 49 0 0 false 1 := TyFldS.mk' (ft := 3) (by kernel_rfl) (by kernel_rfl) (TyVar.mk' (d := (Try.prog.underlying 3).getD .bool) (by kernel_rfl) (by kernel_rfl) (by kernel_rfl)) (by decide)
instance : TyFldS Try.prog 49 1 1 false 1 := TyFldS.mk' (ft := 3) (by kernel_rfl) (by kernel_rfl) (TyVar.mk' (d := (Try.prog.underlying 3).getD .bool) (by kernel_rfl) (by kernel_rfl) (by kernel_rfl)) (by decide)
instance : TyFldS Try.prog 49 2 2 false 1 := TyFldS.mk' (ft := 48) (by kernel_rfl) (by kernel_rfl) (TyVar.mk' (d := (Try.prog.underlying 48).getD .bool) (by kernel_rfl) (by kernel_rfl) (by kernel_rfl)) (by decide)
instance : TyPlaces Try.prog 49 [(0, 1), (1, 1), (2, 1)] := TyPlaces.mk' (by kernel_rfl) (fun w => by kernel_rfl)
theorem tv50 : TyVar Try.prog 50 true 3 := TyVar.mk' (d := (Try.prog.underlying 50).getD .bool) (by kernel_rfl) (by kernel_rfl) (by kernel_rfl)
instance : TyVar Try.prog 50 true 3 := tv50
instance : TyZero Try.prog 50 true [.int .i64 0, .int .i64 0, .slice none 0 0] := TyZero.mk' (z := .agg #[.int .i64 0, .int .i64 0, .slice none 0 0]) (by kernel_rfl) rfl rfl
instance : TyConc Try.prog 50 := TyConc.mk' (d := (Try.prog.underlying 50).getD .bool) (by kernel_rfl) (by kernel_rfl)
instance : TyFldS Try.prog 50 0 0 false 1 := TyFldS.mk' (ft := 3) (by kernel_rfl) (by kernel_rfl) (TyVar.mk' (d := (Try.prog.underlying 3).getD .bool) (by kernel_rfl) (by kernel_rfl) (by kernel_rfl)) (by decide)
instance : TyFldS Try.prog 50 1 1 false 1 := TyFldS.mk' (ft := 3) (by kernel_rfl) (by kernel_rfl) (TyVar.mk' (d := (Try.prog.underlying 3).getD .bool) (by kernel_rfl) (by kernel_rfl) (by kernel_rfl)) (by decide)
instance : TyFldS Try.prog 50 2 2 false 1 := TyFldS.mk' (ft := 48) (by kernel_rfl) (by kernel_rfl) (TyVar.mk' (d := (Try.prog.underlying 48).getD .bool) (by kernel_rfl) (by kernel_rfl) (by kernel_rfl)) (by decide)
instance : TyPlaces Try.prog 50 [(0, 1), (1, 1), (2, 1)] := TyPlaces.mk' (by kernel_rfl) (fun w => by kernel_rfl)
theorem tv53 : TyVar Try.prog 53 true 17 := TyVar.mk' (d := (Try.prog.underlying 53).getD .bool) (by kernel_rfl) (by kernel_rfl) (by kernel_rfl)
instance : TyVar Try.prog 53 true 17 := tv53
instance : TyZero Try.prog 53 true [.int .i64 0, .int .i64 0, .int .i64 0, .int .i64 0, .int .i64 0, .int .i64 0, .int .i64 0, .int .i64 0, .int .i64 0, .int .i64 0, .int .i64 0, .int .i64 0, .int .i64 0, .int .i64 0, .int .i64 0, .int .i64 0, .int .i64 0] := TyZero.mk' (z := .agg #[.int .i64 0, .int .i64 0, .int .i64 0, .int .i64 0, .int .i64 0, .int .i64 0, .int .i64 0, .int .i64 0, .int .i64 0, .int .i64 0, .int .i64 0, .int .i64 0, .int .i64 0, .int .i64 0, .int .i64 0, .int .i64 0, .int .i64 0]) (by kernel_rfl) rfl rfl
instance : TyConc Try.prog 53 := TyConc.mk' (d := (Try.prog.underlying 53).getD .bool) (by kernel_rfl) (by kernel_rfl)
instance : TyArr Try.prog 53 17 3 := ⟨by kernel_rfl⟩
theorem tv54 : TyVar Try.prog 54 true 19 := TyVar.mk' (d := (Try.prog.underlying 54).getD .bool) (by kernel_rfl) (by kernel_rfl) (by kernel_rfl)
instance : TyVar Try.prog 54 true 19 := tv54
instance : TyZero Try.prog 54 true [.int .i64 0, .int .i64 0, .int .i64 0, .int .i64 0, .int .i64 0, .int .i64 0, .int .i64 0, .int .i64 0, .int .i64 0, .int .i64 0, .int .i64 0, .int .i64 0, .int .i64 0, .int .i64 0, .int .i64 0, .int .i64 0, .int .i64 0, .int .i64 0, .int .i64 0] := TyZero.mk' (z := .agg #[.int .i64 0, .int .i64 0, .int .i64 0, .int .i64 0, .int .i64 0, .int .i64 0, .int .i64 0, .int .i64 0, .int .i64 0, .int .i64 0, .int .i64 0, .int .i64 0, .int .i64 0, .int .i64 0, .int .i64 0, .int .i64 0, .int .i64 0, .int .i64 0, .int .i64 0]) (by kernel_rfl) rfl rfl
instance : TyConc Try.prog 54 := TyConc.mk' (d := (Try.prog.underlying 54).getD .bool) (by kernel_rfl) (by kernel_rfl)
instance : TyFldS Try.prog 54 0 0 false 1 := TyFldS.mk' (ft := 3) (by kernel_rfl) (by kernel_rfl) (TyVar.mk' (d := (Try.prog.underlying 3).getD .bool) (by kernel_rfl) (by kernel_rfl) (by kernel_rfl)) (by decide)
instance : TyFldS Try.prog 54 1 1 false 1 := TyFldS.mk' (ft := 3) (by kernel_rfl) (by kernel_rfl) (TyVar.mk' (d := (Try.prog.underlying 3).getD .bool) (by kernel_rfl) (by kernel_rfl) (by kernel_rfl)) (by decide)
instance : TyFldS Try.prog 54 2 2 true 17 := TyFldS.mk' (ft := 53) (by kernel_rfl) (by kernel_rfl) (TyVar.mk' (d := (Try.prog.underlying 53).getD .bool) (by kernel_rfl) (by kernel_rfl) (by kernel_rfl)) (by decide)
instance : TyPlaces Try.prog 54 [(0, 1), (1, 1), (2, 17)] := TyPlaces.mk' (by kernel_rfl) (fun w => by kernel_rfl)
theorem tv55 : TyVar Try.prog 55 true 19 := TyVar.mk' (d := (Try.prog.underlying 55).getD .bool) (by kernel_rfl) (by kernel_rfl) (by kernel_rfl)
instance : TyVar Try.prog 55 true 19 := tv55
instance : TyZero Try.prog 55 true [.int .i64 0, .int .i64 0, .int .i64 0, .int .i64 0, .int .i64 0, .int .i64 0, .int .i64 0, .int .i64 0, .int .i64 0, .int .i64 0, .int .i64 0, .int .i64 0, .int .i64 0, .int .i64 0, .int .i64 0, .int .i64 0, .int .i64 0, .int .i64 0, .int .i64 0] := TyZero.mk' (z := .agg #[.int .i64 0, .int .i64 0, .int .i64 0, .int .i64 0, .int .i64 0, .int .i64 0, .int .i64 0, .int .i64 0, .int .i64 0, .int .i64 0, .int .i64 0, .int .i64 0, .int .i64 0, .int .i64 0, .int .i64 0, .int .i64 0, .int .i64 0, .int .i64 0, .int .i64 0]) (by kernel_rfl) rfl rfl
instance : TyConc Try.prog 55 := TyConc.mk' (d := (Try.prog.underlying 55).getD .bool) (by kernel_rfl) (by kernel_rfl)
instance : TyFldS Try.prog 55 0 0 false 1 := TyFldS.mk' (ft := 3) (by kernel_rfl) (by kernel_rfl) (TyVar.mk' (d := (Try.prog.underlying 3).getD .bool) (by kernel_rfl) (by kernel_rfl) (by kernel_rfl)) (by decide)
instance : TyFldS Try.prog 55 1 1 false 1 := TyFldS.mk' (ft := 3) (by kernel_rfl) (by kernel_rfl) (TyVar.mk' (d := (Try.prog.underlying 3).getD .bool) (by kernel_rfl) (by kernel_rfl) (by kernel_rfl)) (by decide)
instance : TyFldS Try.prog 55 2 2 true 17 := TyFldS.mk' (ft := 53) (by kernel_rfl) (by kernel_rfl) (TyVar.mk' (d := (Try.prog.underlying 53).getD .bool) (by kernel_rfl) (by kernel_rfl) (by kernel_rfl)) (by decide)
instance : TyPlaces Try.prog 55 [(0, 1), (1, 1), (2, 17)] := TyPlaces.mk' (by kernel_rfl) (fun w => by kernel_rfl)
theorem tv63 : TyVar Try.prog 63 true 2 := TyVar.mk' (d := (Try.prog.underlying 63).getD .bool) (by kernel_rfl) (by kernel_rfl) (by kernel_rfl)
instance : TyVar Try.prog 63 true 2 := tv63
instance : TyZero Try.prog 63 true [.int .i64 0, .int .i64 0] := TyZero.mk' (z := .agg #[.int .i64 0, .int .i64 0]) (by kernel_rfl) rfl rfl
instance : TyConc Try.prog 63 := TyConc.mk' (d := (Try.prog.underlying 63).getD .bool) (by kernel_rfl) (by kernel_rfl)
instance : TyFldS Try.prog 63 0 0 false 1 := TyFldS.mk' (ft := 3) (by kernel_rfl) (by kernel_rfl) (TyVar.mk' (d := (Try.prog.underlying 3).getD .bool) (by kernel_rfl) (by kernel_rfl) (by kernel_rfl)) (by decide)
instance : TyFldS Try.prog 63 1 1 false 1 := TyFldS.mk' (ft := 3) (by kernel_rfl) (by kernel_rfl) (TyVar.mk' (d := (Try.prog.underlying 3).getD .bool) (by kernel_rfl) (by kernel_rfl) (by kernel_rfl)) (by decide)
instance : TyPlaces Try.prog 63 [(0, 1), (1, 1)] := TyPlaces.mk' (by kernel_rfl) (fun w => by kernel_rfl)
theorem tv64 : TyVar Try.prog 64 true 2 := TyVar.mk' (d := (Try.prog.underlying 64).getD .bool) (by kernel_rfl) (by kernel_rfl) (by kernel_rfl)
instance : TyVar Try.prog 64 true 2 := tv64
instance : TyZero Try.prog 64 true [.int .i64 0, .int .i64 0] := TyZero.mk' (z := .agg #[.int .i64 0, .int .i64 0]) (by kernel_rfl) rfl rfl
instance : TyConc Try.prog 64 := TyConc.mk' (d := (Try.prog.underlying 64).getD .bool) (by kernel_rfl) (by kernel_rfl)
instance : TyFldS Try.prog 64 0 0 false 1 := TyFldS.mk' (ft := 3) (by kernel_rfl) (by kernel_rfl) (TyVar.mk' (d := (Try.prog.underlying 3).getD .bool) (by kernel_rfl) (by kernel_rfl) (by kernel_rfl)) (by decide)
instance : TyFldS Try.prog 64 1 1 false 1 := TyFldS.mk' (ft := 3) (by kernel_rfl) (by kernel_rfl) (TyVar.mk' (d := (Try.prog.underlying 3).getD .bool) (by kernel_rfl) (by kernel_rfl) (by kernel_rfl)) (by decide)
instance : TyPlaces Try.prog 64 [(0, 1), (1, 1)] := TyPlaces.mk' (by kernel_rfl) (fun w => by kernel_rfl)
theorem tv67 : TyVar Try.prog 67 false 1 := TyVar.mk' (d := (Try.prog.underlying 67).getD .bool) (by kernel_rfl) (by kernel_rfl) (by kernel_rfl)
instance : TyVar Try.prog 67 false 1 := tv67
instance : TyZero Try.prog 67 false [.slice none 0 0] := TyZero.mk' (z := .slice none 0 0) (by kernel_rfl) rfl rfl
instance : TyConc Try.prog 67 := TyConc.mk' (d := (Try.prog.underlying 67).getD .bool) (by kernel_rfl) (by kernel_rfl)
instance : TySl Try.prog 67 3 1 8 := TySl.mk' (z := .int .i64 0) (by kernel_rfl) (by kernel_rfl) rfl (by decide)
theorem tv71 : TyVar Try.prog 71 true 2 := TyVar.mk' (d := (Try.prog.underlying 71).getD .bool) (by kernel_rfl) (by kernel_rfl) (by kernel_rfl)
instance : TyVar Try.prog 71 true 2 := tv71
instance : TyZero Try.prog 71 true [.int .i64 0, .slice none 0 0] := TyZero.mk' (z := .agg #[.int .i64 0, .slice none 0 0]) (by kernel_rfl) rfl rfl
instance : TyConc Try.prog 71 := TyConc.mk' (d := (Try.prog.underlying 71).getD .bool) (by kernel_rfl) (by kernel_rfl)
instance : TyFldS Try.prog 71 0 0 false 1 := TyFldS.mk' (ft := 3) (by kernel_rfl) (by kernel_rfl) (TyVar.mk' (d := (Try.prog.underlying 3).getD .bool) (by kernel_rfl) (by kernel_rfl) (by kernel_rfl)) (by decide)
instance : TyFldS Try.prog 71 1 1 false 1 := TyFldS.mk' (ft := 22) (by kernel_rfl) (by kernel_rfl) (TyVar.mk' (d := (Try.prog.underlying 22).getD .bool) (by kernel_rfl) (by kernel_rfl) (by kernel_rfl)) (by decide)
instance : TyPlaces Try.prog 71 [(0, 1), (1, 1)] := TyPlaces.mk' (by kernel_rfl) (fun w => by kernel_rfl)
theorem tv72 : TyVar Try.prog 72 false 1 := TyVar.mk' (d := (Try.prog.underlying 72).getD .bool) (by kernel_rfl) (by kernel_rfl) (by kernel_rfl)
instance : TyVar Try.prog 72 false 1 := tv72
instance : TyZero Try.prog 72 false [.slice none 0 0] := TyZero.mk' (z := .slice none 0 0) (by kernel_rfl) rfl rfl
instance : TyConc Try.prog 72 := TyConc.mk' (d := (Try.prog.underlying 72).getD .bool) (by kernel_rfl) (by kernel_rfl)
instance : TySl Try.prog 72 20 1 16 := TySl.mk' (z := .nilIface) (by kernel_rfl) (by kernel_rfl) rfl (by decide)
theorem tv79 : TyVar Try.prog 79 false 1 := TyVar.mk' (d := (Try.prog.underlying 79).getD .bool) (by kernel_rfl) (by kernel_rfl) (by kernel_rfl)
instance : TyVar Try.prog 79 false 1 := tv79
instance : TyZero Try.prog 79 false [.pointer none] := TyZero.mk' (z := .pointer none) (by kernel_rfl) rfl rfl
instance : TyConc Try.prog 79 := TyConc.mk' (d := (Try.prog.underlying 79).getD .bool) (by kernel_rfl) (by kernel_rfl)
instance : TyPtr Try.prog 79 := ⟨⟨101, by kernel_rfl⟩⟩
theorem tv87 : TyVar Try.prog 87 false 1 := TyVar.mk' (d := (Try.prog.underlying 87).getD .bool) (by kernel_rfl) (by kernel_rfl) (by kernel_rfl)
instance : TyVar Try.prog 87 false 1 := tv87
instance : TyZero Try.prog 87 false [.pointer none] := TyZero.mk' (z := .pointer none) (by kernel_rfl) rfl rfl
instance : TyConc Try.prog 87 := TyConc.mk' (d := (Try.prog.underlying 87).getD .bool) (by kernel_rfl) (by kernel_rfl)
instance : TyPtr Try.prog 87 := ⟨⟨89, by kernel_rfl⟩⟩
theorem tv88 : TyVar Try.prog 88 true 3 := TyVar.mk' (d := (Try.prog.underlying 88).getD .bool) (by kernel_rfl) (by kernel_rfl) (by kernel_rfl)
instance : TyVar Try.prog 88 true 3 := tv88
instance : TyZero Try.prog 88 true [.slice none 0 0, .int .i64 0, .bool false] := TyZero.mk' (z := .agg #[.slice none 0 0, .int .i64 0, .bool false]) (by kernel_rfl) rfl rfl
instance : TyConc Try.prog 88 := TyConc.mk' (d := (Try.prog.underlying 88).getD .bool) (by kernel_rfl) (by kernel_rfl)
instance : TyFldS Try.prog 88 0 0 false 1 := TyFldS.mk' (ft := 22) (by kernel_rfl) (by kernel_rfl) (TyVar.mk' (d := (Try.prog.underlying 22).getD .bool) (by kernel_rfl) (by kernel_rfl) (by kernel_rfl)) (by decide)
instance : TyFldS Try.prog 88 1 1 false 1 := TyFldS.mk' (ft := 3) (by kernel_rfl) (by kernel_rfl) (TyVar.mk' (d := (Try.prog.underlying 3).getD .bool) (by kernel_rfl) (by kernel_rfl) (by kernel_rfl)) (by decide)
instance : TyFldS Try.prog 88 2 2 false 1 := TyFldS.mk' (ft := 4) (by kernel_rfl) (by kernel_rfl) (TyVar.mk' (d := (Try.prog.underlying 4).getD .bool) (by kernel_rfl) (by kernel_rfl) (by kernel_rfl)) (by decide)
instance : TyPlaces Try.prog 88 [(0, 1), (1, 1), (2, 1)] := TyPlaces.mk' (by kernel_rfl) (fun w => by kernel_rfl)
theorem tv89 : TyVar Try.prog 89 true 3 := TyVar.mk' (d := (Try.prog.underlying 89).getD .bool) (by kernel_rfl) (by kernel_rfl) (by kernel_rfl)
instance : TyVar Try.prog 89 true 3 := tv89
instance : TyZero Try.prog 89 true [.slice none 0 0, .int .i64 0, .bool false] := TyZero.mk' (z := .agg #[.slice none 0 0, .int .i64 0, .bool false]) (by kernel_rfl) rfl rfl
instance : TyConc Try.prog 89 := TyConc.mk' (d := (Try.prog.underlying 89).getD .bool) (by kernel_rfl) (by kernel_rfl)
instance : TyFldS Try.prog 89 0 0 false 1 := TyFldS.mk' (ft := 22) (by kernel_rfl) (by kernel_rfl) (TyVar.mk' (d := (Try.prog.underlying 22).getD .bool) (by kernel_rfl) (by kernel_rfl) (by kernel_rfl)) (by decide)
instance : TyFldS Try.prog 89 1 1 false 1 := TyFldS.mk' (ft := 3) (by kernel_rfl) (by kernel_rfl) (TyVar.mk' (d := (Try.prog.underlying 3).getD .bool) (by kernel_rfl) (by kernel_rfl) (by kernel_rfl)) (by decide)
instance : TyFldS Try.prog 89 2 2 false 1 := TyFldS.mk' (ft := 4) (by kernel_rfl) (by kernel_rfl) (TyVar.mk' (d := (Try.prog.underlying 4).getD .bool) (by kernel_rfl) (by kernel_rfl) (by kernel_rfl)) (by decide)
instance : TyPlaces Try.prog 89 [(0, 1), (1, 1), (2, 1)] := TyPlaces.mk' (by kernel_rfl) (fun w => by kernel_rfl)
theorem tv100 : TyVar Try.prog 100 true 2 := TyVar.mk' (d := (Try.prog.underlying 100).getD .bool) (by kernel_rfl) (by kernel_rfl) (by kernel_rfl)
instance : TyVar Try.prog 100 true 2 := tv100
instance : TyZero Try.prog 100 true [.slice none 0 0, .bool false] := TyZero.mk' (z := .agg #[.slice none 0 0, .bool false]) (by kernel_rfl) rfl rfl
instance : TyConc Try.prog 100 := TyConc.mk' (d := (Try.prog.underlying 100).getD .bool) (by kernel_rfl) (by kernel_rfl)
instance : TyFldS Try.prog 100 0 0 false 1 := TyFldS.mk' (ft := 22) (by kernel_rfl) (by kernel_rfl) (TyVar.mk' (d := (Try.prog.underlying 22).getD .bool) (by kernel_rfl) (by kernel_rfl) (by kernel_rfl)) (by decide)
instance : TyFldS Try.prog 100 1 1 false 1 := TyFldS.mk' (ft := 4) (by kernel_rfl) (by kernel_rfl) (TyVar.mk' (d := (Try.prog.underlying 4).getD .bool) (by kernel_rfl) (by kernel_rfl) (by kernel_rfl)) (by decide)
instance : TyPlaces Try.prog 100 [(0, 1), (1, 1)] := TyPlaces.mk' (by kernel_rfl) (fun w => by kernel_rfl)
theorem tv101 : TyVar Try.prog 101 true 2 := TyVar.mk' (d := (Try.prog.underlying 101).getD .bool) (by kernel_rfl) (by kernel_rfl) (by kernel_rfl)
instance : TyVar Try.prog 101 true 2 := tv101
instance : TyZero Try.prog 101 true [.slice none 0 0, .bool false] := TyZero.mk' (z := .agg #[.slice none 0 0, .bool false]) (by kernel_rfl) rfl rfl
instance : TyConc Try.prog 101 := TyConc.mk' (d := (Try.prog.underlying 101).getD .bool) (by kernel_rfl) (by kernel_rfl)
instance : TyFldS Try.prog 101 0 0 false 1 := TyFldS.mk' (ft := 22) (by kernel_rfl) (by kernel_rfl) (TyVar.mk' (d := (Try.prog.underlying 22).getD .bool) (by kernel_rfl) (by kernel_rfl) (by kernel_rfl)) (by decide)
instance : TyFldS Try.prog 101 1 1 false 1 := TyFldS.mk' (ft := 4) (by kernel_rfl) (by kernel_rfl) (TyVar.mk' (d := (Try.prog.underlying 4).getD .bool) (by kernel_rfl) (by kernel_rfl) (by kernel_rfl)) (by decide)
instance : TyPlaces Try.prog 101 [(0, 1), (1, 1)] := TyPlaces.mk' (by kernel_rfl) (fun w => by kernel_rfl)
theorem tv102 : TyVar Try.prog 102 false 1 := TyVar.mk' (d := (Try.prog.underlying 102).getD .bool) (by kernel_rfl) (by kernel_rfl) (by kernel_rfl)
instance : TyVar Try.prog 102 false 1 := tv102
instance : TyZero Try.prog 102 false [.slice none 0 0] := TyZero.mk' (z := .slice none 0 0) (by kernel_rfl) rfl rfl
instance : TyConc Try.prog 102 := TyConc.mk' (d := (Try.prog.underlying 102).getD .bool) (by kernel_rfl) (by kernel_rfl)
instance : TySl Try.prog 102 22 1 24 := TySl.mk' (z := .slice none 0 0) (by kernel_rfl) (by kernel_rfl) rfl (by decide)
theorem tv103 : TyVar Try.prog 103 false 1 := TyVar.mk' (d := (Try.prog.underlying 103).getD .bool) (by kernel_rfl) (by kernel_rfl) (by kernel_rfl)
instance : TyVar Try.prog 103 false 1 := tv103
instance : TyZero Try.prog 103 false [.pointer none] := TyZero.mk' (z := .pointer none) (by kernel_rfl) rfl rfl
instance : TyConc Try.prog 103 := TyConc.mk' (d := (Try.prog.underlying 103).getD .bool) (by kernel_rfl) (by kernel_rfl)
instance : TyPtr Try.prog 103 := ⟨⟨30, by kernel_rfl⟩⟩
theorem tv108 : TyVar Try.prog 108 false 1 := TyVar.mk' (d := (Try.prog.underlying 108).getD .bool) (by kernel_rfl) (by kernel_rfl) (by kernel_rfl)
instance : TyVar Try.prog 108 false 1 := tv108
instance : TyZero Try.prog 108 false [.int .u64 0] := TyZero.mk' (z := .int .u64 0) (by kernel_rfl) rfl rfl
instance : TyConc Try.prog 108 := TyConc.mk' (d := (Try.prog.underlying 108).getD .bool) (by kernel_rfl) (by kernel_rfl)
instance : TyInt Try.prog 108 .u64 := ⟨by kernel_rfl⟩
theorem tv116 : TyVar Try.prog 116 false 1 := TyVar.mk' (d := (Try.prog.underlying 116).getD .bool) (by kernel_rfl) (by kernel_rfl) (by kernel_rfl)
instance : TyVar Try.prog 116 false 1 := tv116
instance : TyZero Try.prog 116 false [.int .u32 0] := TyZero.mk' (z := .int .u32 0) (by kernel_rfl) rfl rfl
instance : TyConc Try.prog 116 := TyConc.mk' (d := (Try.prog.underlying 116).getD .bool) (by kernel_rfl) (by kernel_rfl)
instance : TyInt Try.prog 116 .u32 := ⟨by kernel_rfl⟩
theorem tv120 : TyVar Try.prog 120 false 1 := TyVar.mk' (d := (Try.prog.underlying 120).getD .bool) (by kernel_rfl) (by kernel_rfl) (by kernel_rfl)
instance : TyVar Try.prog 120 false 1 := tv120
instance : TyZero Try.prog 120 false [.pointer none] := TyZero.mk' (z := .pointer none) (by kernel_rfl) rfl rfl
instance : TyConc Try.prog 120 := TyConc.mk' (d := (Try.prog.underlying 120).getD .bool) (by kernel_rfl) (by kernel_rfl)
instance : TyPtr Try.prog 120 := ⟨⟨5, by kernel_rfl⟩⟩
theorem tv125 : TyVar Try.prog 125 false 1 := TyVar.mk' (d := (Try.prog.underlying 125).getD .bool) (by kernel_rfl) (by kernel_rfl) (by kernel_rfl)
instance : TyVar Try.prog 125 false 1 := tv125
instance : TyZero Try.prog 125 false [.pointer none] := TyZero.mk' (z := .pointer none) (by kernel_rfl) rfl rfl
instance : TyConc Try.prog 125 := TyConc.mk' (d := (Try.prog.underlying 125).getD .bool) (by kernel_rfl) (by kernel_rfl)
end Go.Proofs.Ytaffpkogcpkmjaa
