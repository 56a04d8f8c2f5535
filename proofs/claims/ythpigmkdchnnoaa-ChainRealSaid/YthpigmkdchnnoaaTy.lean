/- What the abstract machine knows of the types. -/
import Derived.Test.YthpigmkdchnnoaaMap
import Derived.Test.YthpigmkdchnnoaaProg
namespace Go.Proofs.Ythpigmkdchnnoaa
set_option linter.unusedVariables false
set_option linter.unusedSimpArgs false
set_option maxRecDepth 100000

theorem tv2 : TyVar Try.prog 2 false 1 := TyVar.mk' (d := (Try.prog.underlying 2).getD .bool) (by kernel_rfl) (by kernel_rfl) (by kernel_rfl)
instance : TyVar Try.prog 2 false 1 := tv2
instance : TyZero Try.prog 2 false [.int .i64 0] := TyZero.mk' (z := .int .i64 0) (by kernel_rfl) rfl rfl
instance : TyConc Try.prog 2 := TyConc.mk' (d := (Try.prog.underlying 2).getD .bool) (by kernel_rfl) (by kernel_rfl)
instance : TyInt Try.prog 2 .i64 := ⟨by kernel_rfl⟩
theorem tv3 : TyVar Try.prog 3 false 1 := TyVar.mk' (d := (Try.prog.underlying 3).getD .bool) (by kernel_rfl) (by kernel_rfl) (by kernel_rfl)
instance : TyVar Try.prog 3 false 1 := tv3
instance : TyZero Try.prog 3 false [.int .i64 0] := TyZero.mk' (z := .int .i64 0) (by kernel_rfl) rfl rfl
instance : TyConc Try.prog 3 := TyConc.mk' (d := (Try.prog.underlying 3).getD .bool) (by kernel_rfl) (by kernel_rfl)
instance : TyInt Try.prog 3 .i64 := ⟨by kernel_rfl⟩
theorem tv4 : TyVar Try.prog 4 false 1 := TyVar.mk' (d := (Try.prog.underlying 4).getD .bool) (by kernel_rfl) (by kernel_rfl) (by kernel_rfl)
instance : TyVar Try.prog 4 false 1 := tv4
instance : TyZero Try.prog 4 false [.bool false] := TyZero.mk' (z := .bool false) (by kernel_rfl) rfl rfl
instance : TyConc Try.prog 4 := TyConc.mk' (d := (Try.prog.underlying 4).getD .bool) (by kernel_rfl) (by kernel_rfl)
instance : TyBool Try.prog 4 := ⟨by kernel_rfl⟩
theorem tv5 : TyVar Try.prog 5 false 1 := TyVar.mk' (d := (Try.prog.underlying 5).getD .bool) (by kernel_rfl) (by kernel_rfl) (by kernel_rfl)
instance : TyVar Try.prog 5 false 1 := tv5
instance : TyZero Try.prog 5 false [.int .u8 0] := TyZero.mk' (z := .int .u8 0) (by kernel_rfl) rfl rfl
instance : TyConc Try.prog 5 := TyConc.mk' (d := (Try.prog.underlying 5).getD .bool) (by kernel_rfl) (by kernel_rfl)
instance : TyInt Try.prog 5 .u8 := ⟨by kernel_rfl⟩
theorem tv9 : TyVar Try.prog 9 false 1 := TyVar.mk' (d := (Try.prog.underlying 9).getD .bool) (by kernel_rfl) (by kernel_rfl) (by kernel_rfl)
instance : TyVar Try.prog 9 false 1 := tv9
instance : TyZero Try.prog 9 false [.string ⟨#[]⟩] := TyZero.mk' (z := .string ⟨#[]⟩) (by kernel_rfl) rfl rfl
instance : TyConc Try.prog 9 := TyConc.mk' (d := (Try.prog.underlying 9).getD .bool) (by kernel_rfl) (by kernel_rfl)
instance : TyStr Try.prog 9 := ⟨by kernel_rfl⟩
theorem tv12 : TyVar Try.prog 12 false 1 := TyVar.mk' (d := (Try.prog.underlying 12).getD .bool) (by kernel_rfl) (by kernel_rfl) (by kernel_rfl)
instance : TyVar Try.prog 12 false 1 := tv12
instance : TyZero Try.prog 12 false [.int .u64 0] := TyZero.mk' (z := .int .u64 0) (by kernel_rfl) rfl rfl
instance : TyConc Try.prog 12 := TyConc.mk' (d := (Try.prog.underlying 12).getD .bool) (by kernel_rfl) (by kernel_rfl)
instance : TyInt Try.prog 12 .u64 := ⟨by kernel_rfl⟩
theorem tv20 : TyVar Try.prog 20 false 1 := TyVar.mk' (d := (Try.prog.underlying 20).getD .bool) (by kernel_rfl) (by kernel_rfl) (by kernel_rfl)
instance : TyVar Try.prog 20 false 1 := tv20
instance : TyZero Try.prog 20 false [.nilIface] := TyZero.mk' (z := .nilIface) (by kernel_rfl) rfl rfl
instance : TyIface Try.prog 20 := ⟨⟨_, (show Try.prog.underlying 20 = some ((Try.prog.underlying 20).getD .bool) by kernel_rfl).trans (by kernel_rfl : some ((Try.prog.underlying 20).getD .bool) = some (.interface #[]))⟩⟩
theorem tv21 : TyVar Try.prog 21 false 1 := TyVar.mk' (d := (Try.prog.underlying 21).getD .bool) (by kernel_rfl) (by kernel_rfl) (by kernel_rfl)
instance : TyVar Try.prog 21 false 1 := tv21
instance : TyZero Try.prog 21 false [.int .i32 0] := TyZero.mk' (z := .int .i32 0) (by kernel_rfl) rfl rfl
instance : TyConc Try.prog 21 := TyConc.mk' (d := (Try.prog.underlying 21).getD .bool) (by kernel_rfl) (by kernel_rfl)
instance : TyInt Try.prog 21 .i32 := ⟨by kernel_rfl⟩
theorem tv22 : TyVar Try.prog 22 false 1 := TyVar.mk' (d := (Try.prog.underlying 22).getD .bool) (by kernel_rfl) (by kernel_rfl) (by kernel_rfl)
instance : TyVar Try.prog 22 false 1 := tv22
instance : TyZero Try.prog 22 false [.slice none 0 0] := TyZero.mk' (z := .slice none 0 0) (by kernel_rfl) rfl rfl
instance : TyConc Try.prog 22 := TyConc.mk' (d := (Try.prog.underlying 22).getD .bool) (by kernel_rfl) (by kernel_rfl)
instance : TySl Try.prog 22 32 1 24 := TySl.mk' (z := .slice none 0 0) (by kernel_rfl) (by kernel_rfl) rfl (by decide)
theorem tv25 : TyVar Try.prog 25 false 1 := TyVar.mk' (d := (Try.prog.underlying 25).getD .bool) (by kernel_rfl) (by kernel_rfl) (by kernel_rfl)
instance : TyVar Try.prog 25 false 1 := tv25
instance : TyZero Try.prog 25 false [.pointer none] := TyZero.mk' (z := .pointer none) (by kernel_rfl) rfl rfl
instance : TyConc Try.prog 25 := TyConc.mk' (d := (Try.prog.underlying 25).getD .bool) (by kernel_rfl) (by kernel_rfl)
instance : TyPtr Try.prog 25 := ⟨⟨67, by kernel_rfl⟩⟩
theorem tv26 : TyVar Try.prog 26 false 1 := TyVar.mk' (d := (Try.prog.underlying 26).getD .bool) (by kernel_rfl) (by kernel_rfl) (by kernel_rfl)
instance : TyVar Try.prog 26 false 1 := tv26
instance : TyZero Try.prog 26 false [.int .i64 0] := TyZero.mk' (z := .int .i64 0) (by kernel_rfl) rfl rfl
instance : TyConc Try.prog 26 := TyConc.mk' (d := (Try.prog.underlying 26).getD .bool) (by kernel_rfl) (by kernel_rfl)
instance : TyInt Try.prog 26 .i64 := ⟨by kernel_rfl⟩
theorem tv29 : TyVar Try.prog 29 false 1 := TyVar.mk' (d := (Try.prog.underlying 29).getD .bool) (by kernel_rfl) (by kernel_rfl) (by kernel_rfl)
instance : TyVar Try.prog 29 false 1 := tv29
instance : TyZero Try.prog 29 false [.pointer none] := TyZero.mk' (z := .pointer none) (by kernel_rfl) rfl rfl
instance : TyConc Try.prog 29 := TyConc.mk' (d := (Try.prog.underlying 29).getD .bool) (by kernel_rfl) (by kernel_rfl)
instance : TyPtr Try.prog 29 := ⟨⟨71, by kernel_rfl⟩⟩
theorem tv31 : TyVar Try.prog 31 false 1 := TyVar.mk' (d := (Try.prog.underlying 31).getD .bool) (by kernel_rfl) (by kernel_rfl) (by kernel_rfl)
instance : TyVar Try.prog 31 false 1 := tv31
instance : TyZero Try.prog 31 false [.slice none 0 0] := TyZero.mk' (z := .slice none 0 0) (by kernel_rfl) rfl rfl
instance : TyConc Try.prog 31 := TyConc.mk' (d := (Try.prog.underlying 31).getD .bool) (by kernel_rfl) (by kernel_rfl)
instance : TySl Try.prog 31 34 2 32 := TySl.mk' (z := .agg #[.int .i64 0, .slice none 0 0]) (by kernel_rfl) (by kernel_rfl) rfl (by decide)
theorem tv32 : TyVar Try.prog 32 false 1 := TyVar.mk' (d := (Try.prog.underlying 32).getD .bool) (by kernel_rfl) (by kernel_rfl) (by kernel_rfl)
instance : TyVar Try.prog 32 false 1 := tv32
instance : TyZero Try.prog 32 false [.slice none 0 0] := TyZero.mk' (z := .slice none 0 0) (by kernel_rfl) rfl rfl
instance : TyConc Try.prog 32 := TyConc.mk' (d := (Try.prog.underlying 32).getD .bool) (by kernel_rfl) (by kernel_rfl)
instance : TySl Try.prog 32 5 1 1 := TySl.mk' (z := .int .u8 0) (by kernel_rfl) (by kernel_rfl) rfl (by decide)
theorem tv33 : TyVar Try.prog 33 true 2 := TyVar.mk' (d := (Try.prog.underlying 33).getD .bool) (by kernel_rfl) (by kernel_rfl) (by kernel_rfl)
instance : TyVar Try.prog 33 true 2 := tv33
instance : TyZero Try.prog 33 true [.int .i64 0, .slice none 0 0] := TyZero.mk' (z := .agg #[.int .i64 0, .slice none 0 0]) (by kernel_rfl) rfl rfl
instance : TyConc Try.prog 33 := TyConc.mk' (d := (Try.prog.underlying 33).getD .bool) (by kernel_rfl) (by kernel_rfl)
instance : TyFldS Try.prog 33 0 0 false 1 := TyFldS.mk' (ft := 3) (by kernel_rfl) (by kernel_rfl) (TyVar.mk' (d := (Try.prog.underlying 3).getD .bool) (by kernel_rfl) (by kernel_rfl) (by kernel_rfl)) (by decide)
instance : TyFldS Try.prog 33 1 1 false 1 := TyFldS.mk' (ft := 32) (by kernel_rfl) (by kernel_rfl) (TyVar.mk' (d := (Try.prog.underlying 32).getD .bool) (by kernel_rfl) (by kernel_rfl) (by kernel_rfl)) (by decide)
instance : TyPlaces Try.prog 33 [(0, 1), (1, 1)] := TyPlaces.mk' (by kernel_rfl) (fun w => by kernel_rfl)
theorem tv34 : TyVar Try.prog 34 true 2 := TyVar.mk' (d := (Try.prog.underlying 34).getD .bool) (by kernel_rfl) (by kernel_rfl) (by kernel_rfl)
instance : TyVar Try.prog 34 true 2 := tv34
instance : TyZero Try.prog 34 true [.int .i64 0, .slice none 0 0] := TyZero.mk' (z := .agg #[.int .i64 0, .slice none 0 0]) (by kernel_rfl) rfl rfl
instance : TyConc Try.prog 34 := TyConc.mk' (d := (Try.prog.underlying 34).getD .bool) (by kernel_rfl) (by kernel_rfl)
instance : TyFldS Try.prog 34 0 0 false 1 := TyFldS.mk' (ft := 3) (by kernel_rfl) (by kernel_rfl) (TyVar.mk' (d := (Try.prog.underlying 3).getD .bool) (by kernel_rfl) (by kernel_rfl) (by kernel_rfl)) (by decide)
instance : TyFldS Try.prog 34 1 1 false 1 := TyFldS.mk' (ft := 32) (by kernel_rfl) (by kernel_rfl) (TyVar.mk' (d := (Try.prog.underlying 32).getD .bool) (by kernel_rfl) (by kernel_rfl) (by kernel_rfl)) (by decide)
instance : TyPlaces Try.prog 34 [(0, 1), (1, 1)] := TyPlaces.mk' (by kernel_rfl) (fun w => by kernel_rfl)
theorem tv46 : TyVar Try.prog 46 false 1 := TyVar.mk' (d := (Try.prog.underlying 46).getD .bool) (by kernel_rfl) (by kernel_rfl) (by kernel_rfl)
instance : TyVar Try.prog 46 false 1 := tv46
instance : TyZero Try.prog 46 false [.pointer none] := TyZero.mk' (z := .pointer none) (by kernel_rfl) rfl rfl
instance : TyConc Try.prog 46 := TyConc.mk' (d := (Try.prog.underlying 46).getD .bool) (by kernel_rfl) (by kernel_rfl)
instance : TyPtr Try.prog 46 := ⟨⟨49, by kernel_rfl⟩⟩
theorem tv47 : TyVar Try.prog 47 false 1 := TyVar.mk' (d := (Try.prog.underlying 47).getD .bool) (by kernel_rfl) (by kernel_rfl) (by kernel_rfl)
instance : TyVar Try.prog 47 false 1 := tv47
instance : TyZero Try.prog 47 false [.slice none 0 0] := TyZero.mk' (z := .slice none 0 0) (by kernel_rfl) rfl rfl
instance : TyConc Try.prog 47 := TyConc.mk' (d := (Try.prog.underlying 47).getD .bool) (by kernel_rfl) (by kernel_rfl)
instance : TySl Try.prog 47 90 5 104 := TySl.mk' (z := .agg #[.int .i64 0, .slice none 0 0, .slice none 0 0, .slice none 0 0, .slice none 0 0]) (by kernel_rfl) (by kernel_rfl) rfl (by decide)
theorem tv48 : TyVar Try.prog 48 true 1 := TyVar.mk' (d := (Try.prog.underlying 48).getD .bool) (by kernel_rfl) (by kernel_rfl) (by kernel_rfl)
instance : TyVar Try.prog 48 true 1 := tv48
instance : TyZero Try.prog 48 true [.slice none 0 0] := TyZero.mk' (z := .agg #[.slice none 0 0]) (by kernel_rfl) rfl rfl
instance : TyConc Try.prog 48 := TyConc.mk' (d := (Try.prog.underlying 48).getD .bool) (by kernel_rfl) (by kernel_rfl)
instance : TyFldS Try.prog 48 0 0 false 1 := TyFldS.mk' (ft := 47) (by kernel_rfl) (by kernel_rfl) (TyVar.mk' (d := (Try.prog.underlying 47).getD .bool) (by kernel_rfl) (by kernel_rfl) (by kernel_rfl)) (by decide)
instance : TyPlaces Try.prog 48 [(0, 1)] := TyPlaces.mk' (by kernel_rfl) (fun w => by kernel_rfl)
theorem tv49 : TyVar Try.prog 49 true 1 := TyVar.mk' (d := (Try.prog.underlying 49).getD .bool) (by kernel_rfl) (by kernel_rfl) (by kernel_rfl)
instance : TyVar Try.prog 49 true 1 := tv49
instance : TyZero Try.prog 49 true [.slice none 0 0] := TyZero.mk' (z := .agg #[.slice none 0 0]) (by kernel_rfl) rfl rfl
instance : TyConc Try.prog 49 := TyConc.mk' (d := (Try.prog.underlying 49).getD .bool) (by kernel_rfl) (by kernel_rfl)
instance : TyFldS Try.prog 49 0 0 false 1 := TyFldS.mk' (ft := 47) (by kernel_rfl) (by kernel_rfl) (TyVar.mk' (d := (Try.prog.underlying 47).getD .bool) (by kernel_rfl) (by kernel_rfl) (by kernel_rfl)) (by decide)
instance : TyPlaces Try.prog 49 [(0, 1)] := TyPlaces.mk' (by kernel_rfl) (fun w => by kernel_rfl)
theorem tv50 : TyVar Try.prog 50 false 1 := TyVar.mk' (d := (Try.prog.underlying 50).getD .bool) (by kernel_rfl) (by kernel_rfl) (by kernel_rfl)
instance : TyVar Try.prog 50 false 1 := tv50
instance : TyZero Try.prog 50 false [.pointer none] := TyZero.mk' (z := .pointer none) (by kernel_rfl) rfl rfl
instance : TyConc Try.prog 50 := TyConc.mk' (d := (Try.prog.underlying 50).getD .bool) (by kernel_rfl) (by kernel_rfl)
instance : TyPtr Try.prog 50 := ⟨⟨54, by kernel_rfl⟩⟩
theorem tv53 : TyVar Try.prog 53 true 2 := TyVar.mk' (d := (Try.prog.underlying 53).getD .bool) (by kernel_rfl) (by kernel_rfl) (by kernel_rfl)
instance : TyVar Try.prog 53 true 2 := tv53
instance : TyZero Try.prog 53 true [.slice none 0 0, .slice none 0 0] := TyZero.mk' (z := .agg #[.slice none 0 0, .slice none 0 0]) (by kernel_rfl) rfl rfl
instance : TyConc Try.prog 53 := TyConc.mk' (d := (Try.prog.underlying 53).getD .bool) (by kernel_rfl) (by kernel_rfl)
instance : TyFldS Try.prog 53 0 0 false 1 := TyFldS.mk' (ft := 22) (by kernel_rfl) (by kernel_rfl) (TyVar.mk' (d := (Try.prog.underlying 22).getD .bool) (by kernel_rfl) (by kernel_rfl) (by kernel_rfl)) (by decide)
instance : TyFldS Try.prog 53 1 1 false 1 := TyFldS.mk' (ft := 22) (by kernel_rfl) (by kernel_rfl) (TyVar.mk' (d := (Try.prog.underlying 22).getD .bool) (by kernel_rfl) (by kernel_rfl) (by kernel_rfl)) (by decide)
instance : TyPlaces Try.prog 53 [(0, 1), (1, 1)] := TyPlaces.mk' (by kernel_rfl) (fun w => by kernel_rfl)
theorem tv54 : TyVar Try.prog 54 true 2 := TyVar.mk' (d := (Try.prog.underlying 54).getD .bool) (by kernel_rfl) (by kernel_rfl) (by kernel_rfl)
instance : TyVar Try.prog 54 true 2 := tv54
instance : TyZero Try.prog 54 true [.slice none 0 0, .slice none 0 0] := TyZero.mk' (z := .agg #[.slice none 0 0, .slice none 0 0]) (by kernel_rfl) rfl rfl
instance : TyConc Try.prog 54 := TyConc.mk' (d := (Try.prog.underlying 54).getD .bool) (by kernel_rfl) (by kernel_rfl)
instance : TyFldS Try.prog 54 0 0 false 1 := TyFldS.mk' (ft := 22) (by kernel_rfl) (by kernel_rfl) (TyVar.mk' (d := (Try.prog.underlying 22).getD .bool) (by kernel_rfl) (by kernel_rfl) (by kernel_rfl)) (by decide)
instance : TyFldS Try.prog 54 1 1 false 1 := TyFldS.mk' (ft := 22) (by kernel_rfl) (by kernel_rfl) (TyVar.mk' (d := (Try.prog.underlying 22).getD .bool) (by kernel_rfl) (by kernel_rfl) (by kernel_rfl)) (by decide)
instance : TyPlaces Try.prog 54 [(0, 1), (1, 1)] := TyPlaces.mk' (by kernel_rfl) (fun w => by kernel_rfl)
theorem tv61 : TyVar Try.prog 61 false 1 := TyVar.mk' (d := (Try.prog.underlying 61).getD .bool) (by kernel_rfl) (by kernel_rfl) (by kernel_rfl)
instance : TyVar Try.prog 61 false 1 := tv61
instance : TyZero Try.prog 61 false [.slice none 0 0] := TyZero.mk' (z := .slice none 0 0) (by kernel_rfl) rfl rfl
instance : TyConc Try.prog 61 := TyConc.mk' (d := (Try.prog.underlying 61).getD .bool) (by kernel_rfl) (by kernel_rfl)
instance : TySl Try.prog 61 9 1 16 := TySl.mk' (z := .string ⟨#[]⟩) (by kernel_rfl) (by kernel_rfl) rfl (by decide)
theorem tv62 : TyVar Try.prog 62 false 1 := TyVar.mk' (d := (Try.prog.underlying 62).getD .bool) (by kernel_rfl) (by kernel_rfl) (by kernel_rfl)
instance : TyVar Try.prog 62 false 1 := tv62
instance : TyZero Try.prog 62 false [.slice none 0 0] := TyZero.mk' (z := .slice none 0 0) (by kernel_rfl) rfl rfl
instance : TyConc Try.prog 62 := TyConc.mk' (d := (Try.prog.underlying 62).getD .bool) (by kernel_rfl) (by kernel_rfl)
instance : TySl Try.prog 62 25 1 8 := TySl.mk' (z := .pointer none) (by kernel_rfl) (by kernel_rfl) rfl (by decide)
theorem tv66 : TyVar Try.prog 66 true 3 := TyVar.mk' (d := (Try.prog.underlying 66).getD .bool) (by kernel_rfl) (by kernel_rfl) (by kernel_rfl)
instance : TyVar Try.prog 66 true 3 := tv66
instance : TyZero Try.prog 66 true [.pointer none, .slice none 0 0, .slice none 0 0] := TyZero.mk' (z := .agg #[.pointer none, .slice none 0 0, .slice none 0 0]) (by kernel_rfl) rfl rfl
instance : TyConc Try.prog 66 := TyConc.mk' (d := (Try.prog.underlying 66).getD .bool) (by kernel_rfl) (by kernel_rfl)
instance : TyFldS Try.prog 66 0 0 false 1 := TyFldS.mk' (ft := 29) (by kernel_rfl) (by kernel_rfl) (TyVar.mk' (d := (Try.prog.underlying 29).getD .bool) (by kernel_rfl) (by kernel_rfl) (by kernel_rfl)) (by decide)
instance : TyFldS Try.prog 66 1 1 false 1 := TyFldS.mk' (ft := 22) (by kernel_rfl) (by kernel_rfl) (TyVar.mk' (d := (Try.prog.underlying 22).getD .bool) (by kernel_rfl) (by kernel_rfl) (by kernel_rfl)) (by decide)
instance : TyFldS Try.prog 66 2 2 false 1 := TyFldS.mk' (ft := 22) (by kernel_rfl) (by kernel_rfl) (TyVar.mk' (d := (Try.prog.underlying 22).getD .bool) (by kernel_rfl) (by kernel_rfl) (by kernel_rfl)) (by decide)
instance : TyPlaces Try.prog 66 [(0, 1), (1, 1), (2, 1)] := TyPlaces.mk' (by kernel_rfl) (fun w => by kernel_rfl)
theorem tv67 : TyVar Try.prog 67 true 3 := TyVar.mk' (d := (Try.prog.underlying 67).getD .bool) (by kernel_rfl) (by kernel_rfl) (by kernel_rfl)
instance : TyVar Try.prog 67 true 3 := tv67
instance : TyZero Try.prog 67 true [.pointer none, .slice none 0 0, .slice none 0 0] := TyZero.mk' (z := .agg #[.pointer none, .slice none 0 0, .slice none 0 0]) (by kernel_rfl) rfl rfl
instance : TyConc Try.prog 67 := TyConc.mk' (d := (Try.prog.underlying 67).getD .bool) (by kernel_rfl) (by kernel_rfl)
instance : TyFldS Try.prog 67 0 0 false 1 := TyFldS.mk' (ft := 29) (by kernel_rfl) (by kernel_rfl) (TyVar.mk' (d := (Try.prog.underlying 29).getD .bool) (by kernel_rfl) (by kernel_rfl) (by kernel_rfl)) (by decide)
instance : TyFldS Try.prog 67 1 1 false 1 := TyFldS.mk' (ft := 22) (by kernel_rfl) (by kernel_rfl) (TyVar.mk' (d := (Try.prog.underlying 22).getD .bool) (by kernel_rfl) (by kernel_rfl) (by kernel_rfl)) (by decide)
instance : TyFldS Try.prog 67 2 2 false 1 := TyFldS.mk' (ft := 22) (by kernel_rfl) (by kernel_rfl) (TyVar.mk' (d := (Try.prog.underlying 22).getD .bool) (by kernel_rfl) (by kernel_rfl) (by kernel_rfl)) (by decide)
instance : TyPlaces Try.prog 67 [(0, 1), (1, 1), (2, 1)] := TyPlaces.mk' (by kernel_rfl) (fun w => by kernel_rfl)
theorem tv68 : TyVar Try.prog 68 false 1 := TyVar.mk' (d := (Try.prog.underlying 68).getD .bool) (by kernel_rfl) (by kernel_rfl) (by kernel_rfl)
instance : TyVar Try.prog 68 false 1 := tv68
instance : TyZero Try.prog 68 false [.map none] := TyZero.mk' (z := .map none) (by kernel_rfl) rfl rfl
instance : TyConc Try.prog 68 := TyConc.mk' (d := (Try.prog.underlying 68).getD .bool) (by kernel_rfl) (by kernel_rfl)
instance : TyMap Try.prog 68 84 3 := ⟨by kernel_rfl⟩
theorem tv69 : TyVar Try.prog 69 false 1 := TyVar.mk' (d := (Try.prog.underlying 69).getD .bool) (by kernel_rfl) (by kernel_rfl) (by kernel_rfl)
instance : TyVar Try.prog 69 false 1 := tv69
instance : TyZero Try.prog 69 false [.slice none 0 0] := TyZero.mk' (z := .slice none 0 0) (by kernel_rfl) rfl rfl
instance : TyConc Try.prog 69 := TyConc.mk' (d := (Try.prog.underlying 69).getD .bool) (by kernel_rfl) (by kernel_rfl)
instance : TySl Try.prog 69 84 5 72 := TySl.mk' (z := .agg #[.int .u8 0, .string ⟨#[]⟩, .string ⟨#[]⟩, .string ⟨#[]⟩, .string ⟨#[]⟩]) (by kernel_rfl) (by kernel_rfl) rfl (by decide)
theorem tv70 : TyVar Try.prog 70 true 5 := TyVar.mk' (d := (Try.prog.underlying 70).getD .bool) (by kernel_rfl) (by kernel_rfl) (by kernel_rfl)
instance : TyVar Try.prog 70 true 5 := tv70
instance : TyZero Try.prog 70 true [.bool false, .slice none 0 0, .int .i64 0, .slice none 0 0, .map none] := TyZero.mk' (z := .agg #[.bool false, .slice none 0 0, .int .i64 0, .slice none 0 0, .map none]) (by kernel_rfl) rfl rfl
instance : TyConc Try.prog 70 := TyConc.mk' (d := (Try.prog.underlying 70).getD .bool) (by kernel_rfl) (by kernel_rfl)
instance : TyFldS Try.prog 70 0 0 false 1 := TyFldS.mk' (ft := 4) (by kernel_rfl) (by kernel_rfl) (TyVar.mk' (d := (Try.prog.underlying 4).getD .bool) (by kernel_rfl) (by kernel_rfl) (by kernel_rfl)) (by decide)
instance : TyFldS Try.prog 70 1 1 false 1 := TyFldS.mk' (ft := 32) (by kernel_rfl) (by kernel_rfl) (TyVar.mk' (d := (Try.prog.underlying 32).getD .bool) (by kernel_rfl) (by kernel_rfl) (by kernel_rfl)) (by decide)
instance : TyFldS Try.prog 70 2 2 false 1 := TyFldS.mk' (ft := 3) (by kernel_rfl) (by kernel_rfl) (TyVar.mk' (d := (Try.prog.underlying 3).getD .bool) (by kernel_rfl) (by kernel_rfl) (by kernel_rfl)) (by decide)
instance : TyFldS Try.prog 70 3 3 false 1 := TyFldS.mk' (ft := 69) (by kernel_rfl) (by kernel_rfl) (TyVar.mk' (d := (Try.prog.underlying 69).getD .bool) (by kernel_rfl) (by kernel_rfl) (by kernel_rfl)) (by decide)
instance : TyFldS Try.prog 70 4 4 false 1 := TyFldS.mk' (ft := 68) (by kernel_rfl) (by kernel_rfl) (TyVar.mk' (d := (Try.prog.underlying 68).getD .bool) (by kernel_rfl) (by kernel_rfl) (by kernel_rfl)) (by decide)
instance : TyPlaces Try.prog 70 [(0, 1), (1, 1), (2, 1), (3, 1), (4, 1)] := TyPlaces.mk' (by kernel_rfl) (fun w => by kernel_rfl)
theorem tv71 : TyVar Try.prog 71 true 5 := TyVar.mk' (d := (Try.prog.underlying 71).getD .bool) (by kernel_rfl) (by kernel_rfl) (by kernel_rfl)
instance : TyVar Try.prog 71 true 5 := tv71
instance : TyZero Try.prog 71 true [.bool false, .slice none 0 0, .int .i64 0, .slice none 0 0, .map none] := TyZero.mk' (z := .agg #[.bool false, .slice none 0 0, .int .i64 0, .slice none 0 0, .map none]) (by kernel_rfl) rfl rfl
instance : TyConc Try.prog 71 := TyConc.mk' (d := (Try.prog.underlying 71).getD .bool) (by kernel_rfl) (by kernel_rfl)
instance : TyFldS Try.prog 71 0 0 false 1 := TyFldS.mk' (ft := 4) (by kernel_rfl) (by kernel_rfl) (TyVar.mk' (d := (Try.prog.underlying 4).getD .bool) (by kernel_rfl) (by kernel_rfl) (by kernel_rfl)) (by decide)
instance : TyFldS Try.prog 71 1 1 false 1 := TyFldS.mk' (ft := 32) (by kernel_rfl) (by kernel_rfl) (TyVar.mk' (d := (Try.prog.underlying 32).getD .bool) (by kernel_rfl) (by kernel_rfl) (by kernel_rfl)) (by decide)
instance : TyFldS Try.prog 71 2 2 false 1 := TyFldS.mk' (ft := 3) (by kernel_rfl) (by kernel_rfl) (TyVar.mk' (d := (Try.prog.underlying 3).getD .bool) (by kernel_rfl) (by kernel_rfl) (by kernel_rfl)) (by decide)
instance : TyFldS Try.prog 71 3 3 false 1 := TyFldS.mk' (ft := 69) (by kernel_rfl) (by kernel_rfl) (TyVar.mk' (d := (Try.prog.underlying 69).getD .bool) (by kernel_rfl) (by kernel_rfl) (by kernel_rfl)) (by decide)
instance : TyFldS Try.prog 71 4 4 false 1 := TyFldS.mk' (ft := 68) (by kernel_rfl) (by kernel_rfl) (TyVar.mk' (d := (Try.prog.underlying 68).getD .bool) (by kernel_rfl) (by kernel_rfl) (by kernel_rfl)) (by decide)
instance : TyPlaces Try.prog 71 [(0, 1), (1, 1), (2, 1), (3, 1), (4, 1)] := TyPlaces.mk' (by kernel_rfl) (fun w => by kernel_rfl)
theorem tv73 : TyVar Try.prog 73 false 1 := TyVar.mk' (d := (Try.prog.underlying 73).getD .bool) (by kernel_rfl) (by kernel_rfl) (by kernel_rfl)
instance : TyVar Try.prog 73 false 1 := tv73
instance : TyZero Try.prog 73 false [.slice none 0 0] := TyZero.mk' (z := .slice none 0 0) (by kernel_rfl) rfl rfl
instance : TyConc Try.prog 73 := TyConc.mk' (d := (Try.prog.underlying 73).getD .bool) (by kernel_rfl) (by kernel_rfl)
instance : TySl Try.prog 73 3 1 8 := TySl.mk' (z := .int .i64 0) (by kernel_rfl) (by kernel_rfl) rfl (by decide)
theorem tv78 : TyVar Try.prog 78 false 1 := TyVar.mk' (d := (Try.prog.underlying 78).getD .bool) (by kernel_rfl) (by kernel_rfl) (by kernel_rfl)
instance : TyVar Try.prog 78 false 1 := tv78
instance : TyZero Try.prog 78 false [.slice none 0 0] := TyZero.mk' (z := .slice none 0 0) (by kernel_rfl) rfl rfl
instance : TyConc Try.prog 78 := TyConc.mk' (d := (Try.prog.underlying 78).getD .bool) (by kernel_rfl) (by kernel_rfl)
instance : TySl Try.prog 78 20 1 16 := TySl.mk' (z := .nilIface) (by kernel_rfl) (by kernel_rfl) rfl (by decide)
theorem tv83 : TyVar Try.prog 83 true 5 := TyVar.mk' (d := (Try.prog.underlying 83).getD .bool) (by kernel_rfl) (by kernel_rfl) (by kernel_rfl)
instance : TyVar Try.prog 83 true 5 := tv83
instance : TyZero Try.prog 83 true [.int .u8 0, .string ⟨#[]⟩, .string ⟨#[]⟩, .string ⟨#[]⟩, .string ⟨#[]⟩] := TyZero.mk' (z := .agg #[.int .u8 0, .string ⟨#[]⟩, .string ⟨#[]⟩, .string ⟨#[]⟩, .string ⟨#[]⟩]) (by kernel_rfl) rfl rfl
instance : TyConc Try.prog 83 := TyConc.mk' (d := (Try.prog.underlying 83).getD .bool) (by kernel_rfl) (by kernel_rfl)
instance : TyFldS Try.prog 83 0 0 false 1 := TyFldS.mk' (ft := 5) (by kernel_rfl) (by kernel_rfl) (TyVar.mk' (d := (Try.prog.underlying 5).getD .bool) (by kernel_rfl) (by kernel_rfl) (by kernel_rfl)) (by decide)
instance : TyFldS Try.prog 83 1 1 false 1 := TyFldS.mk' (ft := 9) (by kernel_rfl) (by kernel_rfl) (TyVar.mk' (d := (Try.prog.underlying 9).getD .bool) (by kernel_rfl) (by kernel_rfl) (by kernel_rfl)) (by decide)
instance : TyFldS Try.prog 83 2 2 false 1 := TyFldS.mk' (ft := 9) (by kernel_rfl) (by kernel_rfl) (TyVar.mk' (d := (Try.prog.underlying 9).getD .bool) (by kernel_rfl) (by kernel_rfl) (by kernel_rfl)) (by decide)
instance : TyFldS Try.prog 83 3 3 false 1 := TyFldS.mk' (ft := 9) (by kernel_rfl) (by kernel_rfl) (TyVar.mk' (d := (Try.prog.underlying 9).getD .bool) (by kernel_rfl) (by kernel_rfl) (by kernel_rfl)) (by decide)
instance : TyFldS Try.prog 83 4 4 false 1 := TyFldS.mk' (ft := 9) (by kernel_rfl) (by kernel_rfl) (TyVar.mk' (d := (Try.prog.underlying 9).getD .bool) (by kernel_rfl) (by kernel_rfl) (by kernel_rfl)) (by decide)
instance : TyPlaces Try.prog 83 [(0, 1), (1, 1), (2, 1), (3, 1), (4, 1)] := TyPlaces.mk' (by kernel_rfl) (fun w => by kernel_rfl)
theorem tv84 : TyVar Try.prog 84 true 5 := TyVar.mk' (d := (Try.prog.underlying 84).getD .bool) (by kernel_rfl) (by kernel_rfl) (by kernel_rfl)
instance : TyVar Try.prog 84 true 5 := tv84
instance : TyZero Try.prog 84 true [.int .u8 0, .string ⟨#[]⟩, .string ⟨#[]⟩, .string ⟨#[]⟩, .string ⟨#[]⟩] := TyZero.mk' (z := .agg #[.int .u8 0, .string ⟨#[]⟩, .string ⟨#[]⟩, .string ⟨#[]⟩, .string ⟨#[]⟩]) (by kernel_rfl) rfl rfl
instance : TyConc Try.prog 84 := TyConc.mk' (d := (Try.prog.underlying 84).getD .bool) (by kernel_rfl) (by kernel_rfl)
instance : TyFldS Try.prog 84 0 0 false 1 := TyFldS.mk' (ft := 5) (by kernel_rfl) (by kernel_rfl) (TyVar.mk' (d := (Try.prog.underlying 5).getD .bool) (by kernel_rfl) (by kernel_rfl) (by kernel_rfl)) (by decide)
instance : TyFldS Try.prog 84 1 1 false 1 := TyFldS.mk' (ft := 9) (by kernel_rfl) (by kernel_rfl) (TyVar.mk' (d := (Try.prog.underlying 9).getD .bool) (by kernel_rfl) (by kernel_rfl) (by kernel_rfl)) (by decide)
instance : TyFldS Try.prog 84 2 2 false 1 := TyFldS.mk' (ft := 9) (by kernel_rfl) (by kernel_rfl) (TyVar.mk' (d := (Try.prog.underlying 9).getD .bool) (by kernel_rfl) (by kernel_rfl) (by kernel_rfl)) (by decide)
instance : TyFldS Try.prog 84 3 3 false 1 := TyFldS.mk' (ft := 9) (by kernel_rfl) (by kernel_rfl) (TyVar.mk' (d := (Try.prog.underlying 9).getD .bool) (by kernel_rfl) (by kernel_rfl) (by kernel_rfl)) (by decide)
instance : TyFldS Try.prog 84 4 4 false 1 := TyFldS.mk' (ft := 9) (by kernel_rfl) (by kernel_rfl) (TyVar.mk' (d := (Try.prog.underlying 9).getD .bool) (by kernel_rfl) (by kernel_rfl) (by kernel_rfl)) (by decide)
instance : TyPlaces Try.prog 84 [(0, 1), (1, 1), (2, 1), (3, 1), (4, 1)] := TyPlaces.mk' (by kernel_rfl) (fun w => by kernel_rfl)
theorem tv89 : TyVar Try.prog 89 true 5 := TyVar.mk' (d := (Try.prog.underlying 89).getD .bool) (by kernel_rfl) (by kernel_rfl) (by kernel_rfl)
instance : TyVar Try.prog 89 true 5 := tv89
instance : TyZero Try.prog 89 true [.int .i64 0, .slice none 0 0, .slice none 0 0, .slice none 0 0, .slice none 0 0] := TyZero.mk' (z := .agg #[.int .i64 0, .slice none 0 0, .slice none 0 0, .slice none 0 0, .slice none 0 0]) (by kernel_rfl) rfl rfl
instance : TyConc Try.prog 89 := TyConc.mk' (d := (Try.prog.underlying 89).getD .bool) (by kernel_rfl) (by kernel_rfl)
instance : TyFldS Try.prog 89 0 0 false 1 := TyFldS.mk' (ft := 3) (by kernel_rfl) (by kernel_rfl) (TyVar.mk' (d := (Try.prog.underlying 3).getD .bool) (by kernel_rfl) (by kernel_rfl) (by kernel_rfl)) (by decide)
instance : TyFldS Try.prog 89 1 1 false 1 := TyFldS.mk' (ft := 32) (by kernel_rfl) (by kernel_rfl) (TyVar.mk' (d := (Try.prog.underlying 32).getD .bool) (by kernel_rfl) (by kernel_rfl) (by kernel_rfl)) (by decide)
instance : TyFldS Try.prog 89 2 2 false 1 := TyFldS.mk' (ft := 32) (by kernel_rfl) (by kernel_rfl) (TyVar.mk' (d := (Try.prog.underlying 32).getD .bool) (by kernel_rfl) (by kernel_rfl) (by kernel_rfl)) (by decide)
instance : TyFldS Try.prog 89 3 3 false 1 := TyFldS.mk' (ft := 32) (by kernel_rfl) (by kernel_rfl) (TyVar.mk' (d := (Try.prog.underlying 32).getD .bool) (by kernel_rfl) (by kernel_rfl) (by kernel_rfl)) (by decide)
instance : TyFldS Try.prog 89 4 4 false 1 := TyFldS.mk' (ft := 32) (by kernel_rfl) (by kernel_rfl) (TyVar.mk' (d := (Try.prog.underlying 32).getD .bool) (by kernel_rfl) (by kernel_rfl) (by kernel_rfl)) (by decide)
instance : TyPlaces Try.prog 89 [(0, 1), (1, 1), (2, 1), (3, 1), (4, 1)] := TyPlaces.mk' (by kernel_rfl) (fun w => by kernel_rfl)
theorem tv90 : TyVar Try.prog 90 true 5 := TyVar.mk' (d := (Try.prog.underlying 90).getD .bool) (by kernel_rfl) (by kernel_rfl) (by kernel_rfl)
instance : TyVar Try.prog 90 true 5 := tv90
instance : TyZero Try.prog 90 true [.int .i64 0, .slice none 0 0, .slice none 0 0, .slice none 0 0, .slice none 0 0] := TyZero.mk' (z := .agg #[.int .i64 0, .slice none 0 0, .slice none 0 0, .slice none 0 0, .slice none 0 0]) (by kernel_rfl) rfl rfl
instance : TyConc Try.prog 90 := TyConc.mk' (d := (Try.prog.underlying 90).getD .bool) (by kernel_rfl) (by kernel_rfl)
instance : TyFldS Try.prog 90 0 0 false 1 := TyFldS.mk' (ft := 3) (by kernel_rfl) (by kernel_rfl) (TyVar.mk' (d := (Try.prog.underlying 3).getD .bool) (by kernel_rfl) (by kernel_rfl) (by kernel_rfl)) (by decide)
instance : TyFldS Try.prog 90 1 1 false 1 := TyFldS.mk' (ft := 32) (by kernel_rfl) (by kernel_rfl) (TyVar.mk' (d := (Try.prog.underlying 32).getD .bool) (by kernel_rfl) (by kernel_rfl) (by kernel_rfl)) (by decide)
instance : TyFldS Try.prog 90 2 2 false 1 := TyFldS.mk' (ft := 32) (by kernel_rfl) (by kernel_rfl) (TyVar.mk' (d := (Try.prog.underlying 32).getD .bool) (by kernel_rfl) (by kernel_rfl) (by kernel_rfl)) (by decide)
instance : TyFldS Try.prog 90 3 3 false 1 := TyFldS.mk' (ft := 32) (by kernel_rfl) (by kernel_rfl) (TyVar.mk' (d := (Try.prog.underlying 32).getD .bool) (by kernel_rfl) (by kernel_rfl) (by kernel_rfl)) (by decide)
instance : TyFldS Try.prog 90 4 4 false 1 := TyFldS.mk' (ft := 32) (by kernel_rfl) (by kernel_rfl) (TyVar.mk' (d := (Try.prog.underlying 32).getD .bool) (by kernel_rfl) (by kernel_rfl) (by kernel_rfl)) (by decide)
instance : TyPlaces Try.prog 90 [(0, 1), (1, 1), (2, 1), (3, 1), (4, 1)] := TyPlaces.mk' (by kernel_rfl) (fun w => by kernel_rfl)
theorem tv93 : TyVar Try.prog 93 false 1 := TyVar.mk' (d := (Try.prog.underlying 93).getD .bool) (by kernel_rfl) (by kernel_rfl) (by kernel_rfl)
instance : TyVar Try.prog 93 false 1 := tv93
instance : TyZero Try.prog 93 false [.pointer none] := TyZero.mk' (z := .pointer none) (by kernel_rfl) rfl rfl
instance : TyConc Try.prog 93 := TyConc.mk' (d := (Try.prog.underlying 93).getD .bool) (by kernel_rfl) (by kernel_rfl)
instance : TyPtr Try.prog 93 := ⟨⟨105, by kernel_rfl⟩⟩
theorem tv101 : TyVar Try.prog 101 false 1 := TyVar.mk' (d := (Try.prog.underlying 101).getD .bool) (by kernel_rfl) (by kernel_rfl) (by kernel_rfl)
instance : TyVar Try.prog 101 false 1 := tv101
instance : TyZero Try.prog 101 false [.int .u64 0] := TyZero.mk' (z := .int .u64 0) (by kernel_rfl) rfl rfl
instance : TyConc Try.prog 101 := TyConc.mk' (d := (Try.prog.underlying 101).getD .bool) (by kernel_rfl) (by kernel_rfl)
instance : TyInt Try.prog 101 .u64 := ⟨by kernel_rfl⟩
theorem tv102 : TyVar Try.prog 102 false 1 := TyVar.mk' (d := (Try.prog.underlying 102).getD .bool) (by kernel_rfl) (by kernel_rfl) (by kernel_rfl)
instance : TyVar Try.prog 102 false 1 := tv102
instance : TyZero Try.prog 102 false [.int .u32 0] := TyZero.mk' (z := .int .u32 0) (by kernel_rfl) rfl rfl
instance : TyConc Try.prog 102 := TyConc.mk' (d := (Try.prog.underlying 102).getD .bool) (by kernel_rfl) (by kernel_rfl)
instance : TyInt Try.prog 102 .u32 := ⟨by kernel_rfl⟩
theorem tv103 : TyVar Try.prog 103 true 8 := TyVar.mk' (d := (Try.prog.underlying 103).getD .bool) (by kernel_rfl) (by kernel_rfl) (by kernel_rfl)
instance : TyVar Try.prog 103 true 8 := tv103
instance : TyZero Try.prog 103 true [.int .u32 0, .int .u32 0, .int .u32 0, .int .u32 0, .int .u32 0, .int .u32 0, .int .u32 0, .int .u32 0] := TyZero.mk' (z := .agg #[.int .u32 0, .int .u32 0, .int .u32 0, .int .u32 0, .int .u32 0, .int .u32 0, .int .u32 0, .int .u32 0]) (by kernel_rfl) rfl rfl
instance : TyConc Try.prog 103 := TyConc.mk' (d := (Try.prog.underlying 103).getD .bool) (by kernel_rfl) (by kernel_rfl)
instance : TyArr Try.prog 103 8 102 := ⟨by kernel_rfl⟩
theorem tv104 : TyVar Try.prog 104 true 10 := TyVar.mk' (d := (Try.prog.underlying 104).getD .bool) (by kernel_rfl) (by kernel_rfl) (by kernel_rfl)
instance : TyVar Try.prog 104 true 10 := tv104
instance : TyZero Try.prog 104 true [.int .u32 0, .int .u32 0, .int .u32 0, .int .u32 0, .int .u32 0, .int .u32 0, .int .u32 0, .int .u32 0, .slice none 0 0, .int .i64 0] := TyZero.mk' (z := .agg #[.int .u32 0, .int .u32 0, .int .u32 0, .int .u32 0, .int .u32 0, .int .u32 0, .int .u32 0, .int .u32 0, .slice none 0 0, .int .i64 0]) (by kernel_rfl) rfl rfl
instance : TyConc Try.prog 104 := TyConc.mk' (d := (Try.prog.underlying 104).getD .bool) (by kernel_rfl) (by kernel_rfl)
instance : TyFldS Try.prog 104 0 0 true 8 := TyFldS.mk' (ft := 103) (by kernel_rfl) (by kernel_rfl) (TyVar.mk' (d := (Try.prog.underlying 103).getD .bool) (by kernel_rfl) (by kernel_rfl) (by kernel_rfl)) (by decide)
instance : TyFldS Try.prog 104 1 8 false 1 := TyFldS.mk' (ft := 32) (by kernel_rfl) (by kernel_rfl) (TyVar.mk' (d := (Try.prog.underlying 32).getD .bool) (by kernel_rfl) (by kernel_rfl) (by kernel_rfl)) (by decide)
instance : TyFldS Try.prog 104 2 9 false 1 := TyFldS.mk' (ft := 3) (by kernel_rfl) (by kernel_rfl) (TyVar.mk' (d := (Try.prog.underlying 3).getD .bool) (by kernel_rfl) (by kernel_rfl) (by kernel_rfl)) (by decide)
instance : TyPlaces Try.prog 104 [(0, 8), (8, 1), (9, 1)] := TyPlaces.mk' (by kernel_rfl) (fun w => by kernel_rfl)
theorem tv105 : TyVar Try.prog 105 true 10 := TyVar.mk' (d := (Try.prog.underlying 105).getD .bool) (by kernel_rfl) (by kernel_rfl) (by kernel_rfl)
instance : TyVar Try.prog 105 true 10 := tv105
instance : TyZero Try.prog 105 true [.int .u32 0, .int .u32 0, .int .u32 0, .int .u32 0, .int .u32 0, .int .u32 0, .int .u32 0, .int .u32 0, .slice none 0 0, .int .i64 0] := TyZero.mk' (z := .agg #[.int .u32 0, .int .u32 0, .int .u32 0, .int .u32 0, .int .u32 0, .int .u32 0, .int .u32 0, .int .u32 0, .slice none 0 0, .int .i64 0]) (by kernel_rfl) rfl rfl
instance : TyConc Try.prog 105 := TyConc.mk' (d := (Try.prog.underlying 105).getD .bool) (by kernel_rfl) (by kernel_rfl)
instance : TyFldS Try.prog 105 0 0 true 8 := TyFldS.mk' (ft := 103) (by kernel_rfl) (by kernel_rfl) (TyVar.mk' (d := (Try.prog.underlying 103).getD .bool) (by kernel_rfl) (by kernel_rfl) (by kernel_rfl)) (by decide)
instance : TyFldS Try.prog 105 1 8 false 1 := TyFldS.mk' (ft := 32) (by kernel_rfl) (by kernel_rfl) (TyVar.mk' (d := (Try.prog.underlying 32).getD .bool) (by kernel_rfl) (by kernel_rfl) (by kernel_rfl)) (by decide)
instance : TyFldS Try.prog 105 2 9 false 1 := TyFldS.mk' (ft := 3) (by kernel_rfl) (by kernel_rfl) (TyVar.mk' (d := (Try.prog.underlying 3).getD .bool) (by kernel_rfl) (by kernel_rfl) (by kernel_rfl)) (by decide)
instance : TyPlaces Try.prog 105 [(0, 8), (8, 1), (9, 1)] := TyPlaces.mk' (by kernel_rfl) (fun w => by kernel_rfl)
theorem tv107 : TyVar Try.prog 107 true 64 := TyVar.mk' (d := (Try.prog.underlying 107).getD .bool) (by kernel_rfl) (by kernel_rfl) (by kernel_rfl)
instance : TyVar Try.prog 107 true 64 := tv107
instance : TyZero Try.prog 107 true [.int .u32 0, .int .u32 0, .int .u32 0, .int .u32 0, .int .u32 0, .int .u32 0, .int .u32 0, .int .u32 0, .int .u32 0, .int .u32 0, .int .u32 0, .int .u32 0, .int .u32 0, .int .u32 0, .int .u32 0, .int .u32 0, .int .u32 0, .int .u32 0, .int .u32 0, .int .u32 0, .int .u32 0, .int .u32 0, .int .u32 0, .int .u32 0, .int .u32 0, .int .u32 0, .int .u32 0, .int .u32 0, .int .u32 0, .int .u32 0, .int .u32 0, .int .u32 0, .int .u32 0, .int .u32 0, .int .u32 0, .int .u32 0, .int .u32 0, .int .u32 0, .int .u32 0, .int .u32 0, .int .u32 0, .int .u32 0, .int .u32 0, .int .u32 0, .int .u32 0, .int .u32 0, .int .u32 0, .int .u32 0, .int .u32 0, .int .u32 0, .int .u32 0, .int .u32 0, .int .u32 0, .int .u32 0, .int .u32 0, .int .u32 0, .int .u32 0, .int .u32 0, .int .u32 0, .int .u32 0, .int .u32 0, .int .u32 0, .int .u32 0, .int .u32 0] := TyZero.mk' (z := .agg #[.int .u32 0, .int .u32 0, .int .u32 0, .int .u32 0, .int .u32 0, .int .u32 0, .int .u32 0, .int .u32 0, .int .u32 0, .int .u32 0, .int .u32 0, .int .u32 0, .int .u32 0, .int .u32 0, .int .u32 0, .int .u32 0, .int .u32 0, .int .u32 0, .int .u32 0, .int .u32 0, .int .u32 0, .int .u32 0, .int .u32 0, .int .u32 0, .int .u32 0, .int .u32 0, .int .u32 0, .int .u32 0, .int .u32 0, .int .u32 0, .int .u32 0, .int .u32 0, .int .u32 0, .int .u32 0, .int .u32 0, .int .u32 0, .int .u32 0, .int .u32 0, .int .u32 0, .int .u32 0, .int .u32 0, .int .u32 0, .int .u32 0, .int .u32 0, .int .u32 0, .int .u32 0, .int .u32 0, .int .u32 0, .int .u32 0, .int .u32 0, .int .u32 0, .int .u32 0, .int .u32 0, .int .u32 0, .int .u32 0, .int .u32 0, .int .u32 0, .int .u32 0, .int .u32 0, .int .u32 0, .int .u32 0, .int .u32 0, .int .u32 0, .int .u32 0]) (by kernel_rfl) rfl rfl
instance : TyConc Try.prog 107 := TyConc.mk' (d := (Try.prog.underlying 107).getD .bool) (by kernel_rfl) (by kernel_rfl)
instance : TyArr Try.prog 107 64 102 := ⟨by kernel_rfl⟩
theorem tv120 : TyVar Try.prog 120 false 1 := TyVar.mk' (d := (Try.prog.underlying 120).getD .bool) (by kernel_rfl) (by kernel_rfl) (by kernel_rfl)
instance : TyVar Try.prog 120 false 1 := tv120
instance : TyZero Try.prog 120 false [.pointer none] := TyZero.mk' (z := .pointer none) (by kernel_rfl) rfl rfl
instance : TyConc Try.prog 120 := TyConc.mk' (d := (Try.prog.underlying 120).getD .bool) (by kernel_rfl) (by kernel_rfl)
instance : TyPtr Try.prog 120 := ⟨⟨5, by kernel_rfl⟩⟩
theorem tv125 : TyVar Try.prog 125 false 1 := TyVar.mk' (d := (Try.prog.underlying 125).getD .bool) (by kernel_rfl) (by kernel_rfl) (by kernel_rfl)
instance : TyVar Try.prog 125 false 1 := tv125
instance : TyZero Try.prog 125 false [.pointer none] := TyZero.mk' (z := .pointer none) (by kernel_rfl) rfl rfl
instance : TyConc Try.prog 125 := TyConc.mk' (d := (Try.prog.underlying 125).getD .bool) (by kernel_rfl) (by kernel_rfl)
theorem laid_ : laidOutB Try.prog = true := by kernel_rfl
instance : TyKey Try.prog 84 (.row [.int .u8, .str, .str, .str, .str]) := TyKey.row (fs := match Try.prog.underlying 84 with | some (.struct fs) => fs | _ => #[]) laid_ (by kernel_rfl) (by kernel_rfl) (by kernel_rfl) (by kernel_rfl) (by kernel_rfl) (by kernel_rfl)
end Go.Proofs.Ythpigmkdchnnoaa
