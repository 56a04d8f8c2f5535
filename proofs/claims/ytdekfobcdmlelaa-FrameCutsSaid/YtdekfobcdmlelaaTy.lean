/- What the abstract machine knows of the types. -/
import Derived.Test.YtdekfobcdmlelaaAm18
import Derived.Test.YtdekfobcdmlelaaProg
namespace Go.Proofs.Ytdekfobcdmlelaa
set_option linter.unusedVariables false
set_option linter.unusedSimpArgs false
set_option maxRecDepth 100000

theorem tv2 : TyVar Try.prog 2 false 1 := TyVar.mk' (d := (Try.prog.underlying 2).getD .bool) (by kernel_rfl) (by kernel_rfl) (by kernel_rfl)
instance : TyVar Try.prog 2 false 1 := tv2
instance : TyZero Try.prog 2 false [.int .i64 0] := TyZero.mk' (z := .int .i64 0) (by kernel_rfl) rfl rfl
instance : TyConc Try.prog 2 := TyConc.mk' (d := (Try.prog.underlying 2).getD .bool) (by kernel_rfl) (by kernel_rfl)
instance : TyInt Try.prog 2 .i64 := ⟨by kernel_rfl⟩
theorem tv3 : TyVar Try.prog 3 false 1 := TyVar.mk' (d := (Try.prog.underlying 3).getD .bool) (by kernel_rfl) (by kernel_rfl) (by kernel_rfl)
instance : TyVar Try.prog 3 false 1 := tv3
instance : TyZero Try.prog 3 false [.int .i64 0] := TyZero.mk' (z := .int .i64 0) (by kernel_rfl) rfl rfl
instance : TyConc Try.prog 3 := TyConc.mk' (d := (Try.prog.underlying 3).getD .bool) (by kernel_rfl) (by kernel_rfl)
instance : TyInt Try.prog 3 .i64 := ⟨by kernel_rfl⟩
theorem tv4 : TyVar Try.prog 4 false 1 := TyVar.mk' (d := (Try.prog.underlying 4).getD .bool) (by kernel_rfl) (by kernel_rfl) (by kernel_rfl)
instance : TyVar Try.prog 4 false 1 := tv4
instance : TyZero Try.prog 4 false [.bool false] := TyZero.mk' (z := .bool false) (by kernel_rfl) rfl rfl
instance : TyConc Try.prog 4 := TyConc.mk' (d := (Try.prog.underlying 4).getD .bool) (by kernel_rfl) (by kernel_rfl)
instance : TyBool Try.prog 4 := ⟨by kernel_rfl⟩
theorem tv5 : TyVar Try.prog 5 false 1 := TyVar.mk' (d := (Try.prog.underlying 5).getD .bool) (by kernel_rfl) (by kernel_rfl) (by kernel_rfl)
instance : TyVar Try.prog 5 false 1 := tv5
instance : TyZero Try.prog 5 false [.int .u8 0] := TyZero.mk' (z := .int .u8 0) (by kernel_rfl) rfl rfl
instance : TyConc Try.prog 5 := TyConc.mk' (d := (Try.prog.underlying 5).getD .bool) (by kernel_rfl) (by kernel_rfl)
instance : TyInt Try.prog 5 .u8 := ⟨by kernel_rfl⟩
theorem tv9 : TyVar Try.prog 9 false 1 := TyVar.mk' (d := (Try.prog.underlying 9).getD .bool) (by kernel_rfl) (by kernel_rfl) (by kernel_rfl)
instance : TyVar Try.prog 9 false 1 := tv9
instance : TyZero Try.prog 9 false [.string ⟨#[]⟩] := TyZero.mk' (z := .string ⟨#[]⟩) (by kernel_rfl) rfl rfl
instance : TyConc Try.prog 9 := TyConc.mk' (d := (Try.prog.underlying 9).getD .bool) (by kernel_rfl) (by kernel_rfl)
instance : TyStr Try.prog 9 := ⟨by kernel_rfl⟩
theorem tv12 : TyVar Try.prog 12 false 1 := TyVar.mk' (d := (Try.prog.underlying 12).getD .bool) (by kernel_rfl) (by kernel_rfl) (by kernel_rfl)
instance : TyVar Try.prog 12 false 1 := tv12
instance : TyZero Try.prog 12 false [.int .u64 0] := TyZero.mk' (z := .int .u64 0) (by kernel_rfl) rfl rfl
instance : TyConc Try.prog 12 := TyConc.mk' (d := (Try.prog.underlying 12).getD .bool) (by kernel_rfl) (by kernel_rfl)
instance : TyInt Try.prog 12 .u64 := ⟨by kernel_rfl⟩
theorem tv20 : TyVar Try.prog 20 false 1 := TyVar.mk' (d := (Try.prog.underlying 20).getD .bool) (by kernel_rfl) (by kernel_rfl) (by kernel_rfl)
instance : TyVar Try.prog 20 false 1 := tv20
instance : TyZero Try.prog 20 false [.nilIface] := TyZero.mk' (z := .nilIface) (by kernel_rfl) rfl rfl
instance : TyIface Try.prog 20 := ⟨⟨_, (show Try.prog.underlying 20 = some ((Try.prog.underlying 20).getD .bool) by kernel_rfl).trans (by kernel_rfl : some ((Try.prog.underlying 20).getD .bool) = some (.interface #[]))⟩⟩
theorem tv21 : TyVar Try.prog 21 false 1 := TyVar.mk' (d := (Try.prog.underlying 21).getD .bool) (by kernel_rfl) (by kernel_rfl) (by kernel_rfl)
instance : TyVar Try.prog 21 false 1 := tv21
instance : TyZero Try.prog 21 false [.int .i32 0] := TyZero.mk' (z := .int .i32 0) (by kernel_rfl) rfl rfl
instance : TyConc Try.prog 21 := TyConc.mk' (d := (Try.prog.underlying 21).getD .bool) (by kernel_rfl) (by kernel_rfl)
instance : TyInt Try.prog 21 .i32 := ⟨by kernel_rfl⟩
theorem tv22 : TyVar Try.prog 22 false 1 := TyVar.mk' (d := (Try.prog.underlying 22).getD .bool) (by kernel_rfl) (by kernel_rfl) (by kernel_rfl)
instance : TyVar Try.prog 22 false 1 := tv22
instance : TyZero Try.prog 22 false [.slice none 0 0] := TyZero.mk' (z := .slice none 0 0) (by kernel_rfl) rfl rfl
instance : TyConc Try.prog 22 := TyConc.mk' (d := (Try.prog.underlying 22).getD .bool) (by kernel_rfl) (by kernel_rfl)
instance : TySl Try.prog 22 5 1 1 := TySl.mk' (z := .int .u8 0) (by kernel_rfl) (by kernel_rfl) rfl (by decide)
theorem tv30 : TyVar Try.prog 30 false 1 := TyVar.mk' (d := (Try.prog.underlying 30).getD .bool) (by kernel_rfl) (by kernel_rfl) (by kernel_rfl)
instance : TyVar Try.prog 30 false 1 := tv30
instance : TyZero Try.prog 30 false [.int .i64 0] := TyZero.mk' (z := .int .i64 0) (by kernel_rfl) rfl rfl
instance : TyConc Try.prog 30 := TyConc.mk' (d := (Try.prog.underlying 30).getD .bool) (by kernel_rfl) (by kernel_rfl)
instance : TyInt Try.prog 30 .i64 := ⟨by kernel_rfl⟩
theorem tv36 : TyVar Try.prog 36 false 1 := TyVar.mk' (d := (Try.prog.underlying 36).getD .bool) (by kernel_rfl) (by kernel_rfl) (by kernel_rfl)
instance : TyVar Try.prog 36 false 1 := tv36
instance : TyZero Try.prog 36 false [.slice none 0 0] := TyZero.mk' (z := .slice none 0 0) (by kernel_rfl) rfl rfl
instance : TyConc Try.prog 36 := TyConc.mk' (d := (Try.prog.underlying 36).getD .bool) (by kernel_rfl) (by kernel_rfl)
instance : TySl Try.prog 36 22 1 24 := TySl.mk' (z := .slice none 0 0) (by kernel_rfl) (by kernel_rfl) rfl (by decide)
theorem tv37 : TyVar Try.prog 37 true 5 := TyVar.mk' (d := (Try.prog.underlying 37).getD .bool) (by kernel_rfl) (by kernel_rfl) (by kernel_rfl)
instance : TyVar Try.prog 37 true 5 := tv37
instance : TyZero Try.prog 37 true [.int .i64 0, .int .i64 0, .int .i64 0, .slice none 0 0, .slice none 0 0] := TyZero.mk' (z := .agg #[.int .i64 0, .int .i64 0, .int .i64 0, .slice none 0 0, .slice none 0 0]) (by kernel_rfl) rfl rfl
instance : TyConc Try.prog 37 := TyConc.mk' (d := (Try.prog.underlying 37).getD .bool) (by kernel_rfl) (by kernel_rfl)
instance : TyFldS Try.prog 37 0 0 false 1 := TyFldS.mk' (ft := 3) (by kernel_rfl) (by kernel_rfl) (TyVar.mk' (d := (Try.prog.underlying 3).getD .bool) (by kernel_rfl) (by kernel_rfl) (by kernel_rfl)) (by decide)
instance : TyFldS Try.prog 37 1 1 false 1 := TyFldS.mk' (ft := 3) (by kernel_rfl) (by kernel_rfl) (TyVar.mk' (d := (Try.prog.underlying 3).getD .bool) (by kernel_rfl) (by kernel_rfl) (by kernel_rfl)) (by decide)
instance : TyFldS Try.prog 37 2 2 false 1 := TyFldS.mk' (ft := 3) (by kernel_rfl) (by kernel_rfl) (TyVar.mk' (d := (Try.prog.underlying 3).getD .bool) (by kernel_rfl) (by kernel_rfl) (by kernel_rfl)) (by decide)
instance : TyFldS Try.prog 37 3 3 false 1 := TyFldS.mk' (ft := 36) (by kernel_rfl) (by kernel_rfl) (TyVar.mk' (d := (Try.prog.underlying 36).getD .bool) (by kernel_rfl) (by kernel_rfl) (by kernel_rfl)) (by decide)
instance : TyFldS Try.prog 37 4 4 false 1 := TyFldS.mk' (ft := 22) (by kernel_rfl) (by kernel_rfl) (TyVar.mk' (d := (Try.prog.underlying 22).getD .bool) (by kernel_rfl) (by kernel_rfl) (by kernel_rfl)) (by decide)
instance : TyPlaces Try.prog 37 [(0, 1), (1, 1), (2, 1), (3, 1), (4, 1)] := TyPlaces.mk' (by kernel_rfl) (fun w => by kernel_rfl)
theorem tv38 : TyVar Try.prog 38 true 5 := TyVar.mk' (d := (Try.prog.underlying 38).getD .bool) (by kernel_rfl) (by kernel_rfl) (by kernel_rfl)
instance : TyVar Try.prog 38 true 5 := tv38
instance : TyZero Try.prog 38 true [.int .i64 0, .int .i64 0, .int .i64 0, .slice none 0 0, .slice none 0 0] := TyZero.mk' (z := .agg #[.int .i64 0, .int .i64 0, .int .i64 0, .slice none 0 0, .slice none 0 0]) (by kernel_rfl) rfl rfl
instance : TyConc Try.prog 38 := TyConc.mk' (d := (Try.prog.underlying 38).getD .bool) (by kernel_rfl) (by kernel_rfl)
instance : TyFldS Try.prog 38 0 0 false 1 := TyFldS.mk' (ft := 3) (by kernel_rfl) (by kernel_rfl) (TyVar.mk' (d := (Try.prog.underlying 3).getD .bool) (by kernel_rfl) (by kernel_rfl) (by kernel_rfl)) (by decide)
instance : TyFldS Try.prog 38 1 1 false 1 := TyFldS.mk' (ft := 3) (by kernel_rfl) (by kernel_rfl) (TyVar.mk' (d := (Try.prog.underlying 3).getD .bool) (by kernel_rfl) (by kernel_rfl) (by kernel_rfl)) (by decide)
instance : TyFldS Try.prog 38 2 2 false 1 := TyFldS.mk' (ft := 3) (by kernel_rfl) (by kernel_rfl) (TyVar.mk' (d := (Try.prog.underlying 3).getD .bool) (by kernel_rfl) (by kernel_rfl) (by kernel_rfl)) (by decide)
instance : TyFldS Try.prog 38 3 3 false 1 := TyFldS.mk' (ft := 36) (by kernel_rfl) (by kernel_rfl) (TyVar.mk' (d := (Try.prog.underlying 36).getD .bool) (by kernel_rfl) (by kernel_rfl) (by kernel_rfl)) (by decide)
instance : TyFldS Try.prog 38 4 4 false 1 := TyFldS.mk' (ft := 22) (by kernel_rfl) (by kernel_rfl) (TyVar.mk' (d := (Try.prog.underlying 22).getD .bool) (by kernel_rfl) (by kernel_rfl) (by kernel_rfl)) (by decide)
instance : TyPlaces Try.prog 38 [(0, 1), (1, 1), (2, 1), (3, 1), (4, 1)] := TyPlaces.mk' (by kernel_rfl) (fun w => by kernel_rfl)
theorem tv40 : TyVar Try.prog 40 true 5 := TyVar.mk' (d := (Try.prog.underlying 40).getD .bool) (by kernel_rfl) (by kernel_rfl) (by kernel_rfl)
instance : TyVar Try.prog 40 true 5 := tv40
instance : TyZero Try.prog 40 true [.int .i64 0, .int .i64 0, .int .i64 0, .slice none 0 0, .slice none 0 0] := TyZero.mk' (z := .agg #[.int .i64 0, .int .i64 0, .int .i64 0, .slice none 0 0, .slice none 0 0]) (by kernel_rfl) rfl rfl
instance : TyConc Try.prog 40 := TyConc.mk' (d := (Try.prog.underlying 40).getD .bool) (by kernel_rfl) (by kernel_rfl)
instance : TyFldS Try.prog 40 0 0 false 1 := TyFldS.mk' (ft := 3) (by kernel_rfl) (by kernel_rfl) (TyVar.mk' (d := (Try.prog.underlying 3).getD .bool) (by kernel_rfl) (by kernel_rfl) (by kernel_rfl)) (by decide)
instance : TyFldS Try.prog 40 1 1 false 1 := TyFldS.mk' (ft := 3) (by kernel_rfl) (by kernel_rfl) (TyVar.mk' (d := (Try.prog.underlying 3).getD .bool) (by kernel_rfl) (by kernel_rfl) (by kernel_rfl)) (by decide)
instance : TyFldS Try.prog 40 2 2 false 1 := TyFldS.mk' (ft := 3) (by kernel_rfl) (by kernel_rfl) (TyVar.mk' (d := (Try.prog.underlying 3).getD .bool) (by kernel_rfl) (by kernel_rfl) (by kernel_rfl)) (by decide)
instance : TyFldS Try.prog 40 3 3 false 1 := TyFldS.mk' (ft := 36) (by kernel_rfl) (by kernel_rfl) (TyVar.mk' (d := (Try.prog.underlying 36).getD .bool) (by kernel_rfl) (by kernel_rfl) (by kernel_rfl)) (by decide)
instance : TyFldS Try.prog 40 4 4 false 1 := TyFldS.mk' (ft := 22) (by kernel_rfl) (by kernel_rfl) (TyVar.mk' (d := (Try.prog.underlying 22).getD .bool) (by kernel_rfl) (by kernel_rfl) (by kernel_rfl)) (by decide)
instance : TyPlaces Try.prog 40 [(0, 1), (1, 1), (2, 1), (3, 1), (4, 1)] := TyPlaces.mk' (by kernel_rfl) (fun w => by kernel_rfl)
theorem tv50 : TyVar Try.prog 50 true 6 := TyVar.mk' (d := (Try.prog.underlying 50).getD .bool) (by kernel_rfl) (by kernel_rfl) (by kernel_rfl)
instance : TyVar Try.prog 50 true 6 := tv50
instance : TyZero Try.prog 50 true [.bool false, .bool false, .bool false, .bool false, .bool false, .bool false] := TyZero.mk' (z := .agg #[.bool false, .bool false, .bool false, .bool false, .bool false, .bool false]) (by kernel_rfl) rfl rfl
instance : TyConc Try.prog 50 := TyConc.mk' (d := (Try.prog.underlying 50).getD .bool) (by kernel_rfl) (by kernel_rfl)
instance : TyArr Try.prog 50 6 4 := ⟨by kernel_rfl⟩
theorem tv53 : TyVar Try.prog 53 false 1 := TyVar.mk' (d := (Try.prog.underlying 53).getD .bool) (by kernel_rfl) (by kernel_rfl) (by kernel_rfl)
instance : TyVar Try.prog 53 false 1 := tv53
instance : TyZero Try.prog 53 false [.pointer none] := TyZero.mk' (z := .pointer none) (by kernel_rfl) rfl rfl
instance : TyConc Try.prog 53 := TyConc.mk' (d := (Try.prog.underlying 53).getD .bool) (by kernel_rfl) (by kernel_rfl)
instance : TyPtr Try.prog 53 := ⟨⟨77, by kernel_rfl⟩⟩
theorem tv58 : TyVar Try.prog 58 false 1 := TyVar.mk' (d := (Try.prog.underlying 58).getD .bool) (by kernel_rfl) (by kernel_rfl) (by kernel_rfl)
instance : TyVar Try.prog 58 false 1 := tv58
instance : TyZero Try.prog 58 false [.slice none 0 0] := TyZero.mk' (z := .slice none 0 0) (by kernel_rfl) rfl rfl
instance : TyConc Try.prog 58 := TyConc.mk' (d := (Try.prog.underlying 58).getD .bool) (by kernel_rfl) (by kernel_rfl)
instance : TySl Try.prog 58 3 1 8 := TySl.mk' (z := .int .i64 0) (by kernel_rfl) (by kernel_rfl) rfl (by decide)
theorem tv63 : TyVar Try.prog 63 false 1 := TyVar.mk' (d := (Try.prog.underlying 63).getD .bool) (by kernel_rfl) (by kernel_rfl) (by kernel_rfl)
instance : TyVar Try.prog 63 false 1 := tv63
instance : TyZero Try.prog 63 false [.slice none 0 0] := TyZero.mk' (z := .slice none 0 0) (by kernel_rfl) rfl rfl
instance : TyConc Try.prog 63 := TyConc.mk' (d := (Try.prog.underlying 63).getD .bool) (by kernel_rfl) (by kernel_rfl)
instance : TySl Try.prog 63 20 1 16 := TySl.mk' (z := .nilIface) (by kernel_rfl) (by kernel_rfl) rfl (by decide)
theorem tv67 : TyVar Try.prog 67 false 1 := TyVar.mk' (d := (Try.prog.underlying 67).getD .bool) (by kernel_rfl) (by kernel_rfl) (by kernel_rfl)
instance : TyVar Try.prog 67 false 1 := tv67
instance : TyZero Try.prog 67 false [.pointer none] := TyZero.mk' (z := .pointer none) (by kernel_rfl) rfl rfl
instance : TyConc Try.prog 67 := TyConc.mk' (d := (Try.prog.underlying 67).getD .bool) (by kernel_rfl) (by kernel_rfl)
instance : TyPtr Try.prog 67 := ⟨⟨85, by kernel_rfl⟩⟩
theorem tv70 : TyVar Try.prog 70 false 1 := TyVar.mk' (d := (Try.prog.underlying 70).getD .bool) (by kernel_rfl) (by kernel_rfl) (by kernel_rfl)
instance : TyVar Try.prog 70 false 1 := tv70
instance : TyZero Try.prog 70 false [.pointer none] := TyZero.mk' (z := .pointer none) (by kernel_rfl) rfl rfl
instance : TyConc Try.prog 70 := TyConc.mk' (d := (Try.prog.underlying 70).getD .bool) (by kernel_rfl) (by kernel_rfl)
instance : TyPtr Try.prog 70 := ⟨⟨72, by kernel_rfl⟩⟩
theorem tv71 : TyVar Try.prog 71 true 3 := TyVar.mk' (d := (Try.prog.underlying 71).getD .bool) (by kernel_rfl) (by kernel_rfl) (by kernel_rfl)
instance : TyVar Try.prog 71 true 3 := tv71
instance : TyZero Try.prog 71 true [.slice none 0 0, .int .i64 0, .bool false] := TyZero.mk' (z := .agg #[.slice none 0 0, .int .i64 0, .bool false]) (by kernel_rfl) rfl rfl
instance : TyConc Try.prog 71 := TyConc.mk' (d := (Try.prog.underlying 71).getD .bool) (by kernel_rfl) (by kernel_rfl)
instance : TyFldS Try.prog 71 0 0 false 1 := TyFldS.mk' (ft := 22) (by kernel_rfl) (by kernel_rfl) (TyVar.mk' (d := (Try.prog.underlying 22).getD .bool) (by kernel_rfl) (by kernel_rfl) (by kernel_rfl)) (by decide)
instance : TyFldS Try.prog 71 1 1 false 1 := TyFldS.mk' (ft := 3) (by kernel_rfl) (by kernel_rfl) (TyVar.mk' (d := (Try.prog.underlying 3).getD .bool) (by kernel_rfl) (by kernel_rfl) (by kernel_rfl)) (by decide)
instance : TyFldS Try.prog 71 2 2 false 1 := TyFldS.mk' (ft := 4) (by kernel_rfl) (by kernel_rfl) (TyVar.mk' (d := (Try.prog.underlying 4).getD .bool) (by kernel_rfl) (by kernel_rfl) (by kernel_rfl)) (by decide)
instance : TyPlaces Try.prog 71 [(0, 1), (1, 1), (2, 1)] := TyPlaces.mk' (by kernel_rfl) (fun w => by kernel_rfl)
theorem tv72 : TyVar Try.prog 72 true 3 := TyVar.mk' (d := (Try.prog.underlying 72).getD .bool) (by kernel_rfl) (by kernel_rfl) (by kernel_rfl)
instance : TyVar Try.prog 72 true 3 := tv72
instance : TyZero Try.prog 72 true [.slice none 0 0, .int .i64 0, .bool false] := TyZero.mk' (z := .agg #[.slice none 0 0, .int .i64 0, .bool false]) (by kernel_rfl) rfl rfl
instance : TyConc Try.prog 72 := TyConc.mk' (d := (Try.prog.underlying 72).getD .bool) (by kernel_rfl) (by kernel_rfl)
instance : TyFldS Try.prog 72 0 0 false 1 := TyFldS.mk' (ft := 22) (by kernel_rfl) (by kernel_rfl) (TyVar.mk' (d := (Try.prog.underlying 22).getD .bool) (by kernel_rfl) (by kernel_rfl) (by kernel_rfl)) (by decide)
instance : TyFldS Try.prog 72 1 1 false 1 := TyFldS.mk' (ft := 3) (by kernel_rfl) (by kernel_rfl) (TyVar.mk' (d := (Try.prog.underlying 3).getD .bool) (by kernel_rfl) (by kernel_rfl) (by kernel_rfl)) (by decide)
instance : TyFldS Try.prog 72 2 2 false 1 := TyFldS.mk' (ft := 4) (by kernel_rfl) (by kernel_rfl) (TyVar.mk' (d := (Try.prog.underlying 4).getD .bool) (by kernel_rfl) (by kernel_rfl) (by kernel_rfl)) (by decide)
instance : TyPlaces Try.prog 72 [(0, 1), (1, 1), (2, 1)] := TyPlaces.mk' (by kernel_rfl) (fun w => by kernel_rfl)
theorem tv74 : TyVar Try.prog 74 false 1 := TyVar.mk' (d := (Try.prog.underlying 74).getD .bool) (by kernel_rfl) (by kernel_rfl) (by kernel_rfl)
instance : TyVar Try.prog 74 false 1 := tv74
instance : TyZero Try.prog 74 false [.int .u32 0] := TyZero.mk' (z := .int .u32 0) (by kernel_rfl) rfl rfl
instance : TyConc Try.prog 74 := TyConc.mk' (d := (Try.prog.underlying 74).getD .bool) (by kernel_rfl) (by kernel_rfl)
instance : TyInt Try.prog 74 .u32 := ⟨by kernel_rfl⟩
theorem tv75 : TyVar Try.prog 75 true 8 := TyVar.mk' (d := (Try.prog.underlying 75).getD .bool) (by kernel_rfl) (by kernel_rfl) (by kernel_rfl)
instance : TyVar Try.prog 75 true 8 := tv75
instance : TyZero Try.prog 75 true [.int .u32 0, .int .u32 0, .int .u32 0, .int .u32 0, .int .u32 0, .int .u32 0, .int .u32 0, .int .u32 0] := TyZero.mk' (z := .agg #[.int .u32 0, .int .u32 0, .int .u32 0, .int .u32 0, .int .u32 0, .int .u32 0, .int .u32 0, .int .u32 0]) (by kernel_rfl) rfl rfl
instance : TyConc Try.prog 75 := TyConc.mk' (d := (Try.prog.underlying 75).getD .bool) (by kernel_rfl) (by kernel_rfl)
instance : TyArr Try.prog 75 8 74 := ⟨by kernel_rfl⟩
theorem tv76 : TyVar Try.prog 76 true 10 := TyVar.mk' (d := (Try.prog.underlying 76).getD .bool) (by kernel_rfl) (by kernel_rfl) (by kernel_rfl)
instance : TyVar Try.prog 76 true 10 := tv76
instance : TyZero Try.prog 76 true [.int .u32 0, .int .u32 0, .int .u32 0, .int .u32 0, .int .u32 0, .int .u32 0, .int .u32 0, .int .u32 0, .slice none 0 0, .int .i64 0] := TyZero.mk' (z := .agg #[.int .u32 0, .int .u32 0, .int .u32 0, .int .u32 0, .int .u32 0, .int .u32 0, .int .u32 0, .int .u32 0, .slice none 0 0, .int .i64 0]) (by kernel_rfl) rfl rfl
instance : TyConc Try.prog 76 := TyConc.mk' (d := (Try.prog.underlying 76).getD .bool) (by kernel_rfl) (by kernel_rfl)
instance : TyFldS Try.prog 76 0 0 true 8 := TyFldS.mk' (ft := 75) (by kernel_rfl) (by kernel_rfl) (TyVar.mk' (d := (Try.prog.underlying 75).getD .bool) (by kernel_rfl) (by kernel_rfl) (by kernel_rfl)) (by decide)
instance : TyFldS Try.prog 76 1 8 false 1 := TyFldS.mk' (ft := 22) (by kernel_rfl) (by kernel_rfl) (TyVar.mk' (d := (Try.prog.underlying 22).getD .bool) (by kernel_rfl) (by kernel_rfl) (by kernel_rfl)) (by decide)
instance : TyFldS Try.prog 76 2 9 false 1 := TyFldS.mk' (ft := 3) (by kernel_rfl) (by kernel_rfl) (TyVar.mk' (d := (Try.prog.underlying 3).getD .bool) (by kernel_rfl) (by kernel_rfl) (by kernel_rfl)) (by decide)
instance : TyPlaces Try.prog 76 [(0, 8), (8, 1), (9, 1)] := TyPlaces.mk' (by kernel_rfl) (fun w => by kernel_rfl)
theorem tv77 : TyVar Try.prog 77 true 10 := TyVar.mk' (d := (Try.prog.underlying 77).getD .bool) (by kernel_rfl) (by kernel_rfl) (by kernel_rfl)
instance : TyVar Try.prog 77 true 10 := tv77
instance : TyZero Try.prog 77 true [.int .u32 0, .int .u32 0, .int .u32 0, .int .u32 0, .int .u32 0, .int .u32 0, .int .u32 0, .int .u32 0, .slice none 0 0, .int .i64 0] := TyZero.mk' (z := .agg #[.int .u32 0, .int .u32 0, .int .u32 0, .int .u32 0, .int .u32 0, .int .u32 0, .int .u32 0, .int .u32 0, .slice none 0 0, .int .i64 0]) (by kernel_rfl) rfl rfl
instance : TyConc Try.prog 77 := TyConc.mk' (d := (Try.prog.underlying 77).getD .bool) (by kernel_rfl) (by kernel_rfl)
instance : TyFldS Try.prog 77 0 0 true 8 := TyFldS.mk' (ft := 75) (by kernel_rfl) (by kernel_rfl) (TyVar.mk' (d := (Try.prog.underlying 75).getD .bool) (by kernel_rfl) (by kernel_rfl) (by kernel_rfl)) (by decide)
instance : TyFldS Try.prog 77 1 8 false 1 := TyFldS.mk' (ft := 22) (by kernel_rfl) (by kernel_rfl) (TyVar.mk' (d := (Try.prog.underlying 22).getD .bool) (by kernel_rfl) (by kernel_rfl) (by kernel_rfl)) (by decide)
instance : TyFldS Try.prog 77 2 9 false 1 := TyFldS.mk' (ft := 3) (by kernel_rfl) (by kernel_rfl) (TyVar.mk' (d := (Try.prog.underlying 3).getD .bool) (by kernel_rfl) (by kernel_rfl) (by kernel_rfl)) (by decide)
instance : TyPlaces Try.prog 77 [(0, 8), (8, 1), (9, 1)] := TyPlaces.mk' (by kernel_rfl) (fun w => by kernel_rfl)
theorem tv79 : TyVar Try.prog 79 false 1 := TyVar.mk' (d := (Try.prog.underlying 79).getD .bool) (by kernel_rfl) (by kernel_rfl) (by kernel_rfl)
instance : TyVar Try.prog 79 false 1 := tv79
instance : TyZero Try.prog 79 false [.int .u64 0] := TyZero.mk' (z := .int .u64 0) (by kernel_rfl) rfl rfl
instance : TyConc Try.prog 79 := TyConc.mk' (d := (Try.prog.underlying 79).getD .bool) (by kernel_rfl) (by kernel_rfl)
instance : TyInt Try.prog 79 .u64 := ⟨by kernel_rfl⟩
theorem tv84 : TyVar Try.prog 84 true 2 := TyVar.mk' (d := (Try.prog.underlying 84).getD .bool) (by kernel_rfl) (by kernel_rfl) (by kernel_rfl)
instance : TyVar Try.prog 84 true 2 := tv84
instance : TyZero Try.prog 84 true [.slice none 0 0, .bool false] := TyZero.mk' (z := .agg #[.slice none 0 0, .bool false]) (by kernel_rfl) rfl rfl
instance : TyConc Try.prog 84 := TyConc.mk' (d := (Try.prog.underlying 84).getD .bool) (by kernel_rfl) (by kernel_rfl)
instance : TyFldS Try.prog 84 0 0 false 1 := TyFldS.mk' (ft := 22) (by kernel_rfl) (by kernel_rfl) (TyVar.mk' (d := (Try.prog.underlying 22).getD .bool) (by kernel_rfl) (by kernel_rfl) (by kernel_rfl)) (by decide)
instance : TyFldS Try.prog 84 1 1 false 1 := TyFldS.mk' (ft := 4) (by kernel_rfl) (by kernel_rfl) (TyVar.mk' (d := (Try.prog.underlying 4).getD .bool) (by kernel_rfl) (by kernel_rfl) (by kernel_rfl)) (by decide)
instance : TyPlaces Try.prog 84 [(0, 1), (1, 1)] := TyPlaces.mk' (by kernel_rfl) (fun w => by kernel_rfl)
theorem tv85 : TyVar Try.prog 85 true 2 := TyVar.mk' (d := (Try.prog.underlying 85).getD .bool) (by kernel_rfl) (by kernel_rfl) (by kernel_rfl)
instance : TyVar Try.prog 85 true 2 := tv85
instance : TyZero Try.prog 85 true [.slice none 0 0, .bool false] := TyZero.mk' (z := .agg #[.slice none 0 0, .bool false]) (by kernel_rfl) rfl rfl
instance : TyConc Try.prog 85 := TyConc.mk' (d := (Try.prog.underlying 85).getD .bool) (by kernel_rfl) (by kernel_rfl)
instance : TyFldS Try.prog 85 0 0 false 1 := TyFldS.mk' (ft := 22) (by kernel_rfl) (by kernel_rfl) (TyVar.mk' (d := (Try.prog.underlying 22).getD .bool) (by kernel_rfl) (by kernel_rfl) (by kernel_rfl)) (by decide)
instance : TyFldS Try.prog 85 1 1 false 1 := TyFldS.mk' (ft := 4) (by kernel_rfl) (by kernel_rfl) (TyVar.mk' (d := (Try.prog.underlying 4).getD .bool) (by kernel_rfl) (by kernel_rfl) (by kernel_rfl)) (by decide)
instance : TyPlaces Try.prog 85 [(0, 1), (1, 1)] := TyPlaces.mk' (by kernel_rfl) (fun w => by kernel_rfl)
theorem tv86 : TyVar Try.prog 86 true 64 := TyVar.mk' (d := (Try.prog.underlying 86).getD .bool) (by kernel_rfl) (by kernel_rfl) (by kernel_rfl)
instance : TyVar Try.prog 86 true 64 := tv86
instance : TyZero Try.prog 86 true [.int .u32 0, .int .u32 0, .int .u32 0, .int .u32 0, .int .u32 0, .int .u32 0, .int .u32 0, .int .u32 0, .int .u32 0, .int .u32 0, .int .u32 0, .int .u32 0, .int .u32 0, .int .u32 0, .int .u32 0, .int .u32 0, .int .u32 0, .int .u32 0, .int .u32 0, .int .u32 0, .int .u32 0, .int .u32 0, .int .u32 0, .int .u32 0, .int .u32 0, .int .u32 0, .int .u32 0, .int .u32 0, .int .u32 0, .int .u32 0, .int .u32 0, .int .u32 0, .int .u32 0, .int .u32 0, .int .u32 0, .int .u32 0, .int .u32 0, .int .u32 0, .int .u32 0, .int .u32 0, .int .u32 0, .int .u32 0, .int .u32 0, .int .u32 0, .int .u32 0, .int .u32 0, .int .u32 0, .int .u32 0, .int .u32 0, .int .u32 0, .int .u32 0, .int .u32 0, .int .u32 0, .int .u32 0, .int .u32 0, .int .u32 0, .int .u32 0, .int .u32 0, .int .u32 0, .int .u32 0, .int .u32 0, .int .u32 0, .int .u32 0, .int .u32 0] := TyZero.mk' (z := .agg #[.int .u32 0, .int .u32 0, .int .u32 0, .int .u32 0, .int .u32 0, .int .u32 0, .int .u32 0, .int .u32 0, .int .u32 0, .int .u32 0, .int .u32 0, .int .u32 0, .int .u32 0, .int .u32 0, .int .u32 0, .int .u32 0, .int .u32 0, .int .u32 0, .int .u32 0, .int .u32 0, .int .u32 0, .int .u32 0, .int .u32 0, .int .u32 0, .int .u32 0, .int .u32 0, .int .u32 0, .int .u32 0, .int .u32 0, .int .u32 0, .int .u32 0, .int .u32 0, .int .u32 0, .int .u32 0, .int .u32 0, .int .u32 0, .int .u32 0, .int .u32 0, .int .u32 0, .int .u32 0, .int .u32 0, .int .u32 0, .int .u32 0, .int .u32 0, .int .u32 0, .int .u32 0, .int .u32 0, .int .u32 0, .int .u32 0, .int .u32 0, .int .u32 0, .int .u32 0, .int .u32 0, .int .u32 0, .int .u32 0, .int .u32 0, .int .u32 0, .int .u32 0, .int .u32 0, .int .u32 0, .int .u32 0, .int .u32 0, .int .u32 0, .int .u32 0]) (by kernel_rfl) rfl rfl
instance : TyConc Try.prog 86 := TyConc.mk' (d := (Try.prog.underlying 86).getD .bool) (by kernel_rfl) (by kernel_rfl)
instance : TyArr Try.prog 86 64 74 := ⟨by kernel_rfl⟩
theorem tv105 : TyVar Try.prog 105 false 1 := TyVar.mk' (d := (Try.prog.underlying 105).getD .bool) (by kernel_rfl) (by kernel_rfl) (by kernel_rfl)
instance : TyVar Try.prog 105 false 1 := tv105
instance : TyZero Try.prog 105 false [.pointer none] := TyZero.mk' (z := .pointer none) (by kernel_rfl) rfl rfl
instance : TyConc Try.prog 105 := TyConc.mk' (d := (Try.prog.underlying 105).getD .bool) (by kernel_rfl) (by kernel_rfl)
instance : TyPtr Try.prog 105 := ⟨⟨5, by kernel_rfl⟩⟩
theorem tv110 : TyVar Try.prog 110 false 1 := TyVar.mk' (d := (Try.prog.underlying 110).getD .bool) (by kernel_rfl) (by kernel_rfl) (by kernel_rfl)
instance : TyVar Try.prog 110 false 1 := tv110
instance : TyZero Try.prog 110 false [.pointer none] := TyZero.mk' (z := .pointer none) (by kernel_rfl) rfl rfl
instance : TyConc Try.prog 110 := TyConc.mk' (d := (Try.prog.underlying 110).getD .bool) (by kernel_rfl) (by kernel_rfl)
end Go.Proofs.Ytdekfobcdmlelaa
