/- What the abstract machine knows of the types. -/
import Derived.Test.YtnjkklkjlloedaaMap
import Derived.Test.YtnjkklkjlloedaaProg
namespace Go.Proofs.Ytnjkklkjlloedaa
set_option linter.unusedVariables false
set_option linter.unusedSimpArgs false
set_option maxRecDepth 100000

theorem tv2 : TyVar Try.prog 2 false 1 := TyVar.mk' (d := (Try.prog.underlying 2).getD .bool) (by kernel_rfl) (by kernel_rfl) (by kernel_rfl)
instance : TyVar Try.prog 2 false 1 := tv2
instance : TyZero Try.prog 2 false [.int .i64 0] := TyZero.mk' (z := .int .i64 0) (by kernel_rfl) rfl rfl
instance : TyConc Try.prog 2 := TyConc.mk' (d := (Try.prog.underlying 2).getD .bool) (by kernel_rfl) (by kernel_rfl)
instance : TyInt Try.prog 2 .i64 := ⟨by kernel_rfl⟩
theorem tv3 : TyVar Try.prog 3 false 1 := TyVar.mk' (d := (Try.prog.underlying 3).getD .bool) (by kernel_rfl) (by kernel_rfl) (by kernel_rfl)
instance : TyVar Try.prog 3 false 1 := tv3
instance : TyZero Try.prog 3 false [.int .i64 0] := TyZero.mk' (z := .int .i64 0) (by kernel_rfl) rfl rfl
instance : TyConc Try.prog 3 := TyConc.mk' (d := (Try.prog.underlying 3).getD .bool) (by kernel_rfl) (by kernel_rfl)
instance : TyInt Try.prog 3 .i64 := ⟨by kernel_rfl⟩
theorem tv4 : TyVar Try.prog 4 false 1 := TyVar.mk' (d := (Try.prog.underlying 4).getD .bool) (by kernel_rfl) (by kernel_rfl) (by kernel_rfl)
instance : TyVar Try.prog 4 false 1 := tv4
instance : TyZero Try.prog 4 false [.bool false] := TyZero.mk' (z := .bool false) (by kernel_rfl) rfl rfl
instance : TyConc Try.prog 4 := TyConc.mk' (d := (Try.prog.underlying 4).getD .bool) (by kernel_rfl) (by kernel_rfl)
instance : TyBool Try.prog 4 := ⟨by kernel_rfl⟩
theorem tv5 : TyVar Try.prog 5 false 1 := TyVar.mk' (d := (Try.prog.underlying 5).getD .bool) (by kernel_rfl) (by kernel_rfl) (by kernel_rfl)
instance : TyVar Try.prog 5 false 1 := tv5
instance : TyZero Try.prog 5 false [.int .u8 0] := TyZero.mk' (z := .int .u8 0) (by kernel_rfl) rfl rfl
instance : TyConc Try.prog 5 := TyConc.mk' (d := (Try.prog.underlying 5).getD .bool) (by kernel_rfl) (by kernel_rfl)
instance : TyInt Try.prog 5 .u8 := ⟨by kernel_rfl⟩
theorem tv9 : TyVar Try.prog 9 false 1 := TyVar.mk' (d := (Try.prog.underlying 9).getD .bool) (by kernel_rfl) (by kernel_rfl) (by kernel_rfl)
instance : TyVar Try.prog 9 false 1 := tv9
instance : TyZero Try.prog 9 false [.string ⟨#[]⟩] := TyZero.mk' (z := .string ⟨#[]⟩) (by kernel_rfl) rfl rfl
instance : TyConc Try.prog 9 := TyConc.mk' (d := (Try.prog.underlying 9).getD .bool) (by kernel_rfl) (by kernel_rfl)
instance : TyStr Try.prog 9 := ⟨by kernel_rfl⟩
theorem tv12 : TyVar Try.prog 12 false 1 := TyVar.mk' (d := (Try.prog.underlying 12).getD .bool) (by kernel_rfl) (by kernel_rfl) (by kernel_rfl)
instance : TyVar Try.prog 12 false 1 := tv12
instance : TyZero Try.prog 12 false [.int .u64 0] := TyZero.mk' (z := .int .u64 0) (by kernel_rfl) rfl rfl
instance : TyConc Try.prog 12 := TyConc.mk' (d := (Try.prog.underlying 12).getD .bool) (by kernel_rfl) (by kernel_rfl)
instance : TyInt Try.prog 12 .u64 := ⟨by kernel_rfl⟩
theorem tv20 : TyVar Try.prog 20 false 1 := TyVar.mk' (d := (Try.prog.underlying 20).getD .bool) (by kernel_rfl) (by kernel_rfl) (by kernel_rfl)
instance : TyVar Try.prog 20 false 1 := tv20
instance : TyZero Try.prog 20 false [.nilIface] := TyZero.mk' (z := .nilIface) (by kernel_rfl) rfl rfl
instance : TyIface Try.prog 20 := ⟨⟨_, (show Try.prog.underlying 20 = some ((Try.prog.underlying 20).getD .bool) by kernel_rfl).trans (by kernel_rfl : some ((Try.prog.underlying 20).getD .bool) = some (.interface #[]))⟩⟩
theorem tv21 : TyVar Try.prog 21 false 1 := TyVar.mk' (d := (Try.prog.underlying 21).getD .bool) (by kernel_rfl) (by kernel_rfl) (by kernel_rfl)
instance : TyVar Try.prog 21 false 1 := tv21
instance : TyZero Try.prog 21 false [.int .i32 0] := TyZero.mk' (z := .int .i32 0) (by kernel_rfl) rfl rfl
instance : TyConc Try.prog 21 := TyConc.mk' (d := (Try.prog.underlying 21).getD .bool) (by kernel_rfl) (by kernel_rfl)
instance : TyInt Try.prog 21 .i32 := ⟨by kernel_rfl⟩
theorem tv22 : TyVar Try.prog 22 false 1 := TyVar.mk' (d := (Try.prog.underlying 22).getD .bool) (by kernel_rfl) (by kernel_rfl) (by kernel_rfl)
instance : TyVar Try.prog 22 false 1 := tv22
instance : TyZero Try.prog 22 false [.slice none 0 0] := TyZero.mk' (z := .slice none 0 0) (by kernel_rfl) rfl rfl
instance : TyConc Try.prog 22 := TyConc.mk' (d := (Try.prog.underlying 22).getD .bool) (by kernel_rfl) (by kernel_rfl)
instance : TySl Try.prog 22 26 1 24 := TySl.mk' (z := .slice none 0 0) (by kernel_rfl) (by kernel_rfl) rfl (by decide)
theorem tv24 : TyVar Try.prog 24 false 1 := TyVar.mk' (d := (Try.prog.underlying 24).getD .bool) (by kernel_rfl) (by kernel_rfl) (by kernel_rfl)
instance : TyVar Try.prog 24 false 1 := tv24
instance : TyZero Try.prog 24 false [.pointer none] := TyZero.mk' (z := .pointer none) (by kernel_rfl) rfl rfl
instance : TyConc Try.prog 24 := TyConc.mk' (d := (Try.prog.underlying 24).getD .bool) (by kernel_rfl) (by kernel_rfl)
instance : TyPtr Try.prog 24 := ⟨⟨92, by kernel_rfl⟩⟩
theorem tv26 : TyVar Try.prog 26 false 1 := TyVar.mk' (d := (Try.prog.underlying 26).getD .bool) (by kernel_rfl) (by kernel_rfl) (by kernel_rfl)
instance : TyVar Try.prog 26 false 1 := tv26
instance : TyZero Try.prog 26 false [.slice none 0 0] := TyZero.mk' (z := .slice none 0 0) (by kernel_rfl) rfl rfl
instance : TyConc Try.prog 26 := TyConc.mk' (d := (Try.prog.underlying 26).getD .bool) (by kernel_rfl) (by kernel_rfl)
instance : TySl Try.prog 26 27 1 24 := TySl.mk' (z := .slice none 0 0) (by kernel_rfl) (by kernel_rfl) rfl (by decide)
theorem tv27 : TyVar Try.prog 27 false 1 := TyVar.mk' (d := (Try.prog.underlying 27).getD .bool) (by kernel_rfl) (by kernel_rfl) (by kernel_rfl)
instance : TyVar Try.prog 27 false 1 := tv27
instance : TyZero Try.prog 27 false [.slice none 0 0] := TyZero.mk' (z := .slice none 0 0) (by kernel_rfl) rfl rfl
instance : TyConc Try.prog 27 := TyConc.mk' (d := (Try.prog.underlying 27).getD .bool) (by kernel_rfl) (by kernel_rfl)
instance : TySl Try.prog 27 5 1 1 := TySl.mk' (z := .int .u8 0) (by kernel_rfl) (by kernel_rfl) rfl (by decide)
theorem tv28 : TyVar Try.prog 28 true 5 := TyVar.mk' (d := (Try.prog.underlying 28).getD .bool) (by kernel_rfl) (by kernel_rfl) (by kernel_rfl)
instance : TyVar Try.prog 28 true 5 := tv28
instance : TyZero Try.prog 28 true [.int .i64 0, .int .i64 0, .int .i64 0, .slice none 0 0, .slice none 0 0] := TyZero.mk' (z := .agg #[.int .i64 0, .int .i64 0, .int .i64 0, .slice none 0 0, .slice none 0 0]) (by kernel_rfl) rfl rfl
instance : TyConc Try.prog 28 := TyConc.mk' (d := (Try.prog.underlying 28).getD .bool) (by kernel_rfl) (by kernel_rfl)
instance : TyFldS Try.prog 28 0 0 false 1 := TyFldS.mk' (ft := 3) (by kernel_rfl) (by kernel_rfl) (TyVar.mk' (d := (Try.prog.underlying 3).getD .bool) (by kernel_rfl) (by kernel_rfl) (by kernel_rfl)) (by decide)
instance : TyFldS Try.prog 28 1 1 false 1 := TyFldS.mk' (ft := 3) (by kernel_rfl) (by kernel_rfl) (TyVar.mk' (d := (Try.prog.underlying 3).getD .bool) (by kernel_rfl) (by kernel_rfl) (by kernel_rfl)) (by decide)
instance : TyFldS Try.prog 28 2 2 false 1 := TyFldS.mk' (ft := 3) (by kernel_rfl) (by kernel_rfl) (TyVar.mk' (d := (Try.prog.underlying 3).getD .bool) (by kernel_rfl) (by kernel_rfl) (by kernel_rfl)) (by decide)
instance : TyFldS Try.prog 28 3 3 false 1 := TyFldS.mk' (ft := 26) (by kernel_rfl) (by kernel_rfl) (TyVar.mk' (d := (Try.prog.underlying 26).getD .bool) (by kernel_rfl) (by kernel_rfl) (by kernel_rfl)) (by decide)
instance : TyFldS Try.prog 28 4 4 false 1 := TyFldS.mk' (ft := 27) (by kernel_rfl) (by kernel_rfl) (TyVar.mk' (d := (Try.prog.underlying 27).getD .bool) (by kernel_rfl) (by kernel_rfl) (by kernel_rfl)) (by decide)
instance : TyPlaces Try.prog 28 [(0, 1), (1, 1), (2, 1), (3, 1), (4, 1)] := TyPlaces.mk' (by kernel_rfl) (fun w => by kernel_rfl)
theorem tv29 : TyVar Try.prog 29 true 5 := TyVar.mk' (d := (Try.prog.underlying 29).getD .bool) (by kernel_rfl) (by kernel_rfl) (by kernel_rfl)
instance : TyVar Try.prog 29 true 5 := tv29
instance : TyZero Try.prog 29 true [.int .i64 0, .int .i64 0, .int .i64 0, .slice none 0 0, .slice none 0 0] := TyZero.mk' (z := .agg #[.int .i64 0, .int .i64 0, .int .i64 0, .slice none 0 0, .slice none 0 0]) (by kernel_rfl) rfl rfl
instance : TyConc Try.prog 29 := TyConc.mk' (d := (Try.prog.underlying 29).getD .bool) (by kernel_rfl) (by kernel_rfl)
instance : TyFldS Try.prog 29 0 0 false 1 := TyFldS.mk' (ft := 3) (by kernel_rfl) (by kernel_rfl) (TyVar.mk' (d := (Try.prog.underlying 3).getD .bool) (by kernel_rfl) (by kernel_rfl) (by kernel_rfl)) (by decide)
instance : TyFldS Try.prog 29 1 1 false 1 := TyFldS.mk' (ft := 3) (by kernel_rfl) (by kernel_rfl) (TyVar.mk' (d := (Try.prog.underlying 3).getD .bool) (by kernel_rfl) (by kernel_rfl) (by kernel_rfl)) (by decide)
instance : TyFldS Try.prog 29 2 2 false 1 := TyFldS.mk' (ft := 3) (by kernel_rfl) (by kernel_rfl) (TyVar.mk' (d := (Try.prog.underlying 3).getD .bool) (by kernel_rfl) (by kernel_rfl) (by kernel_rfl)) (by decide)
instance : TyFldS Try.prog 29 3 3 false 1 := TyFldS.mk' (ft := 26) (by kernel_rfl) (by kernel_rfl) (TyVar.mk' (d := (Try.prog.underlying 26).getD .bool) (by kernel_rfl) (by kernel_rfl) (by kernel_rfl)) (by decide)
instance : TyFldS Try.prog 29 4 4 false 1 := TyFldS.mk' (ft := 27) (by kernel_rfl) (by kernel_rfl) (TyVar.mk' (d := (Try.prog.underlying 27).getD .bool) (by kernel_rfl) (by kernel_rfl) (by kernel_rfl)) (by decide)
instance : TyPlaces Try.prog 29 [(0, 1), (1, 1), (2, 1), (3, 1), (4, 1)] := TyPlaces.mk' (by kernel_rfl) (fun w => by kernel_rfl)
theorem tv31 : TyVar Try.prog 31 true 5 := TyVar.mk' (d := (Try.prog.underlying 31).getD .bool) (by kernel_rfl) (by kernel_rfl) (by kernel_rfl)
instance : TyVar Try.prog 31 true 5 := tv31
instance : TyZero Try.prog 31 true [.int .i64 0, .int .i64 0, .int .i64 0, .slice none 0 0, .slice none 0 0] := TyZero.mk' (z := .agg #[.int .i64 0, .int .i64 0, .int .i64 0, .slice none 0 0, .slice none 0 0]) (by kernel_rfl) rfl rfl
instance : TyConc Try.prog 31 := TyConc.mk' (d := (Try.prog.underlying 31).getD .bool) (by kernel_rfl) (by kernel_rfl)
instance : TyFldS Try.prog 31 0 0 false 1 := TyFldS.mk' (ft := 3) (by kernel_rfl) (by kernel_rfl) (TyVar.mk' (d := (Try.prog.underlying 3).getD .bool) (by kernel_rfl) (by kernel_rfl) (by kernel_rfl)) (by decide)
instance : TyFldS Try.prog 31 1 1 false 1 := TyFldS.mk' (ft := 3) (by kernel_rfl) (by kernel_rfl) (TyVar.mk' (d := (Try.prog.underlying 3).getD .bool) (by kernel_rfl) (by kernel_rfl) (by kernel_rfl)) (by decide)
instance : TyFldS Try.prog 31 2 2 false 1 := TyFldS.mk' (ft := 3) (by kernel_rfl) (by kernel_rfl) (TyVar.mk' (d := (Try.prog.underlying 3).getD .bool) (by kernel_rfl) (by kernel_rfl) (by kernel_rfl)) (by decide)
instance : TyFldS Try.prog 31 3 3 false 1 := TyFldS.mk' (ft := 26) (by kernel_rfl) (by kernel_rfl) (TyVar.mk' (d := (Try.prog.underlying 26).getD .bool) (by kernel_rfl) (by kernel_rfl) (by kernel_rfl)) (by decide)
instance : TyFldS Try.prog 31 4 4 false 1 := TyFldS.mk' (ft := 27) (by kernel_rfl) (by kernel_rfl) (TyVar.mk' (d := (Try.prog.underlying 27).getD .bool) (by kernel_rfl) (by kernel_rfl) (by kernel_rfl)) (by decide)
instance : TyPlaces Try.prog 31 [(0, 1), (1, 1), (2, 1), (3, 1), (4, 1)] := TyPlaces.mk' (by kernel_rfl) (fun w => by kernel_rfl)
theorem tv32 : TyVar Try.prog 32 true 8 := TyVar.mk' (d := (Try.prog.underlying 32).getD .bool) (by kernel_rfl) (by kernel_rfl) (by kernel_rfl)
instance : TyVar Try.prog 32 true 8 := tv32
instance : TyZero Try.prog 32 true [.int .i64 0, .int .i64 0, .int .i64 0, .int .i64 0, .int .i64 0, .slice none 0 0, .slice none 0 0, .slice none 0 0] := TyZero.mk' (z := .agg #[.int .i64 0, .int .i64 0, .int .i64 0, .int .i64 0, .int .i64 0, .slice none 0 0, .slice none 0 0, .slice none 0 0]) (by kernel_rfl) rfl rfl
instance : TyConc Try.prog 32 := TyConc.mk' (d := (Try.prog.underlying 32).getD .bool) (by kernel_rfl) (by kernel_rfl)
instance : TyFldS Try.prog 32 0 0 false 1 := TyFldS.mk' (ft := 3) (by kernel_rfl) (by kernel_rfl) (TyVar.mk' (d := (Try.prog.underlying 3).getD .bool) (by kernel_rfl) (by kernel_rfl) (by kernel_rfl)) (by decide)
instance : TyFldS Try.prog 32 1 1 false 1 := TyFldS.mk' (ft := 3) (by kernel_rfl) (by kernel_rfl) (TyVar.mk' (d := (Try.prog.underlying 3).getD .bool) (by kernel_rfl) (by kernel_rfl) (by kernel_rfl)) (by decide)
instance : TyFldS Try.prog 32 2 2 true 5 := TyFldS.mk' (ft := 31) (by kernel_rfl) (by kernel_rfl) (TyVar.mk' (d := (Try.prog.underlying 31).getD .bool) (by kernel_rfl) (by kernel_rfl) (by kernel_rfl)) (by decide)
instance : TyFldS Try.prog 32 3 7 false 1 := TyFldS.mk' (ft := 27) (by kernel_rfl) (by kernel_rfl) (TyVar.mk' (d := (Try.prog.underlying 27).getD .bool) (by kernel_rfl) (by kernel_rfl) (by kernel_rfl)) (by decide)
instance : TyPlaces Try.prog 32 [(0, 1), (1, 1), (2, 5), (7, 1)] := TyPlaces.mk' (by kernel_rfl) (fun w => by kernel_rfl)
theorem tv33 : TyVar Try.prog 33 true 8 := TyVar.mk' (d := (Try.prog.underlying 33).getD .bool) (by kernel_rfl) (by kernel_rfl) (by kernel_rfl)
instance : TyVar Try.prog 33 true 8 := tv33
instance : TyZero Try.prog 33 true [.int .i64 0, .int .i64 0, .int .i64 0, .int .i64 0, .int .i64 0, .slice none 0 0, .slice none 0 0, .slice none 0 0] := TyZero.mk' (z := .agg #[.int .i64 0, .int .i64 0, .int .i64 0, .int .i64 0, .int .i64 0, .slice none 0 0, .slice none 0 0, .slice none 0 0]) (by kernel_rfl) rfl rfl
instance : TyConc Try.prog 33 := TyConc.mk' (d := (Try.prog.underlying 33).getD .bool) (by kernel_rfl) (by kernel_rfl)
instance : TyFldS Try.prog 33 0 0 false 1 := TyFldS.mk' (ft := 3) (by kernel_rfl) (by kernel_rfl) (TyVar.mk' (d := (Try.prog.underlying 3).getD .bool) (by kernel_rfl) (by kernel_rfl) (by kernel_rfl)) (by decide)
instance : TyFldS Try.prog 33 1 1 false 1 := TyFldS.mk' (ft := 3) (by kernel_rfl) (by kernel_rfl) (TyVar.mk' (d := (Try.prog.underlying 3).getD .bool) (by kernel_rfl) (by kernel_rfl) (by kernel_rfl)) (by decide)
instance : TyFldS Try.prog 33 2 2 true 5 := TyFldS.mk' (ft := 31) (by kernel_rfl) (by kernel_rfl) (TyVar.mk' (d := (Try.prog.underlying 31).getD .bool) (by kernel_rfl) (by kernel_rfl) (by kernel_rfl)) (by decide)
instance : TyFldS Try.prog 33 3 7 false 1 := TyFldS.mk' (ft := 27) (by kernel_rfl) (by kernel_rfl) (TyVar.mk' (d := (Try.prog.underlying 27).getD .bool) (by kernel_rfl) (by kernel_rfl) (by kernel_rfl)) (by decide)
instance : TyPlaces Try.prog 33 [(0, 1), (1, 1), (2, 5), (7, 1)] := TyPlaces.mk' (by kernel_rfl) (fun w => by kernel_rfl)
theorem tv34 : TyVar Try.prog 34 false 1 := TyVar.mk' (d := (Try.prog.underlying 34).getD .bool) (by kernel_rfl) (by kernel_rfl) (by kernel_rfl)
instance : TyVar Try.prog 34 false 1 := tv34
instance : TyZero Try.prog 34 false [.slice none 0 0] := TyZero.mk' (z := .slice none 0 0) (by kernel_rfl) rfl rfl
instance : TyConc Try.prog 34 := TyConc.mk' (d := (Try.prog.underlying 34).getD .bool) (by kernel_rfl) (by kernel_rfl)
instance : TySl Try.prog 34 33 8 112 := TySl.mk' (z := .agg #[.int .i64 0, .int .i64 0, .int .i64 0, .int .i64 0, .int .i64 0, .slice none 0 0, .slice none 0 0, .slice none 0 0]) (by kernel_rfl) (by kernel_rfl) rfl (by decide)
theorem tv35 : TyVar Try.prog 35 false 1 := TyVar.mk' (d := (Try.prog.underlying 35).getD .bool) (by kernel_rfl) (by kernel_rfl) (by kernel_rfl)
instance : TyVar Try.prog 35 false 1 := tv35
instance : TyZero Try.prog 35 false [.int .i64 0] := TyZero.mk' (z := .int .i64 0) (by kernel_rfl) rfl rfl
instance : TyConc Try.prog 35 := TyConc.mk' (d := (Try.prog.underlying 35).getD .bool) (by kernel_rfl) (by kernel_rfl)
instance : TyInt Try.prog 35 .i64 := ⟨by kernel_rfl⟩
theorem tv45 : TyVar Try.prog 45 false 1 := TyVar.mk' (d := (Try.prog.underlying 45).getD .bool) (by kernel_rfl) (by kernel_rfl) (by kernel_rfl)
instance : TyVar Try.prog 45 false 1 := tv45
instance : TyZero Try.prog 45 false [.slice none 0 0] := TyZero.mk' (z := .slice none 0 0) (by kernel_rfl) rfl rfl
instance : TyConc Try.prog 45 := TyConc.mk' (d := (Try.prog.underlying 45).getD .bool) (by kernel_rfl) (by kernel_rfl)
instance : TySl Try.prog 45 9 1 16 := TySl.mk' (z := .string ⟨#[]⟩) (by kernel_rfl) (by kernel_rfl) rfl (by decide)
theorem tv50 : TyVar Try.prog 50 false 1 := TyVar.mk' (d := (Try.prog.underlying 50).getD .bool) (by kernel_rfl) (by kernel_rfl) (by kernel_rfl)
instance : TyVar Try.prog 50 false 1 := tv50
instance : TyZero Try.prog 50 false [.slice none 0 0] := TyZero.mk' (z := .slice none 0 0) (by kernel_rfl) rfl rfl
instance : TyConc Try.prog 50 := TyConc.mk' (d := (Try.prog.underlying 50).getD .bool) (by kernel_rfl) (by kernel_rfl)
instance : TySl Try.prog 50 53 9 120 := TySl.mk' (z := .agg #[.int .i64 0, .int .i64 0, .int .i64 0, .slice none 0 0, .slice none 0 0, .int .i64 0, .int .i64 0, .int .i64 0, .slice none 0 0]) (by kernel_rfl) (by kernel_rfl) rfl (by decide)
theorem tv51 : TyVar Try.prog 51 false 1 := TyVar.mk' (d := (Try.prog.underlying 51).getD .bool) (by kernel_rfl) (by kernel_rfl) (by kernel_rfl)
instance : TyVar Try.prog 51 false 1 := tv51
instance : TyZero Try.prog 51 false [.slice none 0 0] := TyZero.mk' (z := .slice none 0 0) (by kernel_rfl) rfl rfl
instance : TyConc Try.prog 51 := TyConc.mk' (d := (Try.prog.underlying 51).getD .bool) (by kernel_rfl) (by kernel_rfl)
instance : TySl Try.prog 51 106 2 32 := TySl.mk' (z := .agg #[.int .i64 0, .slice none 0 0]) (by kernel_rfl) (by kernel_rfl) rfl (by decide)
theorem tv52 : TyVar Try.prog 52 true 9 := TyVar.mk' (d := (Try.prog.underlying 52).getD .bool) (by kernel_rfl) (by kernel_rfl) (by kernel_rfl)
instance : TyVar Try.prog 52 true 9 := tv52
instance : TyZero Try.prog 52 true [.int .i64 0, .int .i64 0, .int .i64 0, .slice none 0 0, .slice none 0 0, .int .i64 0, .int .i64 0, .int .i64 0, .slice none 0 0] := TyZero.mk' (z := .agg #[.int .i64 0, .int .i64 0, .int .i64 0, .slice none 0 0, .slice none 0 0, .int .i64 0, .int .i64 0, .int .i64 0, .slice none 0 0]) (by kernel_rfl) rfl rfl
instance : TyConc Try.prog 52 := TyConc.mk' (d := (Try.prog.underlying 52).getD .bool) (by kernel_rfl) (by kernel_rfl)
instance : TyFldS Try.prog 52 0 0 false 1 := TyFldS.mk' (ft := 3) (by kernel_rfl) (by kernel_rfl) (TyVar.mk' (d := (Try.prog.underlying 3).getD .bool) (by kernel_rfl) (by kernel_rfl) (by kernel_rfl)) (by decide)
instance : TyFldS Try.prog 52 1 1 false 1 := TyFldS.mk' (ft := 3) (by kernel_rfl) (by kernel_rfl) (TyVar.mk' (d := (Try.prog.underlying 3).getD .bool) (by kernel_rfl) (by kernel_rfl) (by kernel_rfl)) (by decide)
instance : TyFldS Try.prog 52 2 2 false 1 := TyFldS.mk' (ft := 3) (by kernel_rfl) (by kernel_rfl) (TyVar.mk' (d := (Try.prog.underlying 3).getD .bool) (by kernel_rfl) (by kernel_rfl) (by kernel_rfl)) (by decide)
instance : TyFldS Try.prog 52 3 3 false 1 := TyFldS.mk' (ft := 27) (by kernel_rfl) (by kernel_rfl) (TyVar.mk' (d := (Try.prog.underlying 27).getD .bool) (by kernel_rfl) (by kernel_rfl) (by kernel_rfl)) (by decide)
instance : TyFldS Try.prog 52 4 4 false 1 := TyFldS.mk' (ft := 27) (by kernel_rfl) (by kernel_rfl) (TyVar.mk' (d := (Try.prog.underlying 27).getD .bool) (by kernel_rfl) (by kernel_rfl) (by kernel_rfl)) (by decide)
instance : TyFldS Try.prog 52 5 5 false 1 := TyFldS.mk' (ft := 3) (by kernel_rfl) (by kernel_rfl) (TyVar.mk' (d := (Try.prog.underlying 3).getD .bool) (by kernel_rfl) (by kernel_rfl) (by kernel_rfl)) (by decide)
instance : TyFldS Try.prog 52 6 6 false 1 := TyFldS.mk' (ft := 3) (by kernel_rfl) (by kernel_rfl) (TyVar.mk' (d := (Try.prog.underlying 3).getD .bool) (by kernel_rfl) (by kernel_rfl) (by kernel_rfl)) (by decide)
instance : TyFldS Try.prog 52 7 7 false 1 := TyFldS.mk' (ft := 3) (by kernel_rfl) (by kernel_rfl) (TyVar.mk' (d := (Try.prog.underlying 3).getD .bool) (by kernel_rfl) (by kernel_rfl) (by kernel_rfl)) (by decide)
instance : TyFldS Try.prog 52 8 8 false 1 := TyFldS.mk' (ft := 51) (by kernel_rfl) (by kernel_rfl) (TyVar.mk' (d := (Try.prog.underlying 51).getD .bool) (by kernel_rfl) (by kernel_rfl) (by kernel_rfl)) (by decide)
instance : TyPlaces Try.prog 52 [(0, 1), (1, 1), (2, 1), (3, 1), (4, 1), (5, 1), (6, 1), (7, 1), (8, 1)] := TyPlaces.mk' (by kernel_rfl) (fun w => by kernel_rfl)
theorem tv53 : TyVar Try.prog 53 true 9 := TyVar.mk' (d := (Try.prog.underlying 53).getD .bool) (by kernel_rfl) (by kernel_rfl) (by kernel_rfl)
instance : TyVar Try.prog 53 true 9 := tv53
instance : TyZero Try.prog 53 true [.int .i64 0, .int .i64 0, .int .i64 0, .slice none 0 0, .slice none 0 0, .int .i64 0, .int .i64 0, .int .i64 0, .slice none 0 0] := TyZero.mk' (z := .agg #[.int .i64 0, .int .i64 0, .int .i64 0, .slice none 0 0, .slice none 0 0, .int .i64 0, .int .i64 0, .int .i64 0, .slice none 0 0]) (by kernel_rfl) rfl rfl
instance : TyConc Try.prog 53 := TyConc.mk' (d := (Try.prog.underlying 53).getD .bool) (by kernel_rfl) (by kernel_rfl)
instance : TyFldS Try.prog 53 0 0 false 1 := TyFldS.mk' (ft := 3) (by kernel_rfl) (by kernel_rfl) (TyVar.mk' (d := (Try.prog.underlying 3).getD .bool) (by kernel_rfl) (by kernel_rfl) (by kernel_rfl)) (by decide)
instance : TyFldS Try.prog 53 1 1 false 1 := TyFldS.mk' (ft := 3) (by kernel_rfl) (by kernel_rfl) (TyVar.mk' (d := (Try.prog.underlying 3).getD .bool) (by kernel_rfl) (by kernel_rfl) (by kernel_rfl)) (by decide)
instance : TyFldS Try.prog 53 2 2 false 1 := TyFldS.mk' (ft := 3) (by kernel_rfl) (by kernel_rfl) (TyVar.mk' (d := (Try.prog.underlying 3).getD .bool) (by kernel_rfl) (by kernel_rfl) (by kernel_rfl)) (by decide)
instance : TyFldS Try.prog 53 3 3 false 1 := TyFldS.mk' (ft := 27) (by kernel_rfl) (by kernel_rfl) (TyVar.mk' (d := (Try.prog.underlying 27).getD .bool) (by kernel_rfl) (by kernel_rfl) (by kernel_rfl)) (by decide)
instance : TyFldS Try.prog 53 4 4 false 1 := TyFldS.mk' (ft := 27) (by kernel_rfl) (by kernel_rfl) (TyVar.mk' (d := (Try.prog.underlying 27).getD .bool) (by kernel_rfl) (by kernel_rfl) (by kernel_rfl)) (by decide)
instance : TyFldS Try.prog 53 5 5 false 1 := TyFldS.mk' (ft := 3) (by kernel_rfl) (by kernel_rfl) (TyVar.mk' (d := (Try.prog.underlying 3).getD .bool) (by kernel_rfl) (by kernel_rfl) (by kernel_rfl)) (by decide)
instance : TyFldS Try.prog 53 6 6 false 1 := TyFldS.mk' (ft := 3) (by kernel_rfl) (by kernel_rfl) (TyVar.mk' (d := (Try.prog.underlying 3).getD .bool) (by kernel_rfl) (by kernel_rfl) (by kernel_rfl)) (by decide)
instance : TyFldS Try.prog 53 7 7 false 1 := TyFldS.mk' (ft := 3) (by kernel_rfl) (by kernel_rfl) (TyVar.mk' (d := (Try.prog.underlying 3).getD .bool) (by kernel_rfl) (by kernel_rfl) (by kernel_rfl)) (by decide)
instance : TyFldS Try.prog 53 8 8 false 1 := TyFldS.mk' (ft := 51) (by kernel_rfl) (by kernel_rfl) (TyVar.mk' (d := (Try.prog.underlying 51).getD .bool) (by kernel_rfl) (by kernel_rfl) (by kernel_rfl)) (by decide)
instance : TyPlaces Try.prog 53 [(0, 1), (1, 1), (2, 1), (3, 1), (4, 1), (5, 1), (6, 1), (7, 1), (8, 1)] := TyPlaces.mk' (by kernel_rfl) (fun w => by kernel_rfl)
theorem tv55 : TyVar Try.prog 55 false 1 := TyVar.mk' (d := (Try.prog.underlying 55).getD .bool) (by kernel_rfl) (by kernel_rfl) (by kernel_rfl)
instance : TyVar Try.prog 55 false 1 := tv55
instance : TyZero Try.prog 55 false [.pointer none] := TyZero.mk' (z := .pointer none) (by kernel_rfl) rfl rfl
instance : TyConc Try.prog 55 := TyConc.mk' (d := (Try.prog.underlying 55).getD .bool) (by kernel_rfl) (by kernel_rfl)
instance : TyPtr Try.prog 55 := ⟨⟨113, by kernel_rfl⟩⟩
theorem tv58 : TyVar Try.prog 58 false 1 := TyVar.mk' (d := (Try.prog.underlying 58).getD .bool) (by kernel_rfl) (by kernel_rfl) (by kernel_rfl)
instance : TyVar Try.prog 58 false 1 := tv58
instance : TyZero Try.prog 58 false [.slice none 0 0] := TyZero.mk' (z := .slice none 0 0) (by kernel_rfl) rfl rfl
instance : TyConc Try.prog 58 := TyConc.mk' (d := (Try.prog.underlying 58).getD .bool) (by kernel_rfl) (by kernel_rfl)
instance : TySl Try.prog 58 75 2 48 := TySl.mk' (z := .agg #[.slice none 0 0, .slice none 0 0]) (by kernel_rfl) (by kernel_rfl) rfl (by decide)
theorem tv60 : TyVar Try.prog 60 false 1 := TyVar.mk' (d := (Try.prog.underlying 60).getD .bool) (by kernel_rfl) (by kernel_rfl) (by kernel_rfl)
instance : TyVar Try.prog 60 false 1 := tv60
instance : TyZero Try.prog 60 false [.slice none 0 0] := TyZero.mk' (z := .slice none 0 0) (by kernel_rfl) rfl rfl
instance : TyConc Try.prog 60 := TyConc.mk' (d := (Try.prog.underlying 60).getD .bool) (by kernel_rfl) (by kernel_rfl)
instance : TySl Try.prog 60 81 2 48 := TySl.mk' (z := .agg #[.slice none 0 0, .slice none 0 0]) (by kernel_rfl) (by kernel_rfl) rfl (by decide)
theorem tv64 : TyVar Try.prog 64 false 1 := TyVar.mk' (d := (Try.prog.underlying 64).getD .bool) (by kernel_rfl) (by kernel_rfl) (by kernel_rfl)
instance : TyVar Try.prog 64 false 1 := tv64
instance : TyZero Try.prog 64 false [.slice none 0 0] := TyZero.mk' (z := .slice none 0 0) (by kernel_rfl) rfl rfl
instance : TyConc Try.prog 64 := TyConc.mk' (d := (Try.prog.underlying 64).getD .bool) (by kernel_rfl) (by kernel_rfl)
instance : TySl Try.prog 64 119 2 32 := TySl.mk' (z := .agg #[.int .i64 0, .slice none 0 0]) (by kernel_rfl) (by kernel_rfl) rfl (by decide)
theorem tv65 : TyVar Try.prog 65 true 9 := TyVar.mk' (d := (Try.prog.underlying 65).getD .bool) (by kernel_rfl) (by kernel_rfl) (by kernel_rfl)
instance : TyVar Try.prog 65 true 9 := tv65
instance : TyZero Try.prog 65 true [.int .i64 0, .int .i64 0, .int .i64 0, .slice none 0 0, .slice none 0 0, .int .i64 0, .int .i64 0, .int .i64 0, .slice none 0 0] := TyZero.mk' (z := .agg #[.int .i64 0, .int .i64 0, .int .i64 0, .slice none 0 0, .slice none 0 0, .int .i64 0, .int .i64 0, .int .i64 0, .slice none 0 0]) (by kernel_rfl) rfl rfl
instance : TyConc Try.prog 65 := TyConc.mk' (d := (Try.prog.underlying 65).getD .bool) (by kernel_rfl) (by kernel_rfl)
instance : TyFldS Try.prog 65 0 0 false 1 := TyFldS.mk' (ft := 3) (by kernel_rfl) (by kernel_rfl) (TyVar.mk' (d := (Try.prog.underlying 3).getD .bool) (by kernel_rfl) (by kernel_rfl) (by kernel_rfl)) (by decide)
instance : TyFldS Try.prog 65 1 1 false 1 := TyFldS.mk' (ft := 3) (by kernel_rfl) (by kernel_rfl) (TyVar.mk' (d := (Try.prog.underlying 3).getD .bool) (by kernel_rfl) (by kernel_rfl) (by kernel_rfl)) (by decide)
instance : TyFldS Try.prog 65 2 2 false 1 := TyFldS.mk' (ft := 3) (by kernel_rfl) (by kernel_rfl) (TyVar.mk' (d := (Try.prog.underlying 3).getD .bool) (by kernel_rfl) (by kernel_rfl) (by kernel_rfl)) (by decide)
instance : TyFldS Try.prog 65 3 3 false 1 := TyFldS.mk' (ft := 27) (by kernel_rfl) (by kernel_rfl) (TyVar.mk' (d := (Try.prog.underlying 27).getD .bool) (by kernel_rfl) (by kernel_rfl) (by kernel_rfl)) (by decide)
instance : TyFldS Try.prog 65 4 4 false 1 := TyFldS.mk' (ft := 27) (by kernel_rfl) (by kernel_rfl) (TyVar.mk' (d := (Try.prog.underlying 27).getD .bool) (by kernel_rfl) (by kernel_rfl) (by kernel_rfl)) (by decide)
instance : TyFldS Try.prog 65 5 5 false 1 := TyFldS.mk' (ft := 3) (by kernel_rfl) (by kernel_rfl) (TyVar.mk' (d := (Try.prog.underlying 3).getD .bool) (by kernel_rfl) (by kernel_rfl) (by kernel_rfl)) (by decide)
instance : TyFldS Try.prog 65 6 6 false 1 := TyFldS.mk' (ft := 3) (by kernel_rfl) (by kernel_rfl) (TyVar.mk' (d := (Try.prog.underlying 3).getD .bool) (by kernel_rfl) (by kernel_rfl) (by kernel_rfl)) (by decide)
instance : TyFldS Try.prog 65 7 7 false 1 := TyFldS.mk' (ft := 3) (by kernel_rfl) (by kernel_rfl) (TyVar.mk' (d := (Try.prog.underlying 3).getD .bool) (by kernel_rfl) (by kernel_rfl) (by kernel_rfl)) (by decide)
instance : TyFldS Try.prog 65 8 8 false 1 := TyFldS.mk' (ft := 64) (by kernel_rfl) (by kernel_rfl) (TyVar.mk' (d := (Try.prog.underlying 64).getD .bool) (by kernel_rfl) (by kernel_rfl) (by kernel_rfl)) (by decide)
instance : TyPlaces Try.prog 65 [(0, 1), (1, 1), (2, 1), (3, 1), (4, 1), (5, 1), (6, 1), (7, 1), (8, 1)] := TyPlaces.mk' (by kernel_rfl) (fun w => by kernel_rfl)
theorem tv66 : TyVar Try.prog 66 true 9 := TyVar.mk' (d := (Try.prog.underlying 66).getD .bool) (by kernel_rfl) (by kernel_rfl) (by kernel_rfl)
instance : TyVar Try.prog 66 true 9 := tv66
instance : TyZero Try.prog 66 true [.int .i64 0, .int .i64 0, .int .i64 0, .slice none 0 0, .slice none 0 0, .int .i64 0, .int .i64 0, .int .i64 0, .slice none 0 0] := TyZero.mk' (z := .agg #[.int .i64 0, .int .i64 0, .int .i64 0, .slice none 0 0, .slice none 0 0, .int .i64 0, .int .i64 0, .int .i64 0, .slice none 0 0]) (by kernel_rfl) rfl rfl
instance : TyConc Try.prog 66 := TyConc.mk' (d := (Try.prog.underlying 66).getD .bool) (by kernel_rfl) (by kernel_rfl)
instance : TyFldS Try.prog 66 0 0 false 1 := TyFldS.mk' (ft := 3) (by kernel_rfl) (by kernel_rfl) (TyVar.mk' (d := (Try.prog.underlying 3).getD .bool) (by kernel_rfl) (by kernel_rfl) (by kernel_rfl)) (by decide)
instance : TyFldS Try.prog 66 1 1 false 1 := TyFldS.mk' (ft := 3) (by kernel_rfl) (by kernel_rfl) (TyVar.mk' (d := (Try.prog.underlying 3).getD .bool) (by kernel_rfl) (by kernel_rfl) (by kernel_rfl)) (by decide)
instance : TyFldS Try.prog 66 2 2 false 1 := TyFldS.mk' (ft := 3) (by kernel_rfl) (by kernel_rfl) (TyVar.mk' (d := (Try.prog.underlying 3).getD .bool) (by kernel_rfl) (by kernel_rfl) (by kernel_rfl)) (by decide)
instance : TyFldS Try.prog 66 3 3 false 1 := TyFldS.mk' (ft := 27) (by kernel_rfl) (by kernel_rfl) (TyVar.mk' (d := (Try.prog.underlying 27).getD .bool) (by kernel_rfl) (by kernel_rfl) (by kernel_rfl)) (by decide)
instance : TyFldS Try.prog 66 4 4 false 1 := TyFldS.mk' (ft := 27) (by kernel_rfl) (by kernel_rfl) (TyVar.mk' (d := (Try.prog.underlying 27).getD .bool) (by kernel_rfl) (by kernel_rfl) (by kernel_rfl)) (by decide)
instance : TyFldS Try.prog 66 5 5 false 1 := TyFldS.mk' (ft := 3) (by kernel_rfl) (by kernel_rfl) (TyVar.mk' (d := (Try.prog.underlying 3).getD .bool) (by kernel_rfl) (by kernel_rfl) (by kernel_rfl)) (by decide)
instance : TyFldS Try.prog 66 6 6 false 1 := TyFldS.mk' (ft := 3) (by kernel_rfl) (by kernel_rfl) (TyVar.mk' (d := (Try.prog.underlying 3).getD .bool) (by kernel_rfl) (by kernel_rfl) (by kernel_rfl)) (by decide)
instance : TyFldS Try.prog 66 7 7 false 1 := TyFldS.mk' (ft := 3) (by kernel_rfl) (by kernel_rfl) (TyVar.mk' (d := (Try.prog.underlying 3).getD .bool) (by kernel_rfl) (by kernel_rfl) (by kernel_rfl)) (by decide)
instance : TyFldS Try.prog 66 8 8 false 1 := TyFldS.mk' (ft := 64) (by kernel_rfl) (by kernel_rfl) (TyVar.mk' (d := (Try.prog.underlying 64).getD .bool) (by kernel_rfl) (by kernel_rfl) (by kernel_rfl)) (by decide)
instance : TyPlaces Try.prog 66 [(0, 1), (1, 1), (2, 1), (3, 1), (4, 1), (5, 1), (6, 1), (7, 1), (8, 1)] := TyPlaces.mk' (by kernel_rfl) (fun w => by kernel_rfl)
theorem tv74 : TyVar Try.prog 74 true 2 := TyVar.mk' (d := (Try.prog.underlying 74).getD .bool) (by kernel_rfl) (by kernel_rfl) (by kernel_rfl)
instance : TyVar Try.prog 74 true 2 := tv74
instance : TyZero Try.prog 74 true [.slice none 0 0, .slice none 0 0] := TyZero.mk' (z := .agg #[.slice none 0 0, .slice none 0 0]) (by kernel_rfl) rfl rfl
instance : TyConc Try.prog 74 := TyConc.mk' (d := (Try.prog.underlying 74).getD .bool) (by kernel_rfl) (by kernel_rfl)
instance : TyFldS Try.prog 74 0 0 false 1 := TyFldS.mk' (ft := 27) (by kernel_rfl) (by kernel_rfl) (TyVar.mk' (d := (Try.prog.underlying 27).getD .bool) (by kernel_rfl) (by kernel_rfl) (by kernel_rfl)) (by decide)
instance : TyFldS Try.prog 74 1 1 false 1 := TyFldS.mk' (ft := 27) (by kernel_rfl) (by kernel_rfl) (TyVar.mk' (d := (Try.prog.underlying 27).getD .bool) (by kernel_rfl) (by kernel_rfl) (by kernel_rfl)) (by decide)
instance : TyPlaces Try.prog 74 [(0, 1), (1, 1)] := TyPlaces.mk' (by kernel_rfl) (fun w => by kernel_rfl)
theorem tv75 : TyVar Try.prog 75 true 2 := TyVar.mk' (d := (Try.prog.underlying 75).getD .bool) (by kernel_rfl) (by kernel_rfl) (by kernel_rfl)
instance : TyVar Try.prog 75 true 2 := tv75
instance : TyZero Try.prog 75 true [.slice none 0 0, .slice none 0 0] := TyZero.mk' (z := .agg #[.slice none 0 0, .slice none 0 0]) (by kernel_rfl) rfl rfl
instance : TyConc Try.prog 75 := TyConc.mk' (d := (Try.prog.underlying 75).getD .bool) (by kernel_rfl) (by kernel_rfl)
instance : TyFldS Try.prog 75 0 0 false 1 := TyFldS.mk' (ft := 27) (by kernel_rfl) (by kernel_rfl) (TyVar.mk' (d := (Try.prog.underlying 27).getD .bool) (by kernel_rfl) (by kernel_rfl) (by kernel_rfl)) (by decide)
instance : TyFldS Try.prog 75 1 1 false 1 := TyFldS.mk' (ft := 27) (by kernel_rfl) (by kernel_rfl) (TyVar.mk' (d := (Try.prog.underlying 27).getD .bool) (by kernel_rfl) (by kernel_rfl) (by kernel_rfl)) (by decide)
instance : TyPlaces Try.prog 75 [(0, 1), (1, 1)] := TyPlaces.mk' (by kernel_rfl) (fun w => by kernel_rfl)
theorem tv80 : TyVar Try.prog 80 false 1 := TyVar.mk' (d := (Try.prog.underlying 80).getD .bool) (by kernel_rfl) (by kernel_rfl) (by kernel_rfl)
instance : TyVar Try.prog 80 false 1 := tv80
instance : TyZero Try.prog 80 false [.map none] := TyZero.mk' (z := .map none) (by kernel_rfl) rfl rfl
instance : TyConc Try.prog 80 := TyConc.mk' (d := (Try.prog.underlying 80).getD .bool) (by kernel_rfl) (by kernel_rfl)
instance : TyMap Try.prog 80 9 4 := ⟨by kernel_rfl⟩
theorem tv81 : TyVar Try.prog 81 true 2 := TyVar.mk' (d := (Try.prog.underlying 81).getD .bool) (by kernel_rfl) (by kernel_rfl) (by kernel_rfl)
instance : TyVar Try.prog 81 true 2 := tv81
instance : TyZero Try.prog 81 true [.slice none 0 0, .slice none 0 0] := TyZero.mk' (z := .agg #[.slice none 0 0, .slice none 0 0]) (by kernel_rfl) rfl rfl
instance : TyConc Try.prog 81 := TyConc.mk' (d := (Try.prog.underlying 81).getD .bool) (by kernel_rfl) (by kernel_rfl)
instance : TyFldS Try.prog 81 0 0 false 1 := TyFldS.mk' (ft := 27) (by kernel_rfl) (by kernel_rfl) (TyVar.mk' (d := (Try.prog.underlying 27).getD .bool) (by kernel_rfl) (by kernel_rfl) (by kernel_rfl)) (by decide)
instance : TyFldS Try.prog 81 1 1 false 1 := TyFldS.mk' (ft := 27) (by kernel_rfl) (by kernel_rfl) (TyVar.mk' (d := (Try.prog.underlying 27).getD .bool) (by kernel_rfl) (by kernel_rfl) (by kernel_rfl)) (by decide)
instance : TyPlaces Try.prog 81 [(0, 1), (1, 1)] := TyPlaces.mk' (by kernel_rfl) (fun w => by kernel_rfl)
theorem tv86 : TyVar Try.prog 86 true 6 := TyVar.mk' (d := (Try.prog.underlying 86).getD .bool) (by kernel_rfl) (by kernel_rfl) (by kernel_rfl)
instance : TyVar Try.prog 86 true 6 := tv86
instance : TyZero Try.prog 86 true [.bool false, .bool false, .bool false, .bool false, .bool false, .bool false] := TyZero.mk' (z := .agg #[.bool false, .bool false, .bool false, .bool false, .bool false, .bool false]) (by kernel_rfl) rfl rfl
instance : TyConc Try.prog 86 := TyConc.mk' (d := (Try.prog.underlying 86).getD .bool) (by kernel_rfl) (by kernel_rfl)
instance : TyArr Try.prog 86 6 4 := ⟨by kernel_rfl⟩
theorem tv90 : TyVar Try.prog 90 false 1 := TyVar.mk' (d := (Try.prog.underlying 90).getD .bool) (by kernel_rfl) (by kernel_rfl) (by kernel_rfl)
instance : TyVar Try.prog 90 false 1 := tv90
instance : TyZero Try.prog 90 false [.map none] := TyZero.mk' (z := .map none) (by kernel_rfl) rfl rfl
instance : TyConc Try.prog 90 := TyConc.mk' (d := (Try.prog.underlying 90).getD .bool) (by kernel_rfl) (by kernel_rfl)
instance : TyMap Try.prog 90 94 26 := ⟨by kernel_rfl⟩
theorem tv91 : TyVar Try.prog 91 true 1 := TyVar.mk' (d := (Try.prog.underlying 91).getD .bool) (by kernel_rfl) (by kernel_rfl) (by kernel_rfl)
instance : TyVar Try.prog 91 true 1 := tv91
instance : TyZero Try.prog 91 true [.map none] := TyZero.mk' (z := .agg #[.map none]) (by kernel_rfl) rfl rfl
instance : TyConc Try.prog 91 := TyConc.mk' (d := (Try.prog.underlying 91).getD .bool) (by kernel_rfl) (by kernel_rfl)
instance : TyFldS Try.prog 91 0 0 false 1 := TyFldS.mk' (ft := 90) (by kernel_rfl) (by kernel_rfl) (TyVar.mk' (d := (Try.prog.underlying 90).getD .bool) (by kernel_rfl) (by kernel_rfl) (by kernel_rfl)) (by decide)
instance : TyPlaces Try.prog 91 [(0, 1)] := TyPlaces.mk' (by kernel_rfl) (fun w => by kernel_rfl)
theorem tv92 : TyVar Try.prog 92 true 1 := TyVar.mk' (d := (Try.prog.underlying 92).getD .bool) (by kernel_rfl) (by kernel_rfl) (by kernel_rfl)
instance : TyVar Try.prog 92 true 1 := tv92
instance : TyZero Try.prog 92 true [.map none] := TyZero.mk' (z := .agg #[.map none]) (by kernel_rfl) rfl rfl
instance : TyConc Try.prog 92 := TyConc.mk' (d := (Try.prog.underlying 92).getD .bool) (by kernel_rfl) (by kernel_rfl)
instance : TyFldS Try.prog 92 0 0 false 1 := TyFldS.mk' (ft := 90) (by kernel_rfl) (by kernel_rfl) (TyVar.mk' (d := (Try.prog.underlying 90).getD .bool) (by kernel_rfl) (by kernel_rfl) (by kernel_rfl)) (by decide)
instance : TyPlaces Try.prog 92 [(0, 1)] := TyPlaces.mk' (by kernel_rfl) (fun w => by kernel_rfl)
theorem tv93 : TyVar Try.prog 93 true 2 := TyVar.mk' (d := (Try.prog.underlying 93).getD .bool) (by kernel_rfl) (by kernel_rfl) (by kernel_rfl)
instance : TyVar Try.prog 93 true 2 := tv93
instance : TyZero Try.prog 93 true [.int .i64 0, .int .i64 0] := TyZero.mk' (z := .agg #[.int .i64 0, .int .i64 0]) (by kernel_rfl) rfl rfl
instance : TyConc Try.prog 93 := TyConc.mk' (d := (Try.prog.underlying 93).getD .bool) (by kernel_rfl) (by kernel_rfl)
instance : TyFldS Try.prog 93 0 0 false 1 := TyFldS.mk' (ft := 3) (by kernel_rfl) (by kernel_rfl) (TyVar.mk' (d := (Try.prog.underlying 3).getD .bool) (by kernel_rfl) (by kernel_rfl) (by kernel_rfl)) (by decide)
instance : TyFldS Try.prog 93 1 1 false 1 := TyFldS.mk' (ft := 3) (by kernel_rfl) (by kernel_rfl) (TyVar.mk' (d := (Try.prog.underlying 3).getD .bool) (by kernel_rfl) (by kernel_rfl) (by kernel_rfl)) (by decide)
instance : TyPlaces Try.prog 93 [(0, 1), (1, 1)] := TyPlaces.mk' (by kernel_rfl) (fun w => by kernel_rfl)
theorem tv94 : TyVar Try.prog 94 true 2 := TyVar.mk' (d := (Try.prog.underlying 94).getD .bool) (by kernel_rfl) (by kernel_rfl) (by kernel_rfl)
instance : TyVar Try.prog 94 true 2 := tv94
instance : TyZero Try.prog 94 true [.int .i64 0, .int .i64 0] := TyZero.mk' (z := .agg #[.int .i64 0, .int .i64 0]) (by kernel_rfl) rfl rfl
instance : TyConc Try.prog 94 := TyConc.mk' (d := (Try.prog.underlying 94).getD .bool) (by kernel_rfl) (by kernel_rfl)
instance : TyFldS Try.prog 94 0 0 false 1 := TyFldS.mk' (ft := 3) (by kernel_rfl) (by kernel_rfl) (TyVar.mk' (d := (Try.prog.underlying 3).getD .bool) (by kernel_rfl) (by kernel_rfl) (by kernel_rfl)) (by decide)
instance : TyFldS Try.prog 94 1 1 false 1 := TyFldS.mk' (ft := 3) (by kernel_rfl) (by kernel_rfl) (TyVar.mk' (d := (Try.prog.underlying 3).getD .bool) (by kernel_rfl) (by kernel_rfl) (by kernel_rfl)) (by decide)
instance : TyPlaces Try.prog 94 [(0, 1), (1, 1)] := TyPlaces.mk' (by kernel_rfl) (fun w => by kernel_rfl)
theorem tv101 : TyVar Try.prog 101 false 1 := TyVar.mk' (d := (Try.prog.underlying 101).getD .bool) (by kernel_rfl) (by kernel_rfl) (by kernel_rfl)
instance : TyVar Try.prog 101 false 1 := tv101
instance : TyZero Try.prog 101 false [.pointer none] := TyZero.mk' (z := .pointer none) (by kernel_rfl) rfl rfl
instance : TyConc Try.prog 101 := TyConc.mk' (d := (Try.prog.underlying 101).getD .bool) (by kernel_rfl) (by kernel_rfl)
instance : TyPtr Try.prog 101 := ⟨⟨131, by kernel_rfl⟩⟩
theorem tv105 : TyVar Try.prog 105 true 2 := TyVar.mk' (d := (Try.prog.underlying 105).getD .bool) (by kernel_rfl) (by kernel_rfl) (by kernel_rfl)
instance : TyVar Try.prog 105 true 2 := tv105
instance : TyZero Try.prog 105 true [.int .i64 0, .slice none 0 0] := TyZero.mk' (z := .agg #[.int .i64 0, .slice none 0 0]) (by kernel_rfl) rfl rfl
instance : TyConc Try.prog 105 := TyConc.mk' (d := (Try.prog.underlying 105).getD .bool) (by kernel_rfl) (by kernel_rfl)
instance : TyFldS Try.prog 105 0 0 false 1 := TyFldS.mk' (ft := 3) (by kernel_rfl) (by kernel_rfl) (TyVar.mk' (d := (Try.prog.underlying 3).getD .bool) (by kernel_rfl) (by kernel_rfl) (by kernel_rfl)) (by decide)
instance : TyFldS Try.prog 105 1 1 false 1 := TyFldS.mk' (ft := 27) (by kernel_rfl) (by kernel_rfl) (TyVar.mk' (d := (Try.prog.underlying 27).getD .bool) (by kernel_rfl) (by kernel_rfl) (by kernel_rfl)) (by decide)
instance : TyPlaces Try.prog 105 [(0, 1), (1, 1)] := TyPlaces.mk' (by kernel_rfl) (fun w => by kernel_rfl)
theorem tv106 : TyVar Try.prog 106 true 2 := TyVar.mk' (d := (Try.prog.underlying 106).getD .bool) (by kernel_rfl) (by kernel_rfl) (by kernel_rfl)
instance : TyVar Try.prog 106 true 2 := tv106
instance : TyZero Try.prog 106 true [.int .i64 0, .slice none 0 0] := TyZero.mk' (z := .agg #[.int .i64 0, .slice none 0 0]) (by kernel_rfl) rfl rfl
instance : TyConc Try.prog 106 := TyConc.mk' (d := (Try.prog.underlying 106).getD .bool) (by kernel_rfl) (by kernel_rfl)
instance : TyFldS Try.prog 106 0 0 false 1 := TyFldS.mk' (ft := 3) (by kernel_rfl) (by kernel_rfl) (TyVar.mk' (d := (Try.prog.underlying 3).getD .bool) (by kernel_rfl) (by kernel_rfl) (by kernel_rfl)) (by decide)
instance : TyFldS Try.prog 106 1 1 false 1 := TyFldS.mk' (ft := 27) (by kernel_rfl) (by kernel_rfl) (TyVar.mk' (d := (Try.prog.underlying 27).getD .bool) (by kernel_rfl) (by kernel_rfl) (by kernel_rfl)) (by decide)
instance : TyPlaces Try.prog 106 [(0, 1), (1, 1)] := TyPlaces.mk' (by kernel_rfl) (fun w => by kernel_rfl)
theorem tv111 : TyVar Try.prog 111 false 1 := TyVar.mk' (d := (Try.prog.underlying 111).getD .bool) (by kernel_rfl) (by kernel_rfl) (by kernel_rfl)
instance : TyVar Try.prog 111 false 1 := tv111
instance : TyZero Try.prog 111 false [.map none] := TyZero.mk' (z := .map none) (by kernel_rfl) rfl rfl
instance : TyConc Try.prog 111 := TyConc.mk' (d := (Try.prog.underlying 111).getD .bool) (by kernel_rfl) (by kernel_rfl)
instance : TyMap Try.prog 111 9 9 := ⟨by kernel_rfl⟩
theorem tv112 : TyVar Try.prog 112 true 1 := TyVar.mk' (d := (Try.prog.underlying 112).getD .bool) (by kernel_rfl) (by kernel_rfl) (by kernel_rfl)
instance : TyVar Try.prog 112 true 1 := tv112
instance : TyZero Try.prog 112 true [.map none] := TyZero.mk' (z := .agg #[.map none]) (by kernel_rfl) rfl rfl
instance : TyConc Try.prog 112 := TyConc.mk' (d := (Try.prog.underlying 112).getD .bool) (by kernel_rfl) (by kernel_rfl)
instance : TyFldS Try.prog 112 0 0 false 1 := TyFldS.mk' (ft := 111) (by kernel_rfl) (by kernel_rfl) (TyVar.mk' (d := (Try.prog.underlying 111).getD .bool) (by kernel_rfl) (by kernel_rfl) (by kernel_rfl)) (by decide)
instance : TyPlaces Try.prog 112 [(0, 1)] := TyPlaces.mk' (by kernel_rfl) (fun w => by kernel_rfl)
theorem tv113 : TyVar Try.prog 113 true 1 := TyVar.mk' (d := (Try.prog.underlying 113).getD .bool) (by kernel_rfl) (by kernel_rfl) (by kernel_rfl)
instance : TyVar Try.prog 113 true 1 := tv113
instance : TyZero Try.prog 113 true [.map none] := TyZero.mk' (z := .agg #[.map none]) (by kernel_rfl) rfl rfl
instance : TyConc Try.prog 113 := TyConc.mk' (d := (Try.prog.underlying 113).getD .bool) (by kernel_rfl) (by kernel_rfl)
instance : TyFldS Try.prog 113 0 0 false 1 := TyFldS.mk' (ft := 111) (by kernel_rfl) (by kernel_rfl) (TyVar.mk' (d := (Try.prog.underlying 111).getD .bool) (by kernel_rfl) (by kernel_rfl) (by kernel_rfl)) (by decide)
instance : TyPlaces Try.prog 113 [(0, 1)] := TyPlaces.mk' (by kernel_rfl) (fun w => by kernel_rfl)
theorem tv119 : TyVar Try.prog 119 true 2 := TyVar.mk' (d := (Try.prog.underlying 119).getD .bool) (by kernel_rfl) (by kernel_rfl) (by kernel_rfl)
instance : TyVar Try.prog 119 true 2 := tv119
instance : TyZero Try.prog 119 true [.int .i64 0, .slice none 0 0] := TyZero.mk' (z := .agg #[.int .i64 0, .slice none 0 0]) (by kernel_rfl) rfl rfl
instance : TyConc Try.prog 119 := TyConc.mk' (d := (Try.prog.underlying 119).getD .bool) (by kernel_rfl) (by kernel_rfl)
instance : TyFldS Try.prog 119 0 0 false 1 := TyFldS.mk' (ft := 3) (by kernel_rfl) (by kernel_rfl) (TyVar.mk' (d := (Try.prog.underlying 3).getD .bool) (by kernel_rfl) (by kernel_rfl) (by kernel_rfl)) (by decide)
instance : TyFldS Try.prog 119 1 1 false 1 := TyFldS.mk' (ft := 27) (by kernel_rfl) (by kernel_rfl) (TyVar.mk' (d := (Try.prog.underlying 27).getD .bool) (by kernel_rfl) (by kernel_rfl) (by kernel_rfl)) (by decide)
instance : TyPlaces Try.prog 119 [(0, 1), (1, 1)] := TyPlaces.mk' (by kernel_rfl) (fun w => by kernel_rfl)
theorem tv124 : TyVar Try.prog 124 false 1 := TyVar.mk' (d := (Try.prog.underlying 124).getD .bool) (by kernel_rfl) (by kernel_rfl) (by kernel_rfl)
instance : TyVar Try.prog 124 false 1 := tv124
instance : TyZero Try.prog 124 false [.slice none 0 0] := TyZero.mk' (z := .slice none 0 0) (by kernel_rfl) rfl rfl
instance : TyConc Try.prog 124 := TyConc.mk' (d := (Try.prog.underlying 124).getD .bool) (by kernel_rfl) (by kernel_rfl)
instance : TySl Try.prog 124 20 1 16 := TySl.mk' (z := .nilIface) (by kernel_rfl) (by kernel_rfl) rfl (by decide)
theorem tv130 : TyVar Try.prog 130 true 2 := TyVar.mk' (d := (Try.prog.underlying 130).getD .bool) (by kernel_rfl) (by kernel_rfl) (by kernel_rfl)
instance : TyVar Try.prog 130 true 2 := tv130
instance : TyZero Try.prog 130 true [.slice none 0 0, .bool false] := TyZero.mk' (z := .agg #[.slice none 0 0, .bool false]) (by kernel_rfl) rfl rfl
instance : TyConc Try.prog 130 := TyConc.mk' (d := (Try.prog.underlying 130).getD .bool) (by kernel_rfl) (by kernel_rfl)
instance : TyFldS Try.prog 130 0 0 false 1 := TyFldS.mk' (ft := 27) (by kernel_rfl) (by kernel_rfl) (TyVar.mk' (d := (Try.prog.underlying 27).getD .bool) (by kernel_rfl) (by kernel_rfl) (by kernel_rfl)) (by decide)
instance : TyFldS Try.prog 130 1 1 false 1 := TyFldS.mk' (ft := 4) (by kernel_rfl) (by kernel_rfl) (TyVar.mk' (d := (Try.prog.underlying 4).getD .bool) (by kernel_rfl) (by kernel_rfl) (by kernel_rfl)) (by decide)
instance : TyPlaces Try.prog 130 [(0, 1), (1, 1)] := TyPlaces.mk' (by kernel_rfl) (fun w => by kernel_rfl)
theorem tv131 : TyVar Try.prog 131 true 2 := TyVar.mk' (d := (Try.prog.underlying 131).getD .bool) (by kernel_rfl) (by kernel_rfl) (by kernel_rfl)
instance : TyVar Try.prog 131 true 2 := tv131
instance : TyZero Try.prog 131 true [.slice none 0 0, .bool false] := TyZero.mk' (z := .agg #[.slice none 0 0, .bool false]) (by kernel_rfl) rfl rfl
instance : TyConc Try.prog 131 := TyConc.mk' (d := (Try.prog.underlying 131).getD .bool) (by kernel_rfl) (by kernel_rfl)
instance : TyFldS Try.prog 131 0 0 false 1 := TyFldS.mk' (ft := 27) (by kernel_rfl) (by kernel_rfl) (TyVar.mk' (d := (Try.prog.underlying 27).getD .bool) (by kernel_rfl) (by kernel_rfl) (by kernel_rfl)) (by decide)
instance : TyFldS Try.prog 131 1 1 false 1 := TyFldS.mk' (ft := 4) (by kernel_rfl) (by kernel_rfl) (TyVar.mk' (d := (Try.prog.underlying 4).getD .bool) (by kernel_rfl) (by kernel_rfl) (by kernel_rfl)) (by decide)
instance : TyPlaces Try.prog 131 [(0, 1), (1, 1)] := TyPlaces.mk' (by kernel_rfl) (fun w => by kernel_rfl)
theorem tv140 : TyVar Try.prog 140 false 1 := TyVar.mk' (d := (Try.prog.underlying 140).getD .bool) (by kernel_rfl) (by kernel_rfl) (by kernel_rfl)
instance : TyVar Try.prog 140 false 1 := tv140
instance : TyZero Try.prog 140 false [.int .u64 0] := TyZero.mk' (z := .int .u64 0) (by kernel_rfl) rfl rfl
instance : TyConc Try.prog 140 := TyConc.mk' (d := (Try.prog.underlying 140).getD .bool) (by kernel_rfl) (by kernel_rfl)
instance : TyInt Try.prog 140 .u64 := ⟨by kernel_rfl⟩
theorem tv147 : TyVar Try.prog 147 false 1 := TyVar.mk' (d := (Try.prog.underlying 147).getD .bool) (by kernel_rfl) (by kernel_rfl) (by kernel_rfl)
instance : TyVar Try.prog 147 false 1 := tv147
instance : TyZero Try.prog 147 false [.int .i64 0] := TyZero.mk' (z := .int .i64 0) (by kernel_rfl) rfl rfl
instance : TyConc Try.prog 147 := TyConc.mk' (d := (Try.prog.underlying 147).getD .bool) (by kernel_rfl) (by kernel_rfl)
instance : TyInt Try.prog 147 .i64 := ⟨by kernel_rfl⟩
theorem tv156 : TyVar Try.prog 156 false 1 := TyVar.mk' (d := (Try.prog.underlying 156).getD .bool) (by kernel_rfl) (by kernel_rfl) (by kernel_rfl)
instance : TyVar Try.prog 156 false 1 := tv156
instance : TyZero Try.prog 156 false [.int .u32 0] := TyZero.mk' (z := .int .u32 0) (by kernel_rfl) rfl rfl
instance : TyConc Try.prog 156 := TyConc.mk' (d := (Try.prog.underlying 156).getD .bool) (by kernel_rfl) (by kernel_rfl)
instance : TyInt Try.prog 156 .u32 := ⟨by kernel_rfl⟩
theorem tv158 : TyVar Try.prog 158 false 1 := TyVar.mk' (d := (Try.prog.underlying 158).getD .bool) (by kernel_rfl) (by kernel_rfl) (by kernel_rfl)
instance : TyVar Try.prog 158 false 1 := tv158
instance : TyZero Try.prog 158 false [.int .u64 0] := TyZero.mk' (z := .int .u64 0) (by kernel_rfl) rfl rfl
instance : TyConc Try.prog 158 := TyConc.mk' (d := (Try.prog.underlying 158).getD .bool) (by kernel_rfl) (by kernel_rfl)
instance : TyInt Try.prog 158 .u64 := ⟨by kernel_rfl⟩
theorem tv159 : TyVar Try.prog 159 false 1 := TyVar.mk' (d := (Try.prog.underlying 159).getD .bool) (by kernel_rfl) (by kernel_rfl) (by kernel_rfl)
instance : TyVar Try.prog 159 false 1 := tv159
instance : TyZero Try.prog 159 false [.int .u64 0] := TyZero.mk' (z := .int .u64 0) (by kernel_rfl) rfl rfl
instance : TyConc Try.prog 159 := TyConc.mk' (d := (Try.prog.underlying 159).getD .bool) (by kernel_rfl) (by kernel_rfl)
instance : TyInt Try.prog 159 .u64 := ⟨by kernel_rfl⟩
theorem tv163 : TyVar Try.prog 163 false 1 := TyVar.mk' (d := (Try.prog.underlying 163).getD .bool) (by kernel_rfl) (by kernel_rfl) (by kernel_rfl)
instance : TyVar Try.prog 163 false 1 := tv163
instance : TyZero Try.prog 163 false [.pointer none] := TyZero.mk' (z := .pointer none) (by kernel_rfl) rfl rfl
instance : TyConc Try.prog 163 := TyConc.mk' (d := (Try.prog.underlying 163).getD .bool) (by kernel_rfl) (by kernel_rfl)
instance : TyPtr Try.prog 163 := ⟨⟨3, by kernel_rfl⟩⟩
theorem tv165 : TyVar Try.prog 165 false 1 := TyVar.mk' (d := (Try.prog.underlying 165).getD .bool) (by kernel_rfl) (by kernel_rfl) (by kernel_rfl)
instance : TyVar Try.prog 165 false 1 := tv165
instance : TyZero Try.prog 165 false [.pointer none] := TyZero.mk' (z := .pointer none) (by kernel_rfl) rfl rfl
instance : TyConc Try.prog 165 := TyConc.mk' (d := (Try.prog.underlying 165).getD .bool) (by kernel_rfl) (by kernel_rfl)
instance : TyPtr Try.prog 165 := ⟨⟨159, by kernel_rfl⟩⟩
theorem tv177 : TyVar Try.prog 177 false 1 := TyVar.mk' (d := (Try.prog.underlying 177).getD .bool) (by kernel_rfl) (by kernel_rfl) (by kernel_rfl)
instance : TyVar Try.prog 177 false 1 := tv177
instance : TyZero Try.prog 177 false [.pointer none] := TyZero.mk' (z := .pointer none) (by kernel_rfl) rfl rfl
instance : TyConc Try.prog 177 := TyConc.mk' (d := (Try.prog.underlying 177).getD .bool) (by kernel_rfl) (by kernel_rfl)
instance : TyPtr Try.prog 177 := ⟨⟨5, by kernel_rfl⟩⟩
theorem tv182 : TyVar Try.prog 182 false 1 := TyVar.mk' (d := (Try.prog.underlying 182).getD .bool) (by kernel_rfl) (by kernel_rfl) (by kernel_rfl)
instance : TyVar Try.prog 182 false 1 := tv182
instance : TyZero Try.prog 182 false [.pointer none] := TyZero.mk' (z := .pointer none) (by kernel_rfl) rfl rfl
instance : TyConc Try.prog 182 := TyConc.mk' (d := (Try.prog.underlying 182).getD .bool) (by kernel_rfl) (by kernel_rfl)
instance : TyKey Try.prog 9 (.one .str) := TyKey.str (by kernel_rfl)
theorem laid_ : laidOutB Try.prog = true := by kernel_rfl
instance : TyKey Try.prog 94 (.row [.int .i64, .int .i64]) := TyKey.row (fs := match Try.prog.underlying 94 with | some (.struct fs) => fs | _ => #[]) laid_ (by kernel_rfl) (by kernel_rfl) (by kernel_rfl) (by kernel_rfl) (by kernel_rfl) (by kernel_rfl)
end Go.Proofs.Ytnjkklkjlloedaa
