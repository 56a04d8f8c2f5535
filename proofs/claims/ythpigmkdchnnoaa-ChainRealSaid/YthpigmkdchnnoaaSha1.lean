/- Contracts of sha.right and sha.k. -/
import Derived.Test.YthpigmkdchnnoaaCode1
namespace Go.Proofs.Ythpigmkdchnnoaa
open Go.RowKit
set_option linter.unusedVariables false

def u32 (n : Nat) : Value := .int .u32 n
/-- A number of 32 bits turned right. -/
def rotr (n x : Nat) : Nat := x * 2 ^ (32 - n) % 4294967296 ||| x / 2 ^ n
theorem wraps_u32 (n : Int) (h₀ : 0 ≤ n) (h₁ : n < 2 ^ 32) : IntKind.u32.wrap n = n := by rw [IntKind.wrap_u32]; omega
theorem and_u32 (a b : Nat) (ha : a < 4294967296) (hb : b < 4294967296) : bits .and .u32 a b = ((a &&& b : Nat) : Int) := (bits_nat .u32 32 (by decide) wraps_u32 a b ha hb).1
theorem or_u32 (a b : Nat) (ha : a < 4294967296) (hb : b < 4294967296) : bits .or .u32 a b = ((a ||| b : Nat) : Int) := (bits_nat .u32 32 (by decide) wraps_u32 a b ha hb).2
theorem xor_u32 (a b : Nat) (ha : a < 4294967296) (hb : b < 4294967296) : bits .xor .u32 a b = ((a ^^^ b : Nat) : Int) := by
  have ha' : a % 2 ^ 32 = a := Nat.mod_eq_of_lt ha
  have hb' : b % 2 ^ 32 = b := Nat.mod_eq_of_lt hb
  have hx : a ^^^ b < 2 ^ 32 := Nat.xor_lt_two_pow ha hb
  simp only [bits, BitVec.ofInt_natCast, BitVec.toNat_xor, BitVec.toNat_ofNat, show IntKind.u32.bits = 32 from rfl, ha', hb']
  exact wraps_u32 _ (Int.natCast_nonneg _) (by exact_mod_cast hx)
theorem rotr_lt (n x : Nat) (hx : x < 4294967296) : rotr n x < 4294967296 := by
  unfold rotr
  exact Nat.or_lt_two_pow (n := 32) (Nat.mod_lt _ (by decide)) (Nat.lt_of_le_of_lt (Nat.div_le_self _ _) hx)

def ValPost (w : World) (v : Value) (e : Ending) (w' : World) : Prop := e = .returned v ∧ w = w'

theorem right_2 (x : Nat) (hx : x < 4294967296) (w : World) : Calls Try.prog 55 #[.int .u32 x, .int .i64 2] w (ValPost w (u32 (rotr 2 x))) := by
  have hb : bits BinOp.and IntKind.u64 (IntKind.u64.wrap (-2)) 31 = 30 := by decide
  have ho : bits BinOp.or IntKind.u32 ((x : Int) * 1073741824 % 4294967296) ((x : Int) / 4) = (rotr 2 x : Nat) := by
    rw [show ((x : Int) * 1073741824 % 4294967296) = ((x * 1073741824 % 4294967296 : Nat) : Int) from by omega, show ((x : Int) / 4) = ((x / 4 : Nat) : Int) from by omega]
    exact or_u32 _ _ (Nat.mod_lt _ (by decide)) (by omega)
  have HO := Lib.hid ho
  clear ho
  go_enter Try.func55, Try.ntmps55
  go_wp2
  go_ret
  refine ⟨?_, rfl⟩
  show Ending.returned (.int .u32 (bits BinOp.or IntKind.u32 ((x : Int) * 1073741824 % 4294967296) ((x : Int) / 4))) = _
  rw [HO.out]; rfl

theorem right_6 (x : Nat) (hx : x < 4294967296) (w : World) : Calls Try.prog 55 #[.int .u32 x, .int .i64 6] w (ValPost w (u32 (rotr 6 x))) := by
  have hb : bits BinOp.and IntKind.u64 (IntKind.u64.wrap (-6)) 31 = 26 := by decide
  have ho : bits BinOp.or IntKind.u32 ((x : Int) * 67108864 % 4294967296) ((x : Int) / 64) = (rotr 6 x : Nat) := by
    rw [show ((x : Int) * 67108864 % 4294967296) = ((x * 67108864 % 4294967296 : Nat) : Int) from by omega, show ((x : Int) / 64) = ((x / 64 : Nat) : Int) from by omega]
    exact or_u32 _ _ (Nat.mod_lt _ (by decide)) (by omega)
  have HO := Lib.hid ho
  clear ho
  go_enter Try.func55, Try.ntmps55
  go_wp2
  go_ret
  refine ⟨?_, rfl⟩
  show Ending.returned (.int .u32 (bits BinOp.or IntKind.u32 ((x : Int) * 67108864 % 4294967296) ((x : Int) / 64))) = _
  rw [HO.out]; rfl

theorem right_11 (x : Nat) (hx : x < 4294967296) (w : World) : Calls Try.prog 55 #[.int .u32 x, .int .i64 11] w (ValPost w (u32 (rotr 11 x))) := by
  have hb : bits BinOp.and IntKind.u64 (IntKind.u64.wrap (-11)) 31 = 21 := by decide
  have ho : bits BinOp.or IntKind.u32 ((x : Int) * 2097152 % 4294967296) ((x : Int) / 2048) = (rotr 11 x : Nat) := by
    rw [show ((x : Int) * 2097152 % 4294967296) = ((x * 2097152 % 4294967296 : Nat) : Int) from by omega, show ((x : Int) / 2048) = ((x / 2048 : Nat) : Int) from by omega]
    exact or_u32 _ _ (Nat.mod_lt _ (by decide)) (by omega)
  have HO := Lib.hid ho
  clear ho
  go_enter Try.func55, Try.ntmps55
  go_wp2
  go_ret
  refine ⟨?_, rfl⟩
  show Ending.returned (.int .u32 (bits BinOp.or IntKind.u32 ((x : Int) * 2097152 % 4294967296) ((x : Int) / 2048))) = _
  rw [HO.out]; rfl

theorem right_13 (x : Nat) (hx : x < 4294967296) (w : World) : Calls Try.prog 55 #[.int .u32 x, .int .i64 13] w (ValPost w (u32 (rotr 13 x))) := by
  have hb : bits BinOp.and IntKind.u64 (IntKind.u64.wrap (-13)) 31 = 19 := by decide
  have ho : bits BinOp.or IntKind.u32 ((x : Int) * 524288 % 4294967296) ((x : Int) / 8192) = (rotr 13 x : Nat) := by
    rw [show ((x : Int) * 524288 % 4294967296) = ((x * 524288 % 4294967296 : Nat) : Int) from by omega, show ((x : Int) / 8192) = ((x / 8192 : Nat) : Int) from by omega]
    exact or_u32 _ _ (Nat.mod_lt _ (by decide)) (by omega)
  have HO := Lib.hid ho
  clear ho
  go_enter Try.func55, Try.ntmps55
  go_wp2
  go_ret
  refine ⟨?_, rfl⟩
  show Ending.returned (.int .u32 (bits BinOp.or IntKind.u32 ((x : Int) * 524288 % 4294967296) ((x : Int) / 8192))) = _
  rw [HO.out]; rfl

theorem right_22 (x : Nat) (hx : x < 4294967296) (w : World) : Calls Try.prog 55 #[.int .u32 x, .int .i64 22] w (ValPost w (u32 (rotr 22 x))) := by
  have hb : bits BinOp.and IntKind.u64 (IntKind.u64.wrap (-22)) 31 = 10 := by decide
  have ho : bits BinOp.or IntKind.u32 ((x : Int) * 1024 % 4294967296) ((x : Int) / 4194304) = (rotr 22 x : Nat) := by
    rw [show ((x : Int) * 1024 % 4294967296) = ((x * 1024 % 4294967296 : Nat) : Int) from by omega, show ((x : Int) / 4194304) = ((x / 4194304 : Nat) : Int) from by omega]
    exact or_u32 _ _ (Nat.mod_lt _ (by decide)) (by omega)
  have HO := Lib.hid ho
  clear ho
  go_enter Try.func55, Try.ntmps55
  go_wp2
  go_ret
  refine ⟨?_, rfl⟩
  show Ending.returned (.int .u32 (bits BinOp.or IntKind.u32 ((x : Int) * 1024 % 4294967296) ((x : Int) / 4194304))) = _
  rw [HO.out]; rfl

theorem right_25 (x : Nat) (hx : x < 4294967296) (w : World) : Calls Try.prog 55 #[.int .u32 x, .int .i64 25] w (ValPost w (u32 (rotr 25 x))) := by
  have hb : bits BinOp.and IntKind.u64 (IntKind.u64.wrap (-25)) 31 = 7 := by decide
  have ho : bits BinOp.or IntKind.u32 ((x : Int) * 128 % 4294967296) ((x : Int) / 33554432) = (rotr 25 x : Nat) := by
    rw [show ((x : Int) * 128 % 4294967296) = ((x * 128 % 4294967296 : Nat) : Int) from by omega, show ((x : Int) / 33554432) = ((x / 33554432 : Nat) : Int) from by omega]
    exact or_u32 _ _ (Nat.mod_lt _ (by decide)) (by omega)
  have HO := Lib.hid ho
  clear ho
  go_enter Try.func55, Try.ntmps55
  go_wp2
  go_ret
  refine ⟨?_, rfl⟩
  show Ending.returned (.int .u32 (bits BinOp.or IntKind.u32 ((x : Int) * 128 % 4294967296) ((x : Int) / 33554432))) = _
  rw [HO.out]; rfl

theorem right_7 (x : Nat) (hx : x < 4294967296) (w : World) : Calls Try.prog 55 #[.int .u32 x, .int .i64 7] w (ValPost w (u32 (rotr 7 x))) := by
  have hb : bits BinOp.and IntKind.u64 (IntKind.u64.wrap (-7)) 31 = 25 := by decide
  have ho : bits BinOp.or IntKind.u32 ((x : Int) * 33554432 % 4294967296) ((x : Int) / 128) = (rotr 7 x : Nat) := by
    rw [show ((x : Int) * 33554432 % 4294967296) = ((x * 33554432 % 4294967296 : Nat) : Int) from by omega, show ((x : Int) / 128) = ((x / 128 : Nat) : Int) from by omega]
    exact or_u32 _ _ (Nat.mod_lt _ (by decide)) (by omega)
  have HO := Lib.hid ho
  clear ho
  go_enter Try.func55, Try.ntmps55
  go_wp2
  go_ret
  refine ⟨?_, rfl⟩
  show Ending.returned (.int .u32 (bits BinOp.or IntKind.u32 ((x : Int) * 33554432 % 4294967296) ((x : Int) / 128))) = _
  rw [HO.out]; rfl

theorem right_17 (x : Nat) (hx : x < 4294967296) (w : World) : Calls Try.prog 55 #[.int .u32 x, .int .i64 17] w (ValPost w (u32 (rotr 17 x))) := by
  have hb : bits BinOp.and IntKind.u64 (IntKind.u64.wrap (-17)) 31 = 15 := by decide
  have ho : bits BinOp.or IntKind.u32 ((x : Int) * 32768 % 4294967296) ((x : Int) / 131072) = (rotr 17 x : Nat) := by
    rw [show ((x : Int) * 32768 % 4294967296) = ((x * 32768 % 4294967296 : Nat) : Int) from by omega, show ((x : Int) / 131072) = ((x / 131072 : Nat) : Int) from by omega]
    exact or_u32 _ _ (Nat.mod_lt _ (by decide)) (by omega)
  have HO := Lib.hid ho
  clear ho
  go_enter Try.func55, Try.ntmps55
  go_wp2
  go_ret
  refine ⟨?_, rfl⟩
  show Ending.returned (.int .u32 (bits BinOp.or IntKind.u32 ((x : Int) * 32768 % 4294967296) ((x : Int) / 131072))) = _
  rw [HO.out]; rfl

theorem right_18 (x : Nat) (hx : x < 4294967296) (w : World) : Calls Try.prog 55 #[.int .u32 x, .int .i64 18] w (ValPost w (u32 (rotr 18 x))) := by
  have hb : bits BinOp.and IntKind.u64 (IntKind.u64.wrap (-18)) 31 = 14 := by decide
  have ho : bits BinOp.or IntKind.u32 ((x : Int) * 16384 % 4294967296) ((x : Int) / 262144) = (rotr 18 x : Nat) := by
    rw [show ((x : Int) * 16384 % 4294967296) = ((x * 16384 % 4294967296 : Nat) : Int) from by omega, show ((x : Int) / 262144) = ((x / 262144 : Nat) : Int) from by omega]
    exact or_u32 _ _ (Nat.mod_lt _ (by decide)) (by omega)
  have HO := Lib.hid ho
  clear ho
  go_enter Try.func55, Try.ntmps55
  go_wp2
  go_ret
  refine ⟨?_, rfl⟩
  show Ending.returned (.int .u32 (bits BinOp.or IntKind.u32 ((x : Int) * 16384 % 4294967296) ((x : Int) / 262144))) = _
  rw [HO.out]; rfl

theorem right_19 (x : Nat) (hx : x < 4294967296) (w : World) : Calls Try.prog 55 #[.int .u32 x, .int .i64 19] w (ValPost w (u32 (rotr 19 x))) := by
  have hb : bits BinOp.and IntKind.u64 (IntKind.u64.wrap (-19)) 31 = 13 := by decide
  have ho : bits BinOp.or IntKind.u32 ((x : Int) * 8192 % 4294967296) ((x : Int) / 524288) = (rotr 19 x : Nat) := by
    rw [show ((x : Int) * 8192 % 4294967296) = ((x * 8192 % 4294967296 : Nat) : Int) from by omega, show ((x : Int) / 524288) = ((x / 524288 : Nat) : Int) from by omega]
    exact or_u32 _ _ (Nat.mod_lt _ (by decide)) (by omega)
  have HO := Lib.hid ho
  clear ho
  go_enter Try.func55, Try.ntmps55
  go_wp2
  go_ret
  refine ⟨?_, rfl⟩
  show Ending.returned (.int .u32 (bits BinOp.or IntKind.u32 ((x : Int) * 8192 % 4294967296) ((x : Int) / 524288))) = _
  rw [HO.out]; rfl

/-- The rounds' numbers. -/
def kL : List Nat := [1116352408, 1899447441, 3049323471, 3921009573, 961987163, 1508970993, 2453635748, 2870763221, 3624381080, 310598401, 607225278, 1426881987, 1925078388, 2162078206, 2614888103, 3248222580, 3835390401, 4022224774, 264347078, 604807628, 770255983, 1249150122, 1555081692, 1996064986, 2554220882, 2821834349, 2952996808, 3210313671, 3336571891, 3584528711, 113926993, 338241895, 666307205, 773529912, 1294757372, 1396182291, 1695183700, 1986661051, 2177026350, 2456956037, 2730485921, 2820302411, 3259730800, 3345764771, 3516065817, 3600352804, 4094571909, 275423344, 430227734, 506948616, 659060556, 883997877, 958139571, 1322822218, 1537002063, 1747873779, 1955562222, 2024104815, 2227730452, 2361852424, 2428436474, 2756734187, 3204031479, 3329325298]
theorem kL_lt (t : Nat) : kL.getD t 0 < 4294967296 := by
  by_cases h : t < 64
  · have : ∀ t : Fin 64, kL.getD t.1 0 < 4294967296 := by decide
    exact this ⟨t, h⟩
  · rw [List.getD_eq_getElem?_getD, List.getElem?_eq_none (by show 64 ≤ t; omega)]; decide

theorem run_index_row {P : Program} {T e : TypeId} {len : Nat} (hT : P.underlying T = some (.array len e)) {k : IntKind} (he : P.underlying e = some (.int k)) (hi : (P.info? e).map (·.size) = some 1) (w : World) (cs : Array Value) (t : Nat) (ht : t < len) (v : Value) (hv : cs[t]? = some v) :
    (Instr.index T (.agg cs) (.int .i64 t)).run P w = .ok v w := by
  obtain ⟨i, hi', hs⟩ : ∃ i, P.info? e = some i ∧ i.size = 1 := by
    cases h : P.info? e with
    | none => rw [h] at hi; cases hi
    | some i => rw [h] at hi; exact ⟨i, rfl, by simpa using hi⟩
  have h1 : (0 : Int) ≤ (t : Int) ∧ (t : Int) < (len : Int) := ⟨by omega, by omega⟩
  simp [Instr.index, run_underlying hT, h1, sizeOf, typeInfo, hi', hs, part, isAgg, run_underlying he, hv, asIntOf]
  intro h; omega

/-- The array of the rounds' numbers, as a value. -/
def kV : Array Value := (kL.map u32).toArray
theorem kV_get (t : Nat) (h : t < 64) : kV[t]? = some (u32 (kL.getD t 0)) := by
  have hl : t < kL.length := h
  simp [kV, hl]
theorem run_index_k (t : Nat) (h : t < 64) (w : World) : (Instr.index 107 (.agg kV) (.int .i64 t)).run Try.prog w = .ok (u32 (kL.getD t 0)) w :=
  run_index_row Try.underlying107 Try.underlying102 (by kernel_rfl) w kV t h _ (kV_get t h)

theorem kV_lit : kV = #[.int .u32 1116352408, .int .u32 1899447441, .int .u32 3049323471, .int .u32 3921009573, .int .u32 961987163, .int .u32 1508970993, .int .u32 2453635748, .int .u32 2870763221, .int .u32 3624381080, .int .u32 310598401, .int .u32 607225278, .int .u32 1426881987, .int .u32 1925078388, .int .u32 2162078206, .int .u32 2614888103, .int .u32 3248222580, .int .u32 3835390401, .int .u32 4022224774, .int .u32 264347078, .int .u32 604807628, .int .u32 770255983, .int .u32 1249150122, .int .u32 1555081692, .int .u32 1996064986, .int .u32 2554220882, .int .u32 2821834349, .int .u32 2952996808, .int .u32 3210313671, .int .u32 3336571891, .int .u32 3584528711, .int .u32 113926993, .int .u32 338241895, .int .u32 666307205, .int .u32 773529912, .int .u32 1294757372, .int .u32 1396182291, .int .u32 1695183700, .int .u32 1986661051, .int .u32 2177026350, .int .u32 2456956037, .int .u32 2730485921, .int .u32 2820302411, .int .u32 3259730800, .int .u32 3345764771, .int .u32 3516065817, .int .u32 3600352804, .int .u32 4094571909, .int .u32 275423344, .int .u32 430227734, .int .u32 506948616, .int .u32 659060556, .int .u32 883997877, .int .u32 958139571, .int .u32 1322822218, .int .u32 1537002063, .int .u32 1747873779, .int .u32 1955562222, .int .u32 2024104815, .int .u32 2227730452, .int .u32 2361852424, .int .u32 2428436474, .int .u32 2756734187, .int .u32 3204031479, .int .u32 3329325298] := rfl
set_option maxRecDepth 100000 in
set_option maxHeartbeats 1000000 in
theorem k_any (t : Nat) (h : t < 64) (w : World) : Calls Try.prog 56 #[.int .i64 t] w (ValPost w (u32 (kL.getD t 0))) := by
  have hk := run_index_k t h w
  generalize hv : u32 (kL.getD t 0) = v at *
  rw [kV_lit] at hk
  clear hv
  go_enter Try.func56, Try.ntmps56
  go_wp2_with fail
  go_ret
  exact ⟨rfl, rfl⟩
end Go.Proofs.Ythpigmkdchnnoaa
