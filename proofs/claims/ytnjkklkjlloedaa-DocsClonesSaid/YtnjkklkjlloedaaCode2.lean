/- Contracts of code.part, code.Put. -/
import Derived.Test.YtnjkklkjlloedaaCode1
namespace Go.Proofs.Ytnjkklkjlloedaa
open Go.RowKit

theorem OkBytes.congr {w : World} {bs : List UInt8} {e : Ending} {w' : World} (h : OkBytes w bs e w') {bs' : List UInt8} (hb : bs = bs') : OkBytes w bs' e w' := hb ▸ h

/-- What x.(int), x.([]byte) and x.(string) tell. -/
theorem ta_int (v : Value) (w : World) : (Instr.typeAssert (.iface 3 v) 20 3 true).run Try.prog w = .ok (.tuple #[v, .bool true]) w := run_typeAssert_yes Try.underlying3 (by intro _ h; cases h) _ _ _
theorem ta_bytes (v : Value) (w : World) : (Instr.typeAssert (.iface 27 v) 20 27 true).run Try.prog w = .ok (.tuple #[v, .bool true]) w := run_typeAssert_yes Try.underlying27 (by intro _ h; cases h) _ _ _
theorem ta_string (v : Value) (w : World) : (Instr.typeAssert (.iface 9 v) 20 9 true).run Try.prog w = .ok (.tuple #[v, .bool true]) w := run_typeAssert_yes Try.underlying9 (by intro _ h; cases h) _ _ _
theorem ta_bytes_int (v : Value) (w : World) : (Instr.typeAssert (.iface 27 v) 20 3 true).run Try.prog w = .ok (.tuple #[.int .i64 0, .bool false]) w := run_typeAssert_no Try.underlying3 (by intro _ h; cases h) (fun _ => by kernel_rfl) (by decide) _ _ _
theorem ta_string_int (v : Value) (w : World) : (Instr.typeAssert (.iface 9 v) 20 3 true).run Try.prog w = .ok (.tuple #[.int .i64 0, .bool false]) w := run_typeAssert_no Try.underlying3 (by intro _ h; cases h) (fun _ => by kernel_rfl) (by decide) _ _ _
theorem ta_string_bytes (v : Value) (w : World) : (Instr.typeAssert (.iface 9 v) 20 27 true).run Try.prog w = .ok (.tuple #[.slice none 0 0, .bool false]) w := run_typeAssert_no Try.underlying27 (by intro _ h; cases h) (fun _ => by kernel_rfl) (by decide) _ _ _

set_option maxHeartbeats 400000 in
theorem part_int_ok (n : Nat) (w : World) (h : n ≤ 1099511627776) : Calls Try.prog 89 #[.iface 3 (.int .i64 n)] w (OkBytes w (numB n)) := by
  have ta_int' := ta_int
  go_enter Try.func89, Try.ntmps89
  go_wp2_with (go_at_call 94; refine (number_ok n w h).mono ?_; rintro e w' ⟨A, c, rfl, hs, hb⟩)
  go_ret2
  exact ⟨A, c, rfl, hs, hb⟩
set_option maxHeartbeats 400000 in
theorem part_int_bad (n : Int) (w : World) (h : n < 0 ∨ 1099511627776 < n) : Calls Try.prog 89 #[.iface 3 (.int .i64 n)] w (ErrBytes w 12) := by
  have ta_int' := ta_int
  go_enter Try.func89, Try.ntmps89
  go_wp2_with (go_at_call 94; refine (number_bad n w h).mono ?_; rintro e w' ⟨rfl, rfl⟩)
  go_ret2
  exact ⟨rfl, rfl⟩
set_option maxHeartbeats 400000 in
theorem part_bytes_ok (A : Option Addr) (c : Nat) (bs : List UInt8) (w : World) (h : bs.length ≤ 4096) (hr : Rd w 1 A bs.length c (bvs bs)) : Calls Try.prog 89 #[.iface 27 (.slice A bs.length c)] w (OkBytes w (textB bs)) := by
  have ta_bytes' := ta_bytes
  have ta_bytes_int' := ta_bytes_int
  go_enter Try.func89, Try.ntmps89
  go_wp2_with (go_at_call 95; refine (text_ok A c bs w h hr).mono ?_; rintro e w' ⟨A, c, rfl, hs, hb⟩)
  go_ret2
  exact ⟨_, _, rfl, hs, hb⟩
set_option maxHeartbeats 400000 in
theorem part_bytes_bad (A : Option Addr) (n c : Nat) (w : World) (h : 4096 < n) (hm : n ≤ maxLen) : Calls Try.prog 89 #[.iface 27 (.slice A n c)] w (ErrBytes w 11) := by
  have ta_bytes' := ta_bytes
  have ta_bytes_int' := ta_bytes_int
  go_enter Try.func89, Try.ntmps89
  go_wp2_with (go_at_call 95; refine (text_bad A n c w h hm).mono ?_; rintro e w' ⟨rfl, rfl⟩)
  go_ret2
  exact ⟨rfl, rfl⟩

/-- The row that []byte(s) makes. -/
theorem seg_bytesWorld (w : World) (e : TypeId) (bs : List UInt8) (hm : bs.length ≤ maxLen) :
    Seg (Lib.bytesWorld w e ⟨bs.toArray⟩) w.heap.size 1 (some ⟨w.heap.size, 0, none⟩) bs.length (grownCap w bs.length 0 e) (bvs bs) := by
  have hnew := Lib.bytesWorld_at_new w e ⟨bs.toArray⟩
  have hge := grownCap_ge w bs.length 0 e
  have hsz : (Lib.bytesCells w e ⟨bs.toArray⟩).size = grownCap w bs.length 0 e := by
    simp [Lib.bytesCells, ByteArray.size]
    omega
  have hsize : (⟨bs.toArray⟩ : ByteArray).size = bs.length := by simp [ByteArray.size]
  refine ⟨by simp [bvs_length], hge, grownCap_le_maxLen w bs.length 0 e hm, .inr ⟨w.heap.size, 0, rfl, ⟨Nat.le_refl _, by rw [Lib.bytesWorld_size]; omega⟩, fun j hj => ⟨?_, ?_⟩, fun j u hu => ?_⟩⟩
  · simp only [World.cell?, hnew, Nat.zero_add]; simp; omega
  · simp only [World.frozen?, hnew]; simp; omega
  · have hj : j < bs.length := by have := (List.getElem?_eq_some_iff.1 hu).1; rwa [bvs_length] at this
    rw [bvs_get bs j hj] at hu
    cases hu
    have := Lib.bytesWorld_cell w e ⟨bs.toArray⟩ j (by rw [hsize]; exact hj)
    simp only [Nat.zero_add]
    rw [this]
    simp [bv, hj]
theorem below_bytesWorld (w : World) (e : TypeId) (s : ByteArray) : Below w.heap.size w (Lib.bytesWorld w e s) :=
  ⟨by unfold Lib.bytesWorld World.freeze; split <;> rfl, by unfold Lib.bytesWorld World.freeze; split <;> rfl, by unfold Lib.bytesWorld World.freeze; split <;> rfl, by rw [Lib.bytesWorld_size]; omega, fun k hk => Lib.bytesWorld_at_old w e s k hk⟩

set_option maxHeartbeats 400000 in
theorem part_string_ok (bs : List UInt8) (w : World) (h : bs.length ≤ 4096) : Calls Try.prog 89 #[.iface 9 (.string ⟨bs.toArray⟩)] w (OkBytes w (textB bs)) := by
  have kc := Lib.run_convert_string_bytes (P := Try.prog) w 9 27 5 ⟨bs.toArray⟩ Try.underlying9 Try.underlying27 Try.underlying5
  have hsg := seg_bytesWorld w 5 bs (by simp [maxLen]; omega)
  have hbl := below_bytesWorld w 5 ⟨bs.toArray⟩
  simp only [show (⟨bs.toArray⟩ : ByteArray).size = bs.length from by simp [ByteArray.size]] at kc
  generalize Lib.bytesWorld w 5 ⟨bs.toArray⟩ = w1 at *
  generalize grownCap w bs.length 0 5 = c1 at *
  have ta_string' := ta_string
  have ta_string_bytes' := ta_string_bytes
  have ta_string_int' := ta_string_int
  go_enter Try.func89, Try.ntmps89
  go_wp2_with (go_at_call 95; refine (text_ok _ _ bs w1 h hsg.rd).mono ?_; rintro e w' ⟨A, c, rfl, hs, hb⟩)
  go_ret2
  exact ⟨_, _, rfl, hs.mono hbl.size, hbl.trans (hb.mono hbl.size)⟩
set_option maxHeartbeats 400000 in
theorem part_string_bad (bs : List UInt8) (w : World) (h : 4096 < bs.length) (hm : bs.length ≤ maxLen) : Calls Try.prog 89 #[.iface 9 (.string ⟨bs.toArray⟩)] w
    fun e w' => e = .returned (.tuple #[.slice none 0 0, .int .i64 11]) ∧ Below w.heap.size w w' := by
  have kc := Lib.run_convert_string_bytes (P := Try.prog) w 9 27 5 ⟨bs.toArray⟩ Try.underlying9 Try.underlying27 Try.underlying5
  have hbl := below_bytesWorld w 5 ⟨bs.toArray⟩
  simp only [show (⟨bs.toArray⟩ : ByteArray).size = bs.length from by simp [ByteArray.size]] at kc
  generalize Lib.bytesWorld w 5 ⟨bs.toArray⟩ = w1 at *
  generalize grownCap w bs.length 0 5 = c1 at *
  have ta_string' := ta_string
  have ta_string_bytes' := ta_string_bytes
  have ta_string_int' := ta_string_int
  go_enter Try.func89, Try.ntmps89
  go_wp2_with (go_at_call 95; refine (text_bad _ _ _ w1 h hm).mono ?_; rintro e w' ⟨rfl, rfl⟩)
  go_ret2
  exact ⟨rfl, hbl⟩
end Go.Proofs.Ytnjkklkjlloedaa
