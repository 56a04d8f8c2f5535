/- policy: what Apply makes of a policy; cells of members. -/
import Derived.Test.YtaffpkogcpkmjaaPoC
namespace Go.Proofs.Ytaffpkogcpkmjaa
open Go.RowKit
set_option linter.unusedVariables false
set_option linter.unusedSimpArgs false
set_option maxRecDepth 10000
def There (ms : List Mb) (w : Int) : Prop := idxF ms w < ms.length ∧ (ms.getD (idxF ms w) ⟨0, 0⟩).who = w
instance (ms : List Mb) (w : Int) : Decidable (There ms w) := by unfold There; infer_instance
def delM (ms : List Mb) (w : Int) : List Mb := if There ms w then ms.take (idxF ms w) ++ ms.drop (idxF ms w + 1) else ms
def setM (ms : List Mb) (w r : Int) : List Mb := if There ms w then ms.take (idxF ms w) ++ ⟨w, r⟩ :: ms.drop (idxF ms w + 1) else ms.take (idxF ms w) ++ ⟨w, r⟩ :: ms.drop (idxF ms w)
def poApp (p : Po) (e : En) : Po :=
  if e.kind = 5 then ⟨p.founder, e.epoch, p.mem⟩
  else if e.kind = 4 then ⟨p.founder, p.epoch, delM p.mem e.who⟩
  else if e.kind = 3 then ⟨p.founder, p.epoch, setM p.mem e.who e.rights⟩
  else p
abbrev poR (q : Po) (b : AV) : AV := .tup [.agg [.int .i64 q.founder, .int .i64 q.epoch, b], .int .i64 0]
theorem poR_R (q : Po) : BufR (poR q) := (BufR.id.agg3 q.founder q.epoch .i64 .i64).tup 0 .i64
theorem acut_tail {a b v : List AV} {o : Nat} (h : a.length ≤ o) : acut (a ++ b) o v = a ++ acut b (o - a.length) v := by
  unfold acut
  rw [List.take_append, List.take_of_length_le h, List.drop_append, List.drop_of_length_le (by omega), List.nil_append, List.append_assoc, List.append_assoc, List.append_assoc]
  congr 3
  rw [show o + v.length - a.length = o - a.length + v.length by omega]
theorem acut_head {a b v : List AV} {o : Nat} (h : o + v.length ≤ a.length) : acut (a ++ b) o v = acut a o v ++ b := by
  unfold acut
  rw [List.take_append_of_le_length (by omega), List.drop_append_of_le_length h]
  simp only [List.append_assoc]
theorem acut_len {a v : List AV} {o : Nat} (h : o + v.length ≤ a.length) : (acut a o v).length = a.length := by
  unfold acut
  simp only [List.length_append, List.length_take, List.length_drop]
  omega
theorem mb_cut (ms : List Mb) (k : Nat) (hk : k ≤ ms.length) (v : List AV) : acut (mbCs ms) (k * 2) v = mbCs (ms.take k) ++ v ++ (mbCs (ms.drop k)).drop v.length := by
  unfold acut
  rw [mbCs_take, ← List.drop_drop, mbCs_drop]
/-- A member's rights turned. -/
theorem mb_set {ms : List Mb} {k : Nat} {x : Mb} (hel : ms[k]? = some x) (rest : List AV) (r : Int) : (mbCs ms ++ rest).set (k * 2 + 1) (.int .i64 r) = mbCs (ms.take k ++ ⟨x.who, r⟩ :: ms.drop (k + 1)) ++ rest := by
  obtain ⟨hk, rfl⟩ := List.getElem?_eq_some_iff.1 hel
  have hl := mbCs_len ms
  rw [List.set_append_left _ _ (by omega)]
  congr 1
  have h1 : mbCs ms = mbCs (ms.take k) ++ (mbC ms[k] ++ mbCs (ms.drop (k + 1))) := by
    conv => lhs; rw [← List.take_append_drop k ms, List.drop_eq_getElem_cons hk, mbCs_app]
    rfl
  have h2 : (mbCs (ms.take k)).length = k * 2 := by rw [mbCs_len, List.length_take]; omega
  rw [h1, List.set_append_right _ _ (by omega), mbCs_app, h2]
  congr 1
  rw [show k * 2 + 1 - k * 2 = 1 by omega]
  rfl
theorem mb_full (ms : List Mb) (j : Nat) : (mbCs ms ++ anys (j * 2)).length = ms.length * 2 + j * 2 := by rw [List.length_append, mbCs_len, anys_len]
theorem mb_at {ms : List Mb} {k : Nat} {x : Mb} (hel : ms[k]? = some x) (rest : List AV) : (mbCs ms ++ rest)[k * 2]? = some (.int .i64 x.who) := by
  obtain ⟨hk, _⟩ := List.getElem?_eq_some_iff.1 hel
  have hl := mbCs_len ms
  rw [List.getElem?_append_left (by omega)]
  exact mbCs_who hel
/-- What stands from a place on. -/
theorem mb_sub (ms : List Mb) (k q : Nat) (rest : List AV) (hq : k + q = ms.length) : ((mbCs ms ++ rest).drop (k * 2)).take (q * 2) = mbCs (ms.drop k) := by
  have hl := mbCs_len ms
  rw [List.drop_append_of_le_length (by omega), mbCs_drop, List.take_append_of_le_length (by rw [mbCs_len, List.length_drop]; omega)]
  refine List.take_of_length_le ?_
  rw [mbCs_len, List.length_drop]; omega
theorem mb_first (ms : List Mb) (k : Nat) (rest : List AV) (hk : k ≤ ms.length) : ((mbCs ms ++ rest).drop 0).take (k * 2) = mbCs (ms.take k) := by
  have hl := mbCs_len ms
  rw [List.drop_zero, List.take_append_of_le_length (by omega), mbCs_take]
/-- What is behind a place moved down by one. -/
theorem mb_del (ms : List Mb) (i j : Nat) (hi : i < ms.length) : ∃ R, R.length = (j + 1) * 2 ∧ acut (mbCs ms ++ anys (j * 2)) (0 + i * 2) (mbCs (ms.drop (i + 1))) = mbCs (ms.take i ++ ms.drop (i + 1)) ++ R := by
  have hl := mbCs_len ms
  refine ⟨List.drop (i * 2 + (mbCs (ms.drop (i + 1))).length) (mbCs ms ++ anys (j * 2)), ?_, ?_⟩
  · rw [List.length_drop, mbCs_len, List.length_append, anys_len, List.length_drop]; omega
  · unfold acut
    rw [Nat.zero_add, List.take_append_of_le_length (by omega), mbCs_take, mbCs_app]
theorem mb_clear (ms : List Mb) (R : List AV) (o q : Nat) (ho : o = ms.length * 2) : acut (mbCs ms ++ R) o (anys q) = mbCs ms ++ acut R 0 (anys q) := by
  have hl := mbCs_len ms
  rw [acut_tail (by omega), hl, ho, Nat.sub_self]
theorem rights_pos {ms : List Mb} {w : Int} (h : rightsOf ms w = 7) : 0 < ms.length := by
  cases ms with
  | nil => simp [rightsOf] at h
  | cons => simp
theorem mayN_ok {p : Po} {e : En} (h : mayN p e = 0) : PoOk p ∧ EnOk e := by
  unfold mayN at h
  split at h
  · cases h
  · rename_i h1; exact Classical.not_not.1 h1
end Go.Proofs.Ytaffpkogcpkmjaa
