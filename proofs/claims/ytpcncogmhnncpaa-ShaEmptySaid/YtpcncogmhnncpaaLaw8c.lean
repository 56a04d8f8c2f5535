/- The parts of law 8's statements: small, put; locketref08.Text and Num. -/
import Derived.Test.YtpcncogmhnncpaaLaw8b
import Derived.Test.YtpcncogmhnncpaaArg
namespace Go.Proofs.Ytpcncogmhnncpaa
open Go.RowKit

/-- What reads stays read, where what was there stays. -/
def Stays {M : Type} (R : World → List Value → M → Prop) : Prop := ∀ w w' cs m, Below w.heap.size w w' → R w cs m → R w' cs m
theorem stays_slice {M : Type} {R : World → List Value → M → Prop} {size : Nat} (h : Stays R) : Stays (RSlice size R) := by
  rintro w w' cs ms hb ⟨A, c, cells, rfl, hr, hm⟩
  exact ⟨A, c, cells, rfl, hr.below hb, fun i m hi => h w w' _ m hb (hm i m hi)⟩
theorem stays_bytes : Stays RBytes := by
  rintro w w' cs bs hb ⟨A, c, rfl, hr⟩
  exact ⟨A, c, rfl, hr.below hb⟩

/-- A part, as the statements' own type has it: whether it is a text, the number, the text. -/
abbrev LPart := Bool × Int × List UInt8
def RPart (w : World) (cs : List Value) (m : LPart) : Prop := ∃ c0 c1 c2, cs = [c0, c1, c2] ∧ RBool w [c0] m.1 ∧ RInt .i64 w [c1] m.2.1 ∧ RBytes w [c2] m.2.2
theorem stays_part : Stays RPart := by
  rintro w w' cs m hb ⟨c0, c1, c2, rfl, h0, h1, h2⟩
  exact ⟨c0, c1, c2, rfl, h0, h1, stays_bytes _ _ _ _ hb h2⟩
theorem open_parts : Opens Try.prog 22 (RSlice 3 RPart) :=
  opens_slice Try.underlying22 (by kernel_rfl) (by decide)
    (opens_struct3 (t0 := 4) (t1 := 3) (t2 := 23) Try.underlying32 (by kernel_rfl) (by kernel_rfl) (by kernel_rfl) (opens_bool Try.underlying4) (opens_int Try.underlying3)
      (opens_bytes Try.underlying23 Try.underlying5 (by kernel_rfl)))
theorem open_bytes : Opens Try.prog 23 RBytes := opens_bytes Try.underlying23 Try.underlying5 (by kernel_rfl)

theorem slice_eta {size : Nat} {M : Type} {R : World → List Value → M → Prop} {w : World} {A : Option Addr} {n c : Nat} {ms : List M} (h : RSlice size R w [.slice A n c] ms) :
    n = ms.length ∧ ∃ cells, Rd w size A ms.length c cells ∧ ∀ i m, ms[i]? = some m → R w ((cells.drop (i * size)).take size) m := by
  obtain ⟨A', c', cells, he, hr, hm⟩ := h
  simp only [List.cons.injEq, Value.slice.injEq, and_true] at he
  obtain ⟨rfl, rfl, rfl⟩ := he
  exact ⟨rfl, cells, hr, hm⟩
theorem part_at {w : World} {A : Option Addr} {n c : Nat} {ms : List LPart} (h : RSlice 3 RPart w [.slice A n c] ms) (k : Nat) (p : LPart) (hp : ms[k]? = some p) :
    ∃ b o A' c', A = some ⟨b, o, none⟩ ∧ w.cell? ⟨b, o + k * 3, none⟩ = some (.bool p.1) ∧ w.cell? ⟨b, o + k * 3 + 1, none⟩ = some (.int .i64 p.2.1) ∧ w.cell? ⟨b, o + k * 3 + 2, none⟩ = some (.slice A' p.2.2.length c') ∧
      Rd w 1 A' p.2.2.length c' (bvs p.2.2) ∧ (Lit.int .i64 p.2.1).wf = true := by
  obtain ⟨_, cells, hr, hm⟩ := slice_eta h
  have hk : k < ms.length := (List.getElem?_eq_some_iff.1 hp).1
  obtain ⟨b, o, hA, hx⟩ := hr.at_ (by omega)
  obtain ⟨c0, c1, c2, hcs, h0, ⟨h1, hw⟩, A', c', h2, hr2⟩ := hm k p hp
  have hg : ∀ j u, ((cells.drop (k * 3)).take 3)[j]? = some u → w.cell? ⟨b, o + k * 3 + j, none⟩ = some u := fun j u hu => by
    rw [Nat.add_assoc]
    refine hx (k * 3 + j) u ?_
    rw [List.getElem?_take] at hu
    split at hu
    · simpa using hu
    · cases hu
  rw [hcs] at hg
  simp only [RBool, List.cons.injEq, and_true] at h0 h1 h2
  subst h0; subst h1; subst h2
  exact ⟨b, o, A', c', hA, by simpa using hg 0 _ rfl, hg 1 _ rfl, hg 2 _ rfl, hr2, hw⟩

theorem cell_below {w wr : World} (hb : Below w.heap.size w wr) {a : Addr} {v : Value} (h : w.cell? a = some v) : wr.cell? a = some v := (hb.cell (World.block_lt_of_cell? w _ h)).trans h
def smallB (ms : List LPart) : Bool := ms.all (fun p => decide (p.2.2.length ≤ 5000)) && decide (ms.length ≤ 20)

set_option maxHeartbeats 1000000 in
theorem small_any (A : Option Addr) (n c : Nat) (ms : List LPart) (w : World) (h : RSlice 3 RPart w [.slice A n c] ms) :
    Calls Try.prog 15 #[.slice A n c] w (Tells w (smallB ms)) := by
  obtain ⟨rfl, cells, hr, _⟩ := slice_eta h
  have hmax := hr.max
  have hcap := hr.cap
  unfold maxLen at hmax
  clear hr
  go_enter Try.func15, Try.ntmps15
  go_wp2_with fail
  go_loopw [7] (fun i wr => ∃ k : Nat, k ≤ ms.length ∧ i = .int .i64 k ∧ Below w.heap.size w wr ∧ ∀ p ∈ ms.take k, p.2.2.length ≤ 5000) (fun i _ => ms.length - (intOf i).toNat)
  case atStart => exact ⟨0, Nat.zero_le _, rfl, Below.refl _ _, by simp⟩
  case round =>
    obtain ⟨k, hk, rfl, hb, hall⟩ := hrel
    have HALL := Lib.hid hall
    clear hall
    by_cases hlt : k < ms.length
    · have hp : ms[k]? = some ms[k] := List.getElem?_eq_getElem hlt
      generalize ms[k] = p at hp
      obtain ⟨b, o, A', c', rfl, h0, h1, h2, hr2, hw⟩ := part_at (stays_slice stays_part _ _ _ _ hb h) k p hp
      have HP := Lib.hid hp
      have H := Lib.hid h
      have hm2 := hr2.max
      have hc2 := hr2.cap
      unfold maxLen at hm2
      clear hp h hr2 hw
      by_cases hl : p.2.2.length ≤ 5000
      · go_wp2_with fail
        go_roundw
        case rel =>
          refine ⟨k + 1, by omega, by go_num, hb.alloc hb.size _, ?_⟩
          rw [take_snoc ms k p HP.out]
          intro q hq
          rcases List.mem_append.1 hq with h | h
          · exact HALL.out q h
          · rw [List.mem_singleton.1 h]; exact hl
        case measure => simp [intOf]; omega
      · have hl' : 5000 < p.2.2.length := by omega
        go_wp2_with fail
        go_ret
        refine ⟨?_, hb.alloc hb.size _⟩
        have : smallB ms = false := by
          unfold smallB
          rw [Bool.and_eq_false_iff]
          left
          rw [List.all_eq_false]
          exact ⟨p, List.mem_of_getElem? HP.out, by simp; omega⟩
        rw [this]; rfl
    · have hke : k = ms.length := by omega
      have HK := Lib.hid hke
      clear hke h
      go_wp2_with fail
      go_ret
      refine ⟨?_, hb⟩
      have h1 := HALL.out
      rw [HK.out, List.take_length] at h1
      have : smallB ms = decide ((ms.length : Int) ≤ 20) := by
        unfold smallB
        rw [show ms.all (fun p => decide (p.2.2.length ≤ 5000)) = true from List.all_eq_true.2 (fun p hp => by simpa using h1 p hp)]
        simp; omega
      rw [this]; rfl

theorem ei_any : EI Try.prog 52 20 .nilIface 1 16 := EI.mk' Try.underlying52 (by kernel_rfl) rfl

def ptOf (p : LPart) : Pt := if p.1 then .inr p.2.2 else .inl p.2.1
/-- At the head of put's loop: the first k parts' values are collected. -/
def PutsRel (ms : List LPart) (w : World) (v i : Value) (wr : World) : Prop :=
  ∃ k A c vs, k ≤ ms.length ∧ i = .int .i64 (k : Nat) ∧ v = .slice A k c ∧ Seg wr w.heap.size 1 A k c vs ∧ Below w.heap.size w wr ∧ ∀ (j : Nat) (p : LPart) (v : Value), j < k → ms[j]? = some p → vs[j]? = some v → PtV w (ptOf p) v
theorem own_base {w : World} {base size : Nat} {A : Option Addr} {n c : Nat} {xs : List Value} (h : Seg w base size A n c xs) {k : Nat} (hk : A.map (·.block) = some k) : base ≤ k := by
  cases A with
  | none => simp at hk
  | some a => simp at hk; subst hk; exact h.base_le a rfl
/-- One new value, as an append's source. -/
theorem src_one {P : Program} {tx e' : TypeId} (hk : P.underlying tx = some (.slice e')) (w : World) (u : Value) (e : TypeId) (g : Nat) (hg : g = w.heap.size) (h1 : u.oneCell' = true) :
    Src P 1 tx (.slice (some ⟨g, 0, none⟩) 1 1) 1 [u] (w.alloc (.cells #[u] e)) := by
  subst hg
  exact (rd_lit w #[u] e 1 1 rfl (by simp [maxLen])).src hk (by simpa using h1)
theorem PutsRel.next {ms : List LPart} {w wr' : World} {A' : Option Addr} {c' k : Nat} {vs : List Value} {p : LPart} {u : Value} (hp : ms[k]? = some p) (hall : ∀ (j : Nat) (p : LPart) (v : Value), j < k → ms[j]? = some p → vs[j]? = some v → PtV w (ptOf p) v)
    (hl : vs.length = k) (hg : Below w.heap.size w wr') (hu : PtV w (ptOf p) u) (hs : Seg wr' w.heap.size 1 A' (k + 1) c' (vs ++ [u])) : PutsRel ms w (.slice A' (k + 1) c') (.int .i64 ((k : Int) + 1)) wr' := by
  have hk : k < ms.length := (List.getElem?_eq_some_iff.1 hp).1
  refine ⟨k + 1, A', c', vs ++ [u], hk, rfl, rfl, hs, hg, fun j q v hj hq hv => ?_⟩
  by_cases hjk : j < k
  · rw [List.getElem?_append_left (by omega)] at hv
    exact hall j q v hjk hq hv
  · obtain rfl : j = k := by omega
    rw [List.getElem?_append_right (by omega), hl] at hv
    simp at hv
    subst hv
    rw [hp] at hq
    cases hq
    exact hu

set_option maxHeartbeats 1000000 in
theorem put_any (A : Option Addr) (n c : Nat) (ms : List LPart) (w : World) (h : RSlice 3 RPart w [.slice A n c] ms) (hn : ms.length ≤ 100000) :
    Calls Try.prog 16 #[.slice A n c] w (PutPost (ms.map ptOf) w) := by
  obtain ⟨rfl, _⟩ := slice_eta h
  go_enter Try.func16, Try.ntmps16
  go_wp2_with fail
  go_loopw [4, 9] (fun v i wr => PutsRel ms w v i wr) (fun _ i _ => ms.length - (intOf i).toNat)
  case atStart => exact ⟨0, none, 0, [], Nat.zero_le _, rfl, rfl, Seg.nil _ _ _, Below.refl _ _, fun j p v hj => by omega⟩
  case round =>
    obtain ⟨k, A1, c1, vs, hk, rfl, rfl, hs, hb, hall⟩ := hrel
    have HALL := Lib.hid hall
    have HS := Lib.hid hs
    clear hall hs
    by_cases hlt : k < ms.length
    · have hp : ms[k]? = some ms[k] := List.getElem?_eq_getElem hlt
      generalize ms[k] = p at hp
      obtain ⟨b, o, A', c', rfl, g0, g1, g2, hr2, hw⟩ := part_at h k p hp
      have h0 := cell_below hb g0
      have h1 := cell_below hb g1
      have h2 := cell_below hb g2
      have HP := Lib.hid hp
      have H := Lib.hid h
      have HR := Lib.hid hr2
      clear hp h hr2 hw g0 g1 g2
      obtain ⟨isT, pn, pt⟩ := p
      simp only at h0 h1 h2 HR
      by_cases hT : isT = true
      · subst hT
        by_cases hev : k % 2 = 0
        · go_wp2_with (at_builtin; refine wpList_append_seg rfl _ _ _ _ rfl ei_any rfl ((HS.out.below ((Below.refl _ _).alloc (Nat.le_refl _) _)).below ((Below.refl _ _).alloc (Nat.le_refl _) _)) rfl (src_one Try.underlying52 _ (.iface 23 (.slice A' pt.length c')) 20 _ (by simp) rfl) (by simp [maxLen]; omega) (by omega) (by have := hb.size; simp; omega) ?_; intro A2 c2 w2 hs2 hg2 _)
          go_roundw
          case rel => exact PutsRel.next (p := (true, pn, pt)) HP.out HALL.out (by have := HS.out.len; omega) (((hb.alloc hb.size _).alloc (by have := hb.size; simp; omega) _).grown hg2 (by have := hb.size; simp; omega) (fun j hj => own_base HS.out hj)) (.inl ⟨A', c', rfl, HR.out⟩) hs2
          case measure => simp [intOf]; omega
        · have hev' : ((k : Int) % 2 == 0) = false := by simp; omega
          have kc : (convert 23 9 (.slice A' pt.length c')).run Try.prog (wr.alloc (.cells #[.bool true, .int .i64 pn, .slice A' pt.length c'] 32)) = .ok (.string ⟨pt.toArray⟩) (wr.alloc (.cells #[.bool true, .int .i64 pn, .slice A' pt.length c'] 32)) :=
            run_string_rd Try.underlying23 Try.underlying5 Try.underlying9 ((HR.out.below hb).below ((Below.refl _ _).alloc (Nat.le_refl _) _))
          go_wp2_with (at_builtin; refine wpList_append_seg rfl _ _ _ _ rfl ei_any rfl ((HS.out.below ((Below.refl _ _).alloc (Nat.le_refl _) _)).below ((Below.refl _ _).alloc (Nat.le_refl _) _)) rfl (src_one Try.underlying52 _ (.iface 9 (.string ⟨pt.toArray⟩)) 20 _ (by simp) rfl) (by simp [maxLen]; omega) (by omega) (by have := hb.size; simp; omega) ?_; intro A2 c2 w2 hs2 hg2 _)
          go_roundw
          case rel => exact PutsRel.next (p := (true, pn, pt)) HP.out HALL.out (by have := HS.out.len; omega) (((hb.alloc hb.size _).alloc (by have := hb.size; simp; omega) _).grown hg2 (by have := hb.size; simp; omega) (fun j hj => own_base HS.out hj)) (.inr ⟨rfl, Nat.le_trans HR.out.cap HR.out.max⟩) hs2
          case measure => simp [intOf]; omega
      · have hT' : isT = false := by simpa using hT
        subst hT'
        go_wp2_with (at_builtin; refine wpList_append_seg rfl _ _ _ _ rfl ei_any rfl ((HS.out.below ((Below.refl _ _).alloc (Nat.le_refl _) _)).below ((Below.refl _ _).alloc (Nat.le_refl _) _)) rfl (src_one Try.underlying52 _ (.iface 3 (.int .i64 pn)) 20 _ (by simp) rfl) (by simp [maxLen]; omega) (by omega) (by have := hb.size; simp; omega) ?_; intro A2 c2 w2 hs2 hg2 _)
        go_roundw
        case rel => exact PutsRel.next (p := (false, pn, pt)) HP.out HALL.out (by have := HS.out.len; omega) (((hb.alloc hb.size _).alloc (by have := hb.size; simp; omega) _).grown hg2 (by have := hb.size; simp; omega) (fun j hj => own_base HS.out hj)) rfl hs2
        case measure => simp [intOf]; omega
    · have hke : k = ms.length := by omega
      have HK := Lib.hid hke
      clear hke h
      go_wp2_with fail
      obtain rfl := HK.out
      have hvl : vs.length = ms.length := by have := HS.out.len; omega
      have hput := Put_any (ms.map ptOf) A1 c1 vs wr (by rw [List.length_map]; exact HS.out.rd) (fun j p v hp hv => by
        rw [List.getElem?_map] at hp
        cases hq : ms[j]? with
        | none => rw [hq] at hp; cases hp
        | some q =>
          rw [hq] at hp
          cases hp
          exact (HALL.out j q v (List.getElem?_eq_some_iff.1 hq).1 hq hv).below hb) (by rw [List.length_map]; exact hn)
      rw [List.length_map] at hput
      refine hput.mono ?_
      intro e w2 hp
      rcases hp with ⟨h0, A2, c2, rfl, hs2, hb2⟩ | ⟨h0, rfl, hb2⟩
      · have FIN : Hid (PutPost (ms.map ptOf) w (.returned (.tuple #[.slice A2 (putB (ms.map ptOf)).length c2, .int .i64 0])) w2) := Lib.hid (.inl ⟨h0, A2, c2, rfl, hs2.mono hb.size, below_next hb hb2⟩)
        clear hs2 hb2 h0 hput hn
        go_wp2_with fail
        go_ret2
        exact FIN.out
      · have FIN : Hid (PutPost (ms.map ptOf) w (.returned (.tuple #[.slice none 0 0, .int .i64 (putErr (ms.map ptOf))])) w2) := Lib.hid (.inr ⟨h0, rfl, below_next hb hb2⟩)
        clear hb2 h0 hput hn
        go_wp2_with fail
        go_ret2
        exact FIN.out
end Go.Proofs.Ytpcncogmhnncpaa
