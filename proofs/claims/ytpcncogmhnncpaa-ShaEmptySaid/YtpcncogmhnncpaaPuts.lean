/- The walk of locketlaw08.CodePuts. -/
import Derived.Test.YtpcncogmhnncpaaRef8
import Derived.Deep.RegionHeld3
namespace Go.Proofs.Ytpcncogmhnncpaa
open Go.RowKit

theorem rtext_textB (bs rest : List UInt8) (h : bs.length ≤ 4096) : rtext 0 4096 (textB bs ++ rest, false) = (bs, (rest, false)) := by
  have hg : rget 2 (textB bs ++ rest, false) = (bs.length, (bs ++ rest, false)) := by
    unfold rget
    rw [if_neg (by simp [textB])]
    have : numOf ((textB bs ++ rest).take 2) = bs.length := by
      simp [textB, numOf]
      omega
    rw [this]
    simp [textB]
  unfold rtext
  rw [hg]
  rw [if_neg (by simp; omega), if_neg (by simp)]
  simp
theorem drop_cons {α : Type} (l : List α) (k : Nat) (p : α) (h : l[k]? = some p) : l.drop k = p :: l.drop (k + 1) := by
  obtain ⟨hk, rfl⟩ := List.getElem?_eq_some_iff.1 h
  exact List.drop_eq_getElem_cons hk
theorem putB_drop (ms : List LPart) (k : Nat) (p : LPart) (h : ms[k]? = some p) : putB ((ms.drop k).map ptOf) = ptB (ptOf p) ++ putB ((ms.drop (k + 1)).map ptOf) := by
  rw [drop_cons ms k p h]; simp [putB]

theorem puts_small (A : Option Addr) (n c : Nat) (ms : List LPart) (w : World) (h : RSlice 3 RPart w [.slice A n c] ms) (hs : smallB ms = false) :
    Calls Try.prog 6 #[.slice A n c] w (Tells w true) := by
  have hsm := small_any A n c ms
  rw [hs] at hsm
  have HSM := Lib.hid hsm
  have H := Lib.hid h
  clear hsm h
  go_enter Try.func6, Try.ntmps6
  go_wp2_with fail
  refine (anchor8 w).mono ?_
  rintro e w1 ⟨rfl, hb1⟩
  go_wp2_with fail
  refine (HSM.out w1 (stays_slice stays_part _ _ _ _ hb1 H.out)).mono ?_
  rintro e w2 ⟨rfl, hb2⟩
  go_wp2_with fail
  go_ret
  exact ⟨rfl, below_next hb1 hb2⟩

set_option maxRecDepth 100000 in
set_option maxHeartbeats 2000000 in
theorem puts_err (A : Option Addr) (n c : Nat) (ms : List LPart) (w : World) (h : RSlice 3 RPart w [.slice A n c] ms) (hs : smallB ms = true) (herr : putErr (ms.map ptOf) ≠ 0) :
    Calls Try.prog 6 #[.slice A n c] w (Tells w true) := by
  have hlen : ms.length ≤ 20 := by unfold smallB at hs; simp at hs; omega
  have hsm := small_any A n c ms
  rw [hs] at hsm
  have hpt := fun w h => put_any A n c ms w h (by omega)
  obtain ⟨rfl, _⟩ := slice_eta h
  have HSM := Lib.hid hsm
  have HPT := Lib.hid hpt
  have H := Lib.hid h
  have HE := Lib.hid herr
  clear hsm hpt h hs herr
  go_enter Try.func6, Try.ntmps6
  go_wp2_with fail
  refine (anchor8 w).mono ?_
  rintro e w1 ⟨rfl, hb1⟩
  go_wp2_with fail
  refine (HSM.out w1 (stays_slice stays_part _ _ _ _ hb1 H.out)).mono ?_
  rintro e w2 ⟨rfl, hb2⟩
  go_wp2_with fail
  have hb12 := below_next hb1 hb2
  refine (HPT.out w2 (stays_slice stays_part _ _ _ _ hb12 H.out)).mono ?_
  intro e w3 hp
  obtain ⟨_, rfl, hb3⟩ := hp.resolve_left (fun h => HE.out h.1)
  have hb123 := below_next hb12 hb3
  clear hb1 hb2 hb3 hb12 hp
  obtain ⟨ps, hps⟩ : ∃ ps, ps = ms.map ptOf := ⟨_, rfl⟩
  rw [← hps] at HE ⊢
  have hpl : ps.length = ms.length := by rw [hps, List.length_map]
  have HPL := Lib.hid hpl
  have HPS := Lib.hid hps
  clear hps hpl
  obtain ⟨er, her⟩ : ∃ er, er = putErr ps := ⟨_, rfl⟩
  rw [← her]
  have HER := Lib.hid her
  clear her
  have H3 := Lib.hid (stays_slice stays_part _ _ _ _ hb123 H.out)
  go_wp2_with fail
  go_loopw [5, 7, 23] (fun v _ i wr => PutRel ps w3 v i wr) (fun _ _ i _ => ms.length - (intOf i).toNat)
  case atStart => exact ⟨0, none, 0, Nat.zero_le _, rfl, rfl, Seg.nil _ _ _, Below.refl _ _, by simp⟩
  case round =>
    obtain ⟨k, A1, c1, hk, rfl, rfl, hs, hb, hall⟩ := hrel
    have hk' : k ≤ ms.length := by have := HPL.out; omega
    have hpl := putB_le _ hall
    have hle : (ps.take k).length ≤ k := List.length_take_le _ _
    have HALL := Lib.hid hall
    have HS := Lib.hid hs
    clear hall hs hk
    by_cases hlt : k < ms.length
    · have hp : ms[k]? = some ms[k] := List.getElem?_eq_getElem hlt
      generalize ms[k] = p at hp
      obtain ⟨b, o, A', c', rfl, g0, g1, g2, hr2, hw⟩ := part_at H3.out k p hp
      have h0 := cell_below hb g0
      have h1 := cell_below hb g1
      have h2 := cell_below hb g2
      have HP := Lib.hid hp
      have HR := Lib.hid hr2
      have hm2 := hr2.max
      have hc2 := hr2.cap
      unfold maxLen at hm2
      clear hp hr2 hw g0 g1 g2
      have HPK : Hid (ps[k]? = some (ptOf p)) := Lib.hid (by rw [HPS.out, List.getElem?_map, HP.out]; rfl)
      obtain ⟨isT, pn, pt⟩ := p
      simp only at h0 h1 h2 HR hc2
      by_cases he : ptErr (ptOf (isT, pn, pt)) = 0
      · by_cases hT : isT = true
        · subst hT
          have hok : pt.length ≤ 4096 := by
            simp only [ptOf, ptErr, if_true] at he
            split at he
            · assumption
            · cases he
          have HE1 := Lib.hid he
          clear he
          have htl : (textB pt).length = pt.length + 2 := by simp [textB]
          have HTL := Lib.hid htl
          clear htl
          go_wp2_with fail
          refine (refText_any A' c' pt _ (by omega) ((HR.out.below hb).below ((Below.refl _ _).alloc (Nat.le_refl _) _))).mono ?_
          rintro e w4 ⟨A4, c4, rfl, hs4, hb4⟩
          have hb4' := below_next ((Below.refl wr.heap.size wr).alloc (Nat.le_refl _) _) hb4
          have hsz := hb4'.size
          have hsz2 := hb.size
          have HS4 := Lib.hid hs4
          clear hb4 hs4
          go_wp2_with (at_builtin; refine wpList_append_seg rfl _ _ _ _ rfl ei_u8 rfl (HS.out.below hb4') rfl (HS4.out.rd.src Try.underlying23 (bvs_one _)) (by have := HTL.out; simp only [maxLen]; omega) (by have := HTL.out; omega) (by omega) ?_; intro A5 c5 w5 hs5 hg5 _)
          go_roundw
          case rel => exact PutRel.next _ HPK.out HE1.out HALL.out ((below_next hb hb4').grown hg5 (by omega) (fun j hj => own_base HS.out hj)) hs5
          case measure => simp [intOf]; omega
        · have hT' : isT = false := by simpa using hT
          subst hT'
          have hok : 0 ≤ pn ∧ pn ≤ 1099511627776 := by
            simp only [ptOf, ptErr, Bool.false_eq_true, if_false] at he
            split at he
            · assumption
            · cases he
          obtain ⟨m, rfl⟩ := Int.eq_ofNat_of_zero_le hok.1
          have hm : m ≤ 1099511627776 := by omega
          have hm' : decide ((m : Int) ≤ 1099511627776) = true := by simp; omega
          have HE1 := Lib.hid he
          clear he hok hT
          go_wp2_with fail
          refine (refNum_any m _ hm).mono ?_
          rintro e w4 ⟨A4, c4, rfl, hs4, hb4⟩
          have hb4' := below_next ((Below.refl wr.heap.size wr).alloc (Nat.le_refl _) _) hb4
          have hsz := hb4'.size
          have hsz2 := hb.size
          have HS4 := Lib.hid hs4
          clear hb4 hs4
          go_wp2_with (at_builtin; refine wpList_append_seg rfl _ _ _ _ rfl ei_u8 rfl (HS.out.below hb4') rfl (HS4.out.rd.src Try.underlying23 (bvs_one _)) (by simp only [maxLen]; simp [numB]; omega) (by simp [numB]; omega) (by omega) ?_; intro A5 c5 w5 hs5 hg5 _)
          go_roundw
          case rel => exact PutRel.next _ HPK.out HE1.out HALL.out ((below_next hb hb4').grown hg5 (by omega) (fun j hj => own_base HS.out hj)) hs5
          case measure => simp [intOf]; omega
      · have hf := putErr_first ps k _ HPK.out HALL.out he
        by_cases hT : isT = true
        · subst hT
          have hok : 4096 < pt.length := by
            simp only [ptOf, ptErr, if_true] at he
            split at he
            · exact absurd rfl he
            · omega
          obtain rfl : er = 11 := by
            rw [HER.out, hf]
            simp only [ptOf, ptErr, if_true]
            rw [if_neg (by omega)]
          clear he hf
          go_wp2_with fail
          go_ret
          exact ⟨rfl, (below_next hb123 hb).alloc (below_next hb123 hb).size _⟩
        · have hT' : isT = false := by simpa using hT
          subst hT'
          have hok : ¬ (0 ≤ pn ∧ pn ≤ 1099511627776) := by
            simp only [ptOf, ptErr, Bool.false_eq_true, if_false] at he
            split at he
            · exact absurd rfl he
            · assumption
          obtain rfl : er = 12 := by
            rw [HER.out, hf]
            simp only [ptOf, ptErr, Bool.false_eq_true, if_false]
            rw [if_neg hok]
          clear he hf hT
          by_cases hlo : pn < 0
          · clear hok
            go_wp2_with fail
            go_ret
            exact ⟨rfl, (below_next hb123 hb).alloc (below_next hb123 hb).size _⟩
          · have hhi : decide (1099511627776 < pn) = true := by simp; omega
            clear hok
            go_wp2_with fail
            go_ret
            exact ⟨rfl, (below_next hb123 hb).alloc (below_next hb123 hb).size _⟩
    · have hke : k = ms.length := by omega
      exfalso
      have h1 := HALL.out
      rw [hke, ← HPL.out, List.take_length] at h1
      exact HE.out ((putErr_ok _).2 h1)
set_option maxRecDepth 100000 in
set_option maxHeartbeats 2000000 in
theorem puts_ok (A : Option Addr) (n c : Nat) (ms : List LPart) (w : World) (h : RSlice 3 RPart w [.slice A n c] ms) (hs : smallB ms = true) (herr : putErr (ms.map ptOf) = 0) :
    Calls Try.prog 6 #[.slice A n c] w (Tells w true) := by
  have hlen : ms.length ≤ 20 := by unfold smallB at hs; simp at hs; omega
  have hsm := small_any A n c ms
  rw [hs] at hsm
  have hpt := fun w h => put_any A n c ms w h (by omega)
  obtain ⟨rfl, _⟩ := slice_eta h
  have HSM := Lib.hid hsm
  have HPT := Lib.hid hpt
  have H := Lib.hid h
  have HE := Lib.hid herr
  clear hsm hpt h hs herr
  go_enter Try.func6, Try.ntmps6
  go_wp2_with fail
  refine (anchor8 w).mono ?_
  rintro e w1 ⟨rfl, hb1⟩
  go_wp2_with fail
  refine (HSM.out w1 (stays_slice stays_part _ _ _ _ hb1 H.out)).mono ?_
  rintro e w2 ⟨rfl, hb2⟩
  go_wp2_with fail
  have hb12 := below_next hb1 hb2
  refine (HPT.out w2 (stays_slice stays_part _ _ _ _ hb12 H.out)).mono ?_
  intro e w3 hp
  obtain ⟨Ab, cb, rfl, hsb, hb3⟩ := hp.ok HE.out
  have HSB := Lib.hid hsb
  have hb123 := below_next hb12 hb3
  clear hb1 hb2 hb3 hb12 hp hsb
  obtain ⟨ps, hps⟩ : ∃ ps, ps = ms.map ptOf := ⟨_, rfl⟩
  rw [← hps] at HE HSB ⊢
  have hpl : ps.length = ms.length := by rw [hps, List.length_map]
  have HPL := Lib.hid hpl
  have HPS := Lib.hid hps
  clear hps hpl
  have H3 := Lib.hid (stays_slice stays_part _ _ _ _ hb123 H.out)
  go_wp2_with fail
  go_loopw [5, 7, 23] (fun v _ i wr => PutRel ps w3 v i wr) (fun _ _ i _ => ms.length - (intOf i).toNat)
  case atStart => exact ⟨0, none, 0, Nat.zero_le _, rfl, rfl, Seg.nil _ _ _, Below.refl _ _, by simp⟩
  case round =>
    obtain ⟨k, A1, c1, hk, rfl, rfl, hs, hb, hall⟩ := hrel
    have hk' : k ≤ ms.length := by have := HPL.out; omega
    have hpl := putB_le _ hall
    have hle : (ps.take k).length ≤ k := List.length_take_le _ _
    have HALL := Lib.hid hall
    have HS := Lib.hid hs
    clear hall hs hk
    by_cases hlt : k < ms.length
    · have hp : ms[k]? = some ms[k] := List.getElem?_eq_getElem hlt
      generalize ms[k] = p at hp
      obtain ⟨b, o, A', c', rfl, g0, g1, g2, hr2, hw⟩ := part_at H3.out k p hp
      have h0 := cell_below hb g0
      have h1 := cell_below hb g1
      have h2 := cell_below hb g2
      have HP := Lib.hid hp
      have HR := Lib.hid hr2
      have hm2 := hr2.max
      have hc2 := hr2.cap
      unfold maxLen at hm2
      clear hp hr2 hw g0 g1 g2
      have HPK : Hid (ps[k]? = some (ptOf p)) := Lib.hid (by rw [HPS.out, List.getElem?_map, HP.out]; rfl)
      obtain ⟨isT, pn, pt⟩ := p
      simp only at h0 h1 h2 HR hc2
      by_cases he : ptErr (ptOf (isT, pn, pt)) = 0
      · by_cases hT : isT = true
        · subst hT
          have hok : pt.length ≤ 4096 := by
            simp only [ptOf, ptErr, if_true] at he
            split at he
            · assumption
            · cases he
          have HE1 := Lib.hid he
          clear he
          have htl : (textB pt).length = pt.length + 2 := by simp [textB]
          have HTL := Lib.hid htl
          clear htl
          go_wp2_with fail
          refine (refText_any A' c' pt _ (by omega) ((HR.out.below hb).below ((Below.refl _ _).alloc (Nat.le_refl _) _))).mono ?_
          rintro e w4 ⟨A4, c4, rfl, hs4, hb4⟩
          have hb4' := below_next ((Below.refl wr.heap.size wr).alloc (Nat.le_refl _) _) hb4
          have hsz := hb4'.size
          have hsz2 := hb.size
          have HS4 := Lib.hid hs4
          clear hb4 hs4
          go_wp2_with (at_builtin; refine wpList_append_seg rfl _ _ _ _ rfl ei_u8 rfl (HS.out.below hb4') rfl (HS4.out.rd.src Try.underlying23 (bvs_one _)) (by have := HTL.out; simp only [maxLen]; omega) (by have := HTL.out; omega) (by omega) ?_; intro A5 c5 w5 hs5 hg5 _)
          go_roundw
          case rel => exact PutRel.next _ HPK.out HE1.out HALL.out ((below_next hb hb4').grown hg5 (by omega) (fun j hj => own_base HS.out hj)) hs5
          case measure => simp [intOf]; omega
        · have hT' : isT = false := by simpa using hT
          subst hT'
          have hok : 0 ≤ pn ∧ pn ≤ 1099511627776 := by
            simp only [ptOf, ptErr, Bool.false_eq_true, if_false] at he
            split at he
            · assumption
            · cases he
          obtain ⟨m, rfl⟩ := Int.eq_ofNat_of_zero_le hok.1
          have hm : m ≤ 1099511627776 := by omega
          have hm' : decide ((m : Int) ≤ 1099511627776) = true := by simp; omega
          have HE1 := Lib.hid he
          clear he hok hT
          go_wp2_with fail
          refine (refNum_any m _ hm).mono ?_
          rintro e w4 ⟨A4, c4, rfl, hs4, hb4⟩
          have hb4' := below_next ((Below.refl wr.heap.size wr).alloc (Nat.le_refl _) _) hb4
          have hsz := hb4'.size
          have hsz2 := hb.size
          have HS4 := Lib.hid hs4
          clear hb4 hs4
          go_wp2_with (at_builtin; refine wpList_append_seg rfl _ _ _ _ rfl ei_u8 rfl (HS.out.below hb4') rfl (HS4.out.rd.src Try.underlying23 (bvs_one _)) (by simp only [maxLen]; simp [numB]; omega) (by simp [numB]; omega) (by omega) ?_; intro A5 c5 w5 hs5 hg5 _)
          go_roundw
          case rel => exact PutRel.next _ HPK.out HE1.out HALL.out ((below_next hb hb4').grown hg5 (by omega) (fun j hj => own_base HS.out hj)) hs5
          case measure => simp [intOf]; omega
      · exact absurd ((putErr_ok ps).1 HE.out _ (List.mem_of_getElem? HPK.out)) he
    · have hke : k = ms.length := by omega
      have HK := Lib.hid hke
      clear hke
      obtain ⟨N, hN⟩ : ∃ N, N = (putB ps).length := ⟨_, rfl⟩
      have hps' : ps.take k = ps := by rw [HK.out, ← HPL.out, List.take_length]
      have hN1 : N ≤ 81960 := by
        have h1 := putB_le ps ((putErr_ok ps).1 HE.out)
        have := HPL.out
        omega
      rw [hps'] at HS ⊢
      rw [← hN] at HS HSB ⊢
      have HN := Lib.hid hN
      clear hN hpl hle hps'
      have k1 : (convert 23 9 (.slice Ab N cb)).run Try.prog wr = .ok (.string ⟨(putB ps).toArray⟩) wr := run_string_rd Try.underlying23 Try.underlying5 Try.underlying9 (HSB.out.below hb).rd
      have k2 : (convert 23 9 (.slice A1 N c1)).run Try.prog wr = .ok (.string ⟨(putB ps).toArray⟩) wr := run_string_rd Try.underlying23 Try.underlying5 Try.underlying9 HS.out.rd
      go_wp2_with fail
      have hrd := Read_any Ab cb (putB ps) wr (by rw [← HN.out]; exact (HSB.out.below hb).rd) (by rw [← HN.out]; omega)
      rw [← HN.out] at hrd
      refine hrd.mono ?_
      rintro e w4 ⟨r, rfl, hr0, hr, hb4⟩
      have HR4 := Lib.hid hr
      clear hr hrd k1 k2
      have hbw := below_next hb123 hb
      have hb4' := below_next hbw hb4
      have hr1 : w3.heap.size ≤ r := Nat.le_trans hb.size hr0
      have hb34 := below_next hb hb4
      clear hb4
      go_wp2_with fail
      obtain ⟨base, hbase⟩ : ∃ base, base = wr.heap.size := ⟨_, rfl⟩
      rw [← hbase] at HR4
      have hbr : w3.heap.size ≤ base := by rw [hbase]; exact hb.size
      have hrb : base ≤ r := by rw [hbase]; exact hr0
      clear hbase hb hb4' hbw hr1 hr0
      go_loopw [10, 91] (fun _ i wq => ∃ j : Nat, j ≤ ms.length ∧ i = .int .i64 j ∧ Rdr wq base r (putB ((ms.drop j).map ptOf), false) ∧ Below w3.heap.size w3 wq) (fun _ i _ => ms.length - (intOf i).toNat)
      case atStart => exact ⟨0, Nat.zero_le _, rfl, by rw [List.drop_zero, ← HPS.out]; exact HR4.out, hb34⟩
      case round =>
        obtain ⟨j, hj, rfl, hrj, hbj⟩ := hrel
        by_cases hlt : j < ms.length
        · have hp : ms[j]? = some ms[j] := List.getElem?_eq_getElem hlt
          generalize ms[j] = p at hp
          have hpd := putB_drop ms j p hp
          rw [hpd] at hrj
          have hpe : ptErr (ptOf p) = 0 := (putErr_ok ps).1 HE.out _ (by rw [HPS.out]; exact List.mem_map.2 ⟨p, List.mem_of_getElem? hp, rfl⟩)
          obtain ⟨b, o, A', c', rfl, g0, g1, g2, hr2, hw⟩ := part_at H3.out j p hp
          have h0 := cell_below hbj g0
          have h1 := cell_below hbj g1
          have h2 := cell_below hbj g2
          have HP := Lib.hid hp
          have HR := Lib.hid hr2
          have HRJ := Lib.hid hrj
          clear hp hr2 hw g0 g1 g2 hpd hrj
          generalize hrest : putB ((ms.drop (j + 1)).map ptOf) = rest at *
          have HREST := Lib.hid hrest
          clear hrest
          obtain ⟨isT, pn, pt⟩ := p
          simp only at h0 h1 h2 HR
          by_cases hT : isT = true
          · subst hT
            have hok : pt.length ≤ 4096 := by
              simp only [ptOf, ptErr, if_true] at hpe
              split at hpe
              · assumption
              · cases hpe
            clear hpe
            go_wp2_with fail
            obtain ⟨g, hg⟩ : ∃ g, g = wr.heap.size := ⟨_, rfl⟩
            rw [← hg]
            have hgr : r < g := by rw [hg]; exact HRJ.out.lt
            have hnew := heap_alloc_new wr (.cells #[.bool true, .int .i64 pn, .slice A' pt.length c'] 32)
            rw [← hg] at hnew
            have hbW : Below wr.heap.size wr (wr.alloc (.cells #[.bool true, .int .i64 pn, .slice A' pt.length c'] 32)) := (Below.refl _ _).alloc (Nat.le_refl _) _
            have hrW := HRJ.out.below hbW
            have hRW := (HR.out.below hbj).below hbW
            have hbW3 := below_next hbj hbW
            generalize wr.alloc (.cells #[.bool true, .int .i64 pn, .slice A' pt.length c'] 32) = W at *
            have htx := Text_any r base 0 4096 _ W.drew (hrW.below ((Below.refl _ _).drew))
            rw [show ptB (ptOf (true, pn, pt)) = textB pt from rfl, rtext_textB pt rest hok] at htx
            have HTX := Lib.hid htx
            have hkp : ∀ w', W.grownBy w' (some r) → w'.cell? ⟨g, 0, none⟩ = some (.bool true) ∧ w'.cell? ⟨g, 2, none⟩ = some (.slice A' pt.length c') ∧ (convert 23 9 (.slice A' pt.length c')).run Try.prog w' = .ok (.string ⟨pt.toArray⟩) w' := by
              intro w' hgw
              have hblk : w'.heap[g]? = W.heap[g]? := hgw.block g (Array.getElem?_eq_some_iff.1 hnew).1 (by simp; omega)
              refine ⟨by simp [World.cell?, hblk, hnew], by simp [World.cell?, hblk, hnew], run_string_rd Try.underlying23 Try.underlying5 Try.underlying9 (hRW.kept_lt hgw (fun hn a ha => by have := HR.out.lt hn (by decide) a ha; omega))⟩
            have HKP := Lib.hid hkp
            clear hkp htx hrW hnew hRW hg
            have hgd : W.grownBy W.drew (some r) := grown_of_below (Below.refl _ _).drew _
            refine wp_region_held_drew (S := fun w' => w'.cell? ⟨g, 0, none⟩ = some (.bool true) ∧ w'.cell? ⟨g, 2, none⟩ = some (.slice A' pt.length c') ∧ (convert 23 9 (.slice A' pt.length c')).run Try.prog w' = .ok (.string ⟨pt.toArray⟩) w') (by kernel_rfl) (HKP.out _ hgd) (fun hHeld => ?_)
            refine held_yes (i := 0) (v := ?_) rfl (by kernel_rfl) (by kernel_rfl) (by kernel_rfl) (fun _ _ _ h => h) (by rfl) (fun w hSw => ?_) hHeld ?_
            rotate_left
            · (try dsimp only at hSw); go_simp; try with_reducible rfl
            simp only [List.setIfInBounds_toArray, List.set_cons_zero, List.set_cons_succ]
            refine held_yes (i := 1) (v := ?_) rfl (by kernel_rfl) (by kernel_rfl) (by kernel_rfl) (fun _ _ _ h => h) (by rfl) (fun w hSw => ?_) hHeld ?_
            rotate_left
            · (try dsimp only at hSw); go_simp; try with_reducible rfl
            simp only [List.setIfInBounds_toArray, List.set_cons_zero, List.set_cons_succ]
            refine held_yes (i := 2) (v := ?_) rfl (by kernel_rfl) (by kernel_rfl) (by kernel_rfl) (fun _ _ _ h => h) (by rfl) (fun w hSw => ?_) hHeld ?_
            rotate_left
            · (try dsimp only at hSw); go_simp; try with_reducible rfl
            simp only [List.setIfInBounds_toArray, List.set_cons_zero, List.set_cons_succ]
            refine held_yes (i := 3) (v := ?_) rfl (by kernel_rfl) (by kernel_rfl) (by kernel_rfl) (fun _ _ _ h => h) (by rfl) (fun w hSw => ?_) hHeld ?_
            rotate_left
            · (try dsimp only at hSw); go_simp; try with_reducible rfl
            simp only [List.setIfInBounds_toArray, List.set_cons_zero, List.set_cons_succ]
            refine held_yes (i := 6) (v := ?_) rfl (by kernel_rfl) (by kernel_rfl) (by kernel_rfl) (fun _ _ _ h => h) (by rfl) (fun w hSw => ?_) hHeld ?_
            rotate_left
            · (try dsimp only at hSw); go_simp; try with_reducible rfl
            simp only [List.setIfInBounds_toArray, List.set_cons_zero, List.set_cons_succ]
            refine held_yes (i := 7) (v := ?_) rfl (by kernel_rfl) (by kernel_rfl) (by kernel_rfl) (fun _ _ _ h => h) (by rfl) (fun w hSw => ?_) hHeld ?_
            rotate_left
            · (try dsimp only at hSw); go_simp; try with_reducible rfl
            simp only [List.setIfInBounds_toArray, List.set_cons_zero, List.set_cons_succ]
            refine held_yes (i := 8) (v := ?_) rfl (by kernel_rfl) (by kernel_rfl) (by kernel_rfl) (fun _ _ _ h => h) (by rfl) (fun w hSw => ?_) hHeld ?_
            rotate_left
            · (try dsimp only at hSw); go_simp; try with_reducible rfl
            simp only [List.setIfInBounds_toArray, List.set_cons_zero, List.set_cons_succ]
            refine held_only (i := 4) (by kernel_rfl) rfl (fun K hK => ?_)
            -- 4: CALL (*locket/code.Reader).Text
            go_simp
            refine HTX.out.mono ?_
            rintro e w5 ⟨A5, c5, rfl, hs5, hr5, hg5, _⟩
            have kc5 := run_string_rd (P := Try.prog) (src := 23) (dst := 9) Try.underlying23 Try.underlying5 Try.underlying9 hs5.rd
            have HS5 := HKP.out _ (grown_trans hgd hg5)
            go_wp2_with fail
            refine hK.out _ _ ?_ (fun hHeld => ?_)
            · first | assumption | exact HS5
            clear hK K
            try simp only [Act.put, List.setIfInBounds_toArray, List.set_cons_zero, List.set_cons_succ]
            refine held_only (i := 5) (by kernel_rfl) rfl (fun K hK => ?_)
            -- 5: SIMP
            go_simp
            refine hK.out _ _ ?_ (fun hHeld => ?_)
            · first | assumption | exact HS5
            clear hK K
            try simp only [Act.put, List.setIfInBounds_toArray, List.set_cons_zero, List.set_cons_succ]
            refine held_yes (i := 9) (v := ?_) rfl (by kernel_rfl) (by kernel_rfl) (by kernel_rfl) (fun _ _ _ h => h) (by rfl) (fun w hSw => ?_) hHeld ?_
            rotate_left
            · (try dsimp only at hSw); go_simp; try with_reducible rfl
            simp only [List.setIfInBounds_toArray, List.set_cons_zero, List.set_cons_succ]
            refine held_yes (i := 10) (v := ?_) rfl (by kernel_rfl) (by kernel_rfl) (by kernel_rfl) (fun _ _ _ h => h) (by rfl) (fun w hSw => ?_) hHeld ?_
            rotate_left
            · (try dsimp only at hSw); go_simp; try with_reducible rfl
            simp only [List.setIfInBounds_toArray, List.set_cons_zero, List.set_cons_succ]
            refine held_yes (i := 11) (v := ?_) rfl (by kernel_rfl) (by kernel_rfl) (by kernel_rfl) (fun _ _ _ h => h) (by rfl) (fun w hSw => ?_) hHeld ?_
            rotate_left
            · (try dsimp only at hSw); go_simp; try with_reducible rfl
            simp only [List.setIfInBounds_toArray, List.set_cons_zero, List.set_cons_succ]
            refine held_yes (i := 12) (v := ?_) rfl (by kernel_rfl) (by kernel_rfl) (by kernel_rfl) (fun _ _ _ h => h) (by rfl) (fun w hSw => ?_) hHeld ?_
            rotate_left
            · (try dsimp only at hSw); go_simp; try with_reducible rfl
            simp only [List.setIfInBounds_toArray, List.set_cons_zero, List.set_cons_succ]
            refine held_yes (i := 13) (v := ?_) rfl (by kernel_rfl) (by kernel_rfl) (by kernel_rfl) (fun _ _ _ h => h) (by rfl) (fun w hSw => ?_) hHeld ?_
            rotate_left
            · (try dsimp only at hSw); go_simp; try with_reducible rfl
            simp only [List.setIfInBounds_toArray, List.set_cons_zero, List.set_cons_succ]
            refine held_yes (i := 14) (v := ?_) rfl (by kernel_rfl) (by kernel_rfl) (by kernel_rfl) (fun _ _ _ h => h) (by rfl) (fun w hSw => ?_) hHeld ?_
            rotate_left
            · (try dsimp only at hSw); go_simp; try with_reducible rfl
            simp only [List.setIfInBounds_toArray, List.set_cons_zero, List.set_cons_succ]
            refine held_yes (i := 15) (v := ?_) rfl (by kernel_rfl) (by kernel_rfl) (by kernel_rfl) (fun _ _ _ h => h) (by rfl) (fun w hSw => ?_) hHeld ?_
            rotate_left
            · (try dsimp only at hSw); go_simp; try with_reducible rfl
            simp only [List.setIfInBounds_toArray, List.set_cons_zero, List.set_cons_succ]
            refine held_no (i := 16) rfl (by kernel_rfl) (by kernel_rfl) (by kernel_rfl) (fun _ _ _ h => h) (by rfl) hHeld ?_
            simp only [List.setIfInBounds_toArray, List.set_cons_zero, List.set_cons_succ]
            refine held_no (i := 17) rfl (by kernel_rfl) (by kernel_rfl) (by kernel_rfl) (fun _ _ _ h => h) (by rfl) hHeld ?_
            simp only [List.setIfInBounds_toArray, List.set_cons_zero, List.set_cons_succ]
            refine held_no (i := 18) rfl (by kernel_rfl) (by kernel_rfl) (by kernel_rfl) (fun _ _ _ h => h) (by rfl) hHeld ?_
            simp only [List.setIfInBounds_toArray, List.set_cons_zero, List.set_cons_succ]
            refine held_no (i := 19) rfl (by kernel_rfl) (by kernel_rfl) (by kernel_rfl) (fun _ _ _ h => h) (by rfl) hHeld ?_
            simp only [List.setIfInBounds_toArray, List.set_cons_zero, List.set_cons_succ]
            refine held_no (i := 20) rfl (by kernel_rfl) (by kernel_rfl) (by kernel_rfl) (fun _ _ _ h => h) (by rfl) hHeld ?_
            simp only [List.setIfInBounds_toArray, List.set_cons_zero, List.set_cons_succ]
            refine held_yes (i := 21) (v := ?_) rfl (by kernel_rfl) (by kernel_rfl) (by kernel_rfl) (fun _ _ _ h => h) (by rfl) (fun w hSw => ?_) hHeld ?_
            rotate_left
            · (try dsimp only at hSw); go_simp; try with_reducible rfl
            simp only [List.setIfInBounds_toArray, List.set_cons_zero, List.set_cons_succ]
            refine held_yes (i := 22) (v := ?_) rfl (by kernel_rfl) (by kernel_rfl) (by kernel_rfl) (fun _ _ _ h => h) (by rfl) (fun w hSw => ?_) hHeld ?_
            rotate_left
            · (try dsimp only at hSw); go_simp; try with_reducible rfl
            simp only [List.setIfInBounds_toArray, List.set_cons_zero, List.set_cons_succ]
            refine wpAnyH_done (by kernel_rfl) ?_ _
            go_wp2_with fail
            go_roundw
            case rel => exact ⟨j + 1, by omega, by go_num, by rw [HREST.out]; exact hr5, (below_next hbW3 (Below.refl _ _).drew).grown hg5 (below_next hbW3 (Below.refl _ _).drew).size (fun k hk => by cases hk; omega)⟩
            case measure => simp [intOf]; omega
          · have hT' : isT = false := by simpa using hT
            subst hT'
            have hok : 0 ≤ pn ∧ pn ≤ 1099511627776 := by
              simp only [ptOf, ptErr, Bool.false_eq_true, if_false] at hpe
              split at hpe
              · assumption
              · cases hpe
            obtain ⟨m, rfl⟩ := Int.eq_ofNat_of_zero_le hok.1
            have hm : m ≤ 1099511627776 := by omega
            clear hpe hT
            go_wp2_with fail
            obtain ⟨g, hg⟩ : ∃ g, g = wr.heap.size := ⟨_, rfl⟩
            rw [← hg]
            have hgr : r < g := by rw [hg]; exact HRJ.out.lt
            have hnew := heap_alloc_new wr (.cells #[.bool false, .int .i64 m, .slice A' pt.length c'] 32)
            rw [← hg] at hnew
            have hbW : Below wr.heap.size wr (wr.alloc (.cells #[.bool false, .int .i64 m, .slice A' pt.length c'] 32)) := (Below.refl _ _).alloc (Nat.le_refl _) _
            have hrW := HRJ.out.below hbW
            have hbW3 := below_next hbj hbW
            generalize wr.alloc (.cells #[.bool false, .int .i64 m, .slice A' pt.length c'] 32) = W at *
            have htx := Number_any r base 0 1099511627776 _ W.drew (hrW.below ((Below.refl _ _).drew))
            rw [show ptB (ptOf (false, (m : Int), pt)) = numB m from rfl, rnum_numB m hm, if_neg (by omega)] at htx
            have HTX := Lib.hid htx
            have hkp : ∀ w', W.grownBy w' (some r) → w'.cell? ⟨g, 0, none⟩ = some (.bool false) ∧ w'.cell? ⟨g, 1, none⟩ = some (.int .i64 m) := by
              intro w' hgw
              have hblk : w'.heap[g]? = W.heap[g]? := hgw.block g (Array.getElem?_eq_some_iff.1 hnew).1 (by simp; omega)
              exact ⟨by simp [World.cell?, hblk, hnew], by simp [World.cell?, hblk, hnew]⟩
            have HKP := Lib.hid hkp
            clear hkp htx hrW hnew hg
            have hgd : W.grownBy W.drew (some r) := grown_of_below (Below.refl _ _).drew _
            refine wp_region_held_drew (S := fun w' => w'.cell? ⟨g, 0, none⟩ = some (.bool false) ∧ w'.cell? ⟨g, 1, none⟩ = some (.int .i64 m)) (by kernel_rfl) (HKP.out _ hgd) (fun hHeld => ?_)
            refine held_yes (i := 0) (v := ?_) rfl (by kernel_rfl) (by kernel_rfl) (by kernel_rfl) (fun _ _ _ h => h) (by rfl) (fun w hSw => ?_) hHeld ?_
            rotate_left
            · (try dsimp only at hSw); go_simp; try with_reducible rfl
            simp only [List.setIfInBounds_toArray, List.set_cons_zero, List.set_cons_succ]
            refine held_yes (i := 1) (v := ?_) rfl (by kernel_rfl) (by kernel_rfl) (by kernel_rfl) (fun _ _ _ h => h) (by rfl) (fun w hSw => ?_) hHeld ?_
            rotate_left
            · (try dsimp only at hSw); go_simp; try with_reducible rfl
            simp only [List.setIfInBounds_toArray, List.set_cons_zero, List.set_cons_succ]
            refine held_yes (i := 2) (v := ?_) rfl (by kernel_rfl) (by kernel_rfl) (by kernel_rfl) (fun _ _ _ h => h) (by rfl) (fun w hSw => ?_) hHeld ?_
            rotate_left
            · (try dsimp only at hSw); go_simp; try with_reducible rfl
            simp only [List.setIfInBounds_toArray, List.set_cons_zero, List.set_cons_succ]
            refine held_no (i := 3) rfl (by kernel_rfl) (by kernel_rfl) (by kernel_rfl) (fun _ _ _ h => h) (by rfl) hHeld ?_
            simp only [List.setIfInBounds_toArray, List.set_cons_zero, List.set_cons_succ]
            refine held_no (i := 4) rfl (by kernel_rfl) (by kernel_rfl) (by kernel_rfl) (fun _ _ _ h => h) (by rfl) hHeld ?_
            simp only [List.setIfInBounds_toArray, List.set_cons_zero, List.set_cons_succ]
            refine held_no (i := 5) rfl (by kernel_rfl) (by kernel_rfl) (by kernel_rfl) (fun _ _ _ h => h) (by rfl) hHeld ?_
            simp only [List.setIfInBounds_toArray, List.set_cons_zero, List.set_cons_succ]
            refine held_no (i := 6) rfl (by kernel_rfl) (by kernel_rfl) (by kernel_rfl) (fun _ _ _ h => h) (by rfl) hHeld ?_
            simp only [List.setIfInBounds_toArray, List.set_cons_zero, List.set_cons_succ]
            refine held_no (i := 7) rfl (by kernel_rfl) (by kernel_rfl) (by kernel_rfl) (fun _ _ _ h => h) (by rfl) hHeld ?_
            simp only [List.setIfInBounds_toArray, List.set_cons_zero, List.set_cons_succ]
            refine held_no (i := 8) rfl (by kernel_rfl) (by kernel_rfl) (by kernel_rfl) (fun _ _ _ h => h) (by rfl) hHeld ?_
            simp only [List.setIfInBounds_toArray, List.set_cons_zero, List.set_cons_succ]
            refine held_no (i := 9) rfl (by kernel_rfl) (by kernel_rfl) (by kernel_rfl) (fun _ _ _ h => h) (by rfl) hHeld ?_
            simp only [List.setIfInBounds_toArray, List.set_cons_zero, List.set_cons_succ]
            refine held_yes (i := 10) (v := ?_) rfl (by kernel_rfl) (by kernel_rfl) (by kernel_rfl) (fun _ _ _ h => h) (by rfl) (fun w hSw => ?_) hHeld ?_
            rotate_left
            · (try dsimp only at hSw); go_simp; try with_reducible rfl
            simp only [List.setIfInBounds_toArray, List.set_cons_zero, List.set_cons_succ]
            refine held_yes (i := 11) (v := ?_) rfl (by kernel_rfl) (by kernel_rfl) (by kernel_rfl) (fun _ _ _ h => h) (by rfl) (fun w hSw => ?_) hHeld ?_
            rotate_left
            · (try dsimp only at hSw); go_simp; try with_reducible rfl
            simp only [List.setIfInBounds_toArray, List.set_cons_zero, List.set_cons_succ]
            refine held_yes (i := 12) (v := ?_) rfl (by kernel_rfl) (by kernel_rfl) (by kernel_rfl) (fun _ _ _ h => h) (by rfl) (fun w hSw => ?_) hHeld ?_
            rotate_left
            · (try dsimp only at hSw); go_simp; try with_reducible rfl
            simp only [List.setIfInBounds_toArray, List.set_cons_zero, List.set_cons_succ]
            refine held_yes (i := 13) (v := ?_) rfl (by kernel_rfl) (by kernel_rfl) (by kernel_rfl) (fun _ _ _ h => h) (by rfl) (fun w hSw => ?_) hHeld ?_
            rotate_left
            · (try dsimp only at hSw); go_simp; try with_reducible rfl
            simp only [List.setIfInBounds_toArray, List.set_cons_zero, List.set_cons_succ]
            refine held_yes (i := 14) (v := ?_) rfl (by kernel_rfl) (by kernel_rfl) (by kernel_rfl) (fun _ _ _ h => h) (by rfl) (fun w hSw => ?_) hHeld ?_
            rotate_left
            · (try dsimp only at hSw); go_simp; try with_reducible rfl
            simp only [List.setIfInBounds_toArray, List.set_cons_zero, List.set_cons_succ]
            refine held_yes (i := 15) (v := ?_) rfl (by kernel_rfl) (by kernel_rfl) (by kernel_rfl) (fun _ _ _ h => h) (by rfl) (fun w hSw => ?_) hHeld ?_
            rotate_left
            · (try dsimp only at hSw); go_simp; try with_reducible rfl
            simp only [List.setIfInBounds_toArray, List.set_cons_zero, List.set_cons_succ]
            refine held_yes (i := 16) (v := ?_) rfl (by kernel_rfl) (by kernel_rfl) (by kernel_rfl) (fun _ _ _ h => h) (by rfl) (fun w hSw => ?_) hHeld ?_
            rotate_left
            · (try dsimp only at hSw); go_simp; try with_reducible rfl
            simp only [List.setIfInBounds_toArray, List.set_cons_zero, List.set_cons_succ]
            refine held_yes (i := 18) (v := ?_) rfl (by kernel_rfl) (by kernel_rfl) (by kernel_rfl) (fun _ _ _ h => h) (by rfl) (fun w hSw => ?_) hHeld ?_
            rotate_left
            · (try dsimp only at hSw); go_simp; try with_reducible rfl
            simp only [List.setIfInBounds_toArray, List.set_cons_zero, List.set_cons_succ]
            refine held_yes (i := 19) (v := ?_) rfl (by kernel_rfl) (by kernel_rfl) (by kernel_rfl) (fun _ _ _ h => h) (by rfl) (fun w hSw => ?_) hHeld ?_
            rotate_left
            · (try dsimp only at hSw); go_simp; try with_reducible rfl
            simp only [List.setIfInBounds_toArray, List.set_cons_zero, List.set_cons_succ]
            refine held_only (i := 17) (by kernel_rfl) rfl (fun K hK => ?_)
            -- 17: CALL (*locket/code.Reader).Number
            go_simp
            refine HTX.out.mono ?_
            rintro e w5 ⟨rfl, hr5, hg5⟩
            have HS5 := HKP.out _ (grown_trans hgd hg5)
            go_wp2_with fail
            refine hK.out _ _ ?_ (fun hHeld => ?_)
            · first | assumption | exact HS5
            clear hK K
            try simp only [Act.put, List.setIfInBounds_toArray, List.set_cons_zero, List.set_cons_succ]
            refine held_yes (i := 20) (v := ?_) rfl (by kernel_rfl) (by kernel_rfl) (by kernel_rfl) (fun _ _ _ h => h) (by rfl) (fun w hSw => ?_) hHeld ?_
            rotate_left
            · (try dsimp only at hSw); go_simp; try with_reducible rfl
            simp only [List.setIfInBounds_toArray, List.set_cons_zero, List.set_cons_succ]
            refine held_yes (i := 21) (v := ?_) rfl (by kernel_rfl) (by kernel_rfl) (by kernel_rfl) (fun _ _ _ h => h) (by rfl) (fun w hSw => ?_) hHeld ?_
            rotate_left
            · (try dsimp only at hSw); go_simp; try with_reducible rfl
            simp only [List.setIfInBounds_toArray, List.set_cons_zero, List.set_cons_succ]
            refine held_yes (i := 22) (v := ?_) rfl (by kernel_rfl) (by kernel_rfl) (by kernel_rfl) (fun _ _ _ h => h) (by rfl) (fun w hSw => ?_) hHeld ?_
            rotate_left
            · (try dsimp only at hSw); go_simp; try with_reducible rfl
            simp only [List.setIfInBounds_toArray, List.set_cons_zero, List.set_cons_succ]
            refine wpAnyH_done (by kernel_rfl) ?_ _
            go_wp2_with fail
            go_roundw
            case rel => exact ⟨j + 1, by omega, by go_num, by rw [HREST.out]; exact hr5, (below_next hbW3 (Below.refl _ _).drew).grown hg5 (below_next hbW3 (Below.refl _ _).drew).size (fun k hk => by cases hk; omega)⟩
            case measure => simp [intOf]; omega
        · have hje : j = ms.length := by omega
          rw [hje, List.drop_length] at hrj
          have HE1 := Lib.hid (End_any r base _ wr hrj)
          have HB1 := Lib.hid (Bad_any r base _ wr hrj)
          have hfin := hb123.trans (hbj.mono hb123.size)
          clear hrj hje
          go_wp2_with fail
          refine HE1.out.mono ?_
          rintro e w6 ⟨rfl, rfl⟩
          go_wp2_with fail
          refine HB1.out.mono ?_
          rintro e w7 ⟨rfl, rfl⟩
          go_wp2_with fail
          go_ret
          exact ⟨rfl, hfin⟩

theorem CodePuts_walk (w : World) (A : Option Addr) (n c : Nat) (ms : List LPart) (h : RSlice 3 RPart w [.slice A n c] ms) : Calls Try.prog 6 #[.slice A n c] w (Tells w true) := by
  cases hs : smallB ms with
  | false => exact puts_small A n c ms w h hs
  | true =>
    by_cases he : putErr (ms.map ptOf) = 0
    · exact puts_ok A n c ms w h hs he
    · exact puts_err A n c ms w h hs he
end Go.Proofs.Ytpcncogmhnncpaa
