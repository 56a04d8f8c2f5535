/- The walk of locketlaw08.CodeCuts. -/
import Derived.Test.YtpcncogmhnncpaaOwn8
namespace Go.Proofs.Ytpcncogmhnncpaa
open Go.RowKit
set_option linter.unusedSimpArgs false

/-- What is left when parts of these sorts are read. -/
def rpart (p : LPart) (s : RS) : RS := if p.1 then (rtext 0 4096 s).2 else (rnum 0 1099511627776 s).2
def rparts (ps : List LPart) (s : RS) : RS := ps.foldl (fun s p => rpart p s) s
def ended (s : RS) : Bool := !s.2 && s.1.isEmpty

theorem rget_ext (n : Nat) (s q : List UInt8) (h : (rget n (s, false)).2.2 = false) : rget n (s ++ q, false) = ((rget n (s, false)).1, ((rget n (s, false)).2.1 ++ q, false)) := by
  unfold rget at h ⊢
  by_cases hl : s.length < n
  · simp [hl] at h
  · rw [if_neg (by simp; omega), if_neg (by simp; omega)]
    have hl' : n ≤ s.length := by omega
    simp [List.take_append_of_le_length hl', List.drop_append_of_le_length hl']
theorem rget_bad (n : Nat) (s : List UInt8) : (rget n (s, true)).2.2 = true := by simp [rget]
theorem rpart_bad (p : LPart) (s : List UInt8) : (rpart p (s, true)).2 = true := by
  unfold rpart rtext rnum
  split
  · rw [if_pos (.inl (rget_bad 2 s))]
  · rw [if_pos (.inl (rget_bad 6 s))]
theorem rtext_ext (lo hi : Int) (s q : List UInt8) (h : (rtext lo hi (s, false)).2.2 = false) : (rtext lo hi (s ++ q, false)).2 = ((rtext lo hi (s, false)).2.1 ++ q, false) := by
  have h0 : (rget 2 (s, false)).2.2 = false := by
    unfold rtext at h
    split at h
    · cases h
    · rename_i h1
      rw [not_or] at h1
      simpa using h1.1
  unfold rtext at h ⊢
  rw [rget_ext 2 s q h0]
  generalize rget 2 (s, false) = g at *
  obtain ⟨n, r, b⟩ := g
  simp only at h h0 ⊢
  subst h0
  by_cases h1 : (n : Int) < lo ∨ hi < (n : Int)
  · simp [h1] at h
  · by_cases h2 : r.length < n
    · simp [h1, h2] at h
    · have h3 : ¬ r.length + q.length < n := by omega
      simp [h1, h2, h3, List.drop_append_of_le_length (show n ≤ r.length by omega)]
theorem rnum_ext (lo hi : Int) (s q : List UInt8) (h : (rnum lo hi (s, false)).2.2 = false) : (rnum lo hi (s ++ q, false)).2 = ((rnum lo hi (s, false)).2.1 ++ q, false) := by
  have h0 : (rget 6 (s, false)).2.2 = false := by
    unfold rnum at h
    split at h
    · cases h
    · rename_i h1
      rw [not_or] at h1
      simpa using h1.1
  unfold rnum at h ⊢
  rw [rget_ext 6 s q h0]
  generalize rget 6 (s, false) = g at *
  obtain ⟨n, r, b⟩ := g
  simp only at h h0 ⊢
  subst h0
  by_cases h1 : (n : Int) < lo ∨ hi < (n : Int)
  · simp [h1] at h
  · simp [h1]
theorem rpart_ext (p : LPart) (s q : List UInt8) (h : (rpart p (s, false)).2 = false) : rpart p (s ++ q, false) = ((rpart p (s, false)).1 ++ q, false) := by
  unfold rpart at h ⊢
  by_cases hp : p.1 = true
  · simp only [hp, if_true] at h ⊢
    exact rtext_ext 0 4096 s q h
  · simp only [hp] at h ⊢
    exact rnum_ext 0 1099511627776 s q h
theorem rparts_bad (ps : List LPart) (s : List UInt8) : (rparts ps (s, true)).2 = true := by
  induction ps generalizing s with
  | nil => rfl
  | cons p ps ih =>
    have := rpart_bad p s
    obtain ⟨t, ht⟩ : ∃ t, rpart p (s, true) = (t, true) := ⟨(rpart p (s, true)).1, Prod.ext rfl this⟩
    simp only [rparts, List.foldl_cons]
    rw [ht]
    exact ih t
theorem rparts_ext (ps : List LPart) (s q : List UInt8) (h : (rparts ps (s, false)).2 = false) : rparts ps (s ++ q, false) = ((rparts ps (s, false)).1 ++ q, false) := by
  induction ps generalizing s with
  | nil => rfl
  | cons p ps ih =>
    simp only [rparts, List.foldl_cons] at h ⊢
    cases hb : (rpart p (s, false)).2 with
    | true =>
      have e : rpart p (s, false) = ((rpart p (s, false)).1, true) := Prod.ext rfl hb
      rw [e] at h
      have := rparts_bad ps (rpart p (s, false)).1
      unfold rparts at this
      rw [this] at h
      cases h
    | false =>
      have e : rpart p (s, false) = ((rpart p (s, false)).1, false) := Prod.ext rfl hb
      rw [rpart_ext p s q hb]
      rw [e] at h ⊢
      exact ih _ h
theorem rpart_put (p : LPart) (h : ptErr (ptOf p) = 0) (rest : List UInt8) : rpart p (ptB (ptOf p) ++ rest, false) = (rest, false) := by
  obtain ⟨t, n, bs⟩ := p
  cases t with
  | true =>
    have hok : bs.length ≤ 4096 := by
      simp only [ptOf, ptErr, if_true] at h
      split at h
      · assumption
      · cases h
    simp only [rpart, ptOf, ptB, if_true]
    rw [rtext_textB bs rest hok]
  | false =>
    have hok : 0 ≤ n ∧ n ≤ 1099511627776 := by
      simp only [ptOf, ptErr, Bool.false_eq_true, if_false] at h
      split at h
      · assumption
      · cases h
    obtain ⟨m, rfl⟩ := Int.eq_ofNat_of_zero_le hok.1
    simp only [rpart, ptOf, ptB, Bool.false_eq_true, if_false, Int.toNat_natCast]
    rw [rnum_numB m (by omega), if_neg (by omega)]
theorem rparts_put (ps : List LPart) (h : ∀ p ∈ ps, ptErr (ptOf p) = 0) (rest : List UInt8) : rparts ps (putB (ps.map ptOf) ++ rest, false) = (rest, false) := by
  induction ps with
  | nil => rfl
  | cons p ps ih =>
    have e : putB ((p :: ps).map ptOf) ++ rest = ptB (ptOf p) ++ (putB (ps.map ptOf) ++ rest) := by simp [putB]
    rw [e]
    simp only [rparts, List.foldl_cons]
    rw [rpart_put p (h p (by simp))]
    exact ih (fun q hq => h q (by simp [hq]))
theorem cut_bad (ps : List LPart) (h : ∀ p ∈ ps, ptErr (ptOf p) = 0) (k : Nat) (hk : k < (putB (ps.map ptOf)).length) : ended (rparts ps ((putB (ps.map ptOf)).take k, false)) = false := by
  cases he : ended (rparts ps ((putB (ps.map ptOf)).take k, false)) with
  | false => rfl
  | true =>
    exfalso
    simp only [ended, Bool.and_eq_true, Bool.not_eq_true', List.isEmpty_iff] at he
    have h1 := rparts_ext ps _ ((putB (ps.map ptOf)).drop k) he.1
    rw [List.take_append_drop, he.2] at h1
    have h2 := rparts_put ps h []
    rw [List.append_nil, h1] at h2
    simp at h2
    omega
theorem more_bad (ps : List LPart) (h : ∀ p ∈ ps, ptErr (ptOf p) = 0) (more : List UInt8) : ended (rparts ps (putB (ps.map ptOf) ++ more, false)) = decide (more.length = 0) := by
  rw [rparts_put ps h]
  cases more <;> simp [ended]
theorem rparts_snoc (ps : List LPart) (p : LPart) (s : RS) : rparts (ps ++ [p]) s = rpart p (rparts ps s) := by simp [rparts]

set_option maxHeartbeats 1000000 in
/-- The statement's own reader: a function that has the parts in a variable. -/
theorem CutsRead_any (A : Option Addr) (n c : Nat) (ps : List LPart) (x : Nat) (B : Option Addr) (m cb : Nat) (bs : List UInt8) (w : World) (h : RSlice 3 RPart w [.slice A n c] ps) (hx : w.cell? ⟨x, 0, none⟩ = some (.slice A n c))
    (hB : Rd w 1 B m cb (bvs bs)) (hm : m ≤ 100000) :
    Calls Try.prog 17 #[.slice B m cb, .pointer (some ⟨x, 0, none⟩)] w (Tells w (ended (rparts ps (bs, false)))) := by
  obtain ⟨rfl, cells, hr0, _⟩ := slice_eta h
  have hmax := hr0.max
  have hcap := hr0.cap
  unfold maxLen at hmax
  clear hr0
  have hml : bs.length = m := by have := hB.len; rw [bvs_length] at this; omega
  subst hml
  have hrd := Read_any B cb bs w hB (by omega)
  have HRD := Lib.hid hrd
  have H := Lib.hid h
  have HX := Lib.hid hx
  clear hrd hB h hx
  go_enter Try.func17, Try.ntmps17
  go_wp2_with fail
  refine HRD.out.mono ?_
  rintro e w1 ⟨r, rfl, hr0, hr, hb1⟩
  have hx1 := cell_below hb1 HX.out
  have HR := Lib.hid hr
  clear hr
  go_wp2_with fail
  go_loopw [6, 11] (fun _ i wr => ∃ k : Nat, k ≤ ps.length ∧ i = .int .i64 k ∧ Rdr wr w.heap.size r (rparts (ps.take k) (bs, false)) ∧ Below w.heap.size w wr) (fun _ i _ => ps.length - (intOf i).toNat)
  case atStart => exact ⟨0, Nat.zero_le _, rfl, HR.out, hb1⟩
  case round =>
    obtain ⟨k, hk, rfl, hrk, hbk⟩ := hrel
    by_cases hlt : k < ps.length
    · have hp : ps[k]? = some ps[k] := List.getElem?_eq_getElem hlt
      generalize ps[k] = p at hp
      have hsn : rparts (ps.take (k + 1)) (bs, false) = rpart p (rparts (ps.take k) (bs, false)) := by rw [take_snoc ps k p hp, rparts_snoc]
      generalize rparts (ps.take k) (bs, false) = st at *
      obtain ⟨b, o, A', c', rfl, g0, g1, g2, hr2, hw⟩ := part_at H.out k p hp
      have h0 := cell_below hbk g0
      have h1 := cell_below hbk g1
      have h2 := cell_below hbk g2
      have HSN := Lib.hid hsn
      have HRK := Lib.hid hrk
      clear hsn hrk g0 g1 g2 hr2 hw hp
      obtain ⟨t, pn, pt⟩ := p
      simp only at h0 h1 h2
      have hal := fun o => HRK.out.below ((Below.refl wr.heap.size wr).alloc (Nat.le_refl _) o)
      have HAL := Lib.hid hal
      clear hal
      have hba := fun o => hbk.alloc hbk.size o
      have HBA := Lib.hid hba
      clear hba
      cases t with
      | true =>
        go_wp2_with fail
        refine (Text_any r _ 0 4096 st _ (HAL.out _)).mono ?_
        rintro e w2 ⟨A5, c5, rfl, hs5, hr5, hg5, _⟩
        clear hs5
        go_wp2_with fail
        go_roundw
        case rel => exact ⟨k + 1, by omega, by go_num, by rw [HSN.out]; exact hr5, (HBA.out _).grown hg5 (HBA.out _).size (fun j hj => by cases hj; have := hb1.size; omega)⟩
        case measure => simp [intOf]; omega
      | false =>
        go_wp2_with fail
        refine (Number_any r _ 0 1099511627776 st _ (HAL.out _)).mono ?_
        rintro e w2 ⟨rfl, hr5, hg5⟩
        go_wp2_with fail
        go_roundw
        case rel => exact ⟨k + 1, by omega, by go_num, by rw [HSN.out]; exact hr5, (HBA.out _).grown hg5 (HBA.out _).size (fun j hj => by cases hj; have := hb1.size; omega)⟩
        case measure => simp [intOf]; omega
    · have hke : k = ps.length := by omega
      rw [hke, List.take_length] at hrk
      have HE := Lib.hid (End_any r _ _ wr hrk)
      clear hrk hke
      go_wp2_with fail
      refine HE.out.mono ?_
      rintro e w2 ⟨rfl, rfl⟩
      go_wp2_with fail
      go_ret
      exact ⟨rfl, hbk⟩

set_option maxRecDepth 100000 in
set_option maxHeartbeats 2000000 in
theorem CodeCuts_walk (w : World) (A : Option Addr) (n c : Nat) (ps : List LPart) (h : RSlice 3 RPart w [.slice A n c] ps) (cut : Int) (hcut : (Lit.int .i64 cut).wf = true) (B : Option Addr) (m cb : Nat) (more : List UInt8) (hB : RBytes w [.slice B m cb] more) :
    Calls Try.prog 3 #[.slice A n c, .int .i64 cut, .slice B m cb] w (Tells w true) := by
  obtain ⟨B', cb', he, hr⟩ := hB
  simp only [List.cons.injEq, Value.slice.injEq, and_true] at he
  obtain ⟨rfl, rfl, rfl⟩ := he
  obtain ⟨rfl, cells, hr0, _⟩ := slice_eta h
  have hmax := hr0.max
  have hcap := hr0.cap
  have hmax2 := hr.max
  have hcap2 := hr.cap
  unfold maxLen at hmax hmax2
  clear hr0
  have hsm := Lib.hid (fun w => small_any A ps.length c ps w)
  have HST : Hid (Stays (RSlice 3 RPart)) := Lib.hid (stays_slice stays_part)
  have H := Lib.hid h
  have HR := Lib.hid hr
  clear h hr
  have hnew := heap_alloc_new w (.cells #[.slice A ps.length c] 22)
  have hx0 : (w.alloc (.cells #[.slice A ps.length c] 22)).cell? ⟨w.heap.size, 0, none⟩ = some (.slice A ps.length c) := by simp only [World.cell?, hnew]; rfl
  have hb0 : Below w.heap.size w (w.alloc (.cells #[.slice A ps.length c] 22)) := (Below.refl _ _).alloc (Nat.le_refl _) _
  go_enter Try.func3, Try.ntmps3
  go_wp2_with fail
  obtain ⟨x, hx⟩ : ∃ x, x = w.heap.size := ⟨_, rfl⟩
  rw [← hx] at hx0 ⊢
  generalize w.alloc (.cells #[.slice A ps.length c] 22) = w0 at *
  clear hnew hx
  refine (anchor8 w0).mono ?_
  rintro e w1 ⟨rfl, hb1⟩
  have hx1 := cell_below hb1 hx0
  have hb01 := below_next hb0 hb1
  go_wp2_with fail
  refine (hsm.out w1 (HST.out _ _ _ _ hb01 H.out)).mono ?_
  rintro e w2 ⟨rfl, hb2⟩
  have hx2 := cell_below hb2 hx1
  have hb02 := below_next hb01 hb2
  clear hx0 hx1 hb1 hb2 hb01 hb0 hsm
  cases hsma : smallB ps with
  | false =>
    go_wp2_with fail
    go_ret
    exact ⟨rfl, hb02⟩
  | true =>
  have HSA := Lib.hid hsma
  clear hsma
  by_cases hl8 : ps.length ≤ 8
  case neg =>
    have hd : decide ((8 : Int) < (ps.length : Int)) = true := by simp; omega
    go_wp2_with fail
    go_ret
    exact ⟨rfl, hb02⟩
  have hd8 : decide ((8 : Int) < (ps.length : Int)) = false := by simp; omega
  by_cases hc0 : cut < 0
  · go_wp2_with fail
    go_ret
    exact ⟨rfl, hb02⟩
  obtain ⟨cut, rfl⟩ := Int.eq_ofNat_of_zero_le (show 0 ≤ cut by omega)
  have hdc : decide ((cut : Int) < 0) = false := by simp
  by_cases hm1 : more.length ≤ 100
  case neg =>
    have hd : decide ((100 : Int) < (more.length : Int)) = true := by simp; omega
    go_wp2_with fail
    go_ret
    exact ⟨rfl, hb02⟩
  have hd1 : decide ((100 : Int) < (more.length : Int)) = false := by simp; omega
  have hput := Lib.hid (put_any A ps.length c ps w2 (HST.out _ _ _ _ hb02 H.out) (by omega))
  go_wp2_with fail
  refine hput.out.mono ?_
  intro e w3 hp
  rcases hp with ⟨he, A3, c3, rfl, hs3, hb3⟩ | ⟨he, rfl, hb3⟩
  case inr =>
    have hb03 := below_next hb02 hb3
    have hne : (putErr (ps.map ptOf) != 0) = true := by simpa using he
    generalize putErr (ps.map ptOf) = er at *
    clear he
    go_wp2_with fail
    go_ret
    exact ⟨rfl, hb03⟩
  have hall : ∀ p ∈ ps, ptErr (ptOf p) = 0 := fun p hp => (putErr_ok _).1 he _ (List.mem_map.2 ⟨p, hp, rfl⟩)
  have hcutb := cut_bad ps hall
  have hmoreb := more_bad ps hall more
  have hx3 := cell_below hb3 hx2
  have hb03 := below_next hb02 hb3
  generalize putB (ps.map ptOf) = bs at *
  have HCB := Lib.hid hcutb
  have HMB := Lib.hid hmoreb
  have HS3 := Lib.hid hs3
  have hm3 := hs3.max
  have hc3 := hs3.cap
  unfold maxLen at hm3
  clear hcutb hmoreb hs3 hall he hput hx2
  by_cases hz : bs.length = 0
  · have hd : ((bs.length : Int) == 0) = true := beq_iff_eq.2 (by omega)
    have HZ := Lib.hid hz
    clear hz
    go_wp2_with fail
    go_ret
    exact ⟨rfl, hb03⟩
  have hdz : ((bs.length : Int) == 0) = false := beq_eq_false_iff_ne.2 (by omega)
  by_cases hbig : bs.length ≤ 3000
  case neg =>
    have hd : decide ((3000 : Int) < (bs.length : Int)) = true := by simp; omega
    go_wp2_with fail
    go_ret
    exact ⟨rfl, hb03⟩
  have hdb : decide ((3000 : Int) < (bs.length : Int)) = false := by simp; omega
  obtain ⟨k, hk⟩ : ∃ k, k = cut % bs.length := ⟨_, rfl⟩
  have hkl : k < bs.length := by rw [hk]; exact Nat.mod_lt _ (by omega)
  have hkI : (cut : Int) % (bs.length : Int) = (k : Int) := by rw [hk]; simp
  clear hk
  go_wp2_with fail
  have hcr := CutsRead_any A ps.length c ps x A3 k c3 (bs.take k) w3 (HST.out _ _ _ _ hb03 H.out) hx3 (HS3.out.rd.take (by omega)) (by omega)
  rw [HCB.out k hkl] at hcr
  refine hcr.mono ?_
  rintro e w4 ⟨rfl, hb4⟩
  have hx4 := cell_below hb4 hx3
  have hb04 := below_next hb03 hb4
  have HS4 := Lib.hid (HS3.out.below hb4)
  clear hcr hx3 hkI
  go_wp2_with (first
    | (at_builtin; refine wpList_append_seg_w (n := 0) (xs := bvs []) (by rfl) _ _ _ _ rfl ei_u8 rfl (seg_empty w4 5) rfl ((HS4.out.rd.below ((Below.refl _ _).alloc (Nat.le_refl _) _)).src Try.underlying23 (bvs_one _)) (by simp [maxLen]; omega) (by simp; omega) (by simp) ?_; intro A5 c5 w5 hs5 hg5 _; rw [Nat.zero_add, show bvs [] ++ bvs bs = bvs bs from rfl] at hs5)
    | (at_builtin; refine wpList_append_seg_w (by rfl) _ _ _ _ rfl ei_u8 rfl hs5 rfl ((HR.out.below ((hb04.alloc hb04.size _).grown hg5 (by have := hb04.size; simp; omega) (fun j hj => by cases hj; exact hb04.size))).src Try.underlying23 (bvs_one _)) (by simp [maxLen]; omega) (by simp; omega) (by have := hg5.size; simp at this; omega) ?_; intro A6 c6 w6 hs6 hg6 _))
  have hb05 := (hb04.alloc hb04.size (.cells #[] 5)).grown hg5 (by have := hb04.size; simp; omega) (fun j hj => by cases hj; exact hb04.size)
  have hb06 := hb05.grown hg6 hb05.size (fun j hj => by have := own_base hs5 hj; have := hb04.size; omega)
  have hb46 : Below w4.heap.size w4 w6 := (((Below.refl _ _).alloc (Nat.le_refl _) (.cells #[] 5)).grown hg5 (by simp) (fun j hj => by cases hj; exact Nat.le_refl _)).grown hg6 (by have := hg5.size; simp at this; omega) (fun j hj => own_base hs5 hj)
  have hx6 := cell_below hb46 hx4
  rw [← bvs_append] at hs6
  have hcr := CutsRead_any A ps.length c ps x A6 (bs.length + more.length) c6 (bs ++ more) w6 (HST.out _ _ _ _ hb06 H.out) hx6 hs6.rd (by omega)
  rw [HMB.out] at hcr
  have HCR := Lib.hid hcr
  clear hcr hs6 hs5 hg5 hg6 hx4 hx6 hb46 hb05
  refine HCR.out.mono ?_
  rintro e w7 ⟨rfl, hb7⟩
  have hd : (decide (more = []) == ((more.length : Int) == 0)) = true := by
    cases more with
    | nil => rfl
    | cons a r =>
      have : (((a :: r).length : Int) == 0) = false := beq_eq_false_iff_ne.2 (by simp; omega)
      rw [this]; simp
  have HD := Lib.hid hd
  clear hd HCR
  go_wp2_with fail
  go_ret
  refine ⟨?_, below_next hb06 hb7⟩
  show Ending.returned (.bool (decide (more = []) == ((more.length : Int) == 0))) = _
  rw [HD.out]
end Go.Proofs.Ytpcncogmhnncpaa
