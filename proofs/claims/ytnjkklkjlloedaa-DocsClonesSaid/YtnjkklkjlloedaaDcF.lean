/- Law 11: entries that are put and dropped; the anchor. -/
import Derived.Test.YtnjkklkjlloedaaDcE
import Derived.Test.YtnjkklkjlloedaaEnS
namespace Go.Proofs.Ytnjkklkjlloedaa
open Go.RowKit
set_option linter.unusedVariables false
set_option linter.unusedSimpArgs false
set_option maxRecDepth 10000
abbrev putE (nm v : Nm) : En := ⟨1, 1, 1, nm, v, 0, 0, 0, []⟩
abbrev dropE (nm : Nm) : En := ⟨2, 1, 1, nm, [], 0, 0, 0, []⟩
theorem put11_val (nm v : Nm) : AVal Try.prog 40 [.str nm, .str v] (enA (putE nm v)) := by
  refine AVal.mkw (by simp [AV.shutL, AV.shut]) (enA_shut _) ?_
  refine ACalls_body Try.func40 rfl rfl ?_
  simp only [Try.ntmps40, List.length_cons, List.length_nil, Nat.reduceAdd, Nat.reduceSub, List.replicate_succ, List.replicate_zero, List.cons_append, List.nil_append]
  refine Run ?_ trivial trivial trivial trivial trivial trivial trivial trivial trivial trivial trivial trivial
  simp only [aone, AV.wk, AV.wkL, AV.wkL_bvA]
  rfl
theorem drop11_val (nm : Nm) : AVal Try.prog 41 [.str nm] (enA (dropE nm)) := by
  refine AVal.mkw (by simp [AV.shutL, AV.shut]) (enA_shut _) ?_
  refine ACalls_body Try.func41 rfl rfl ?_
  simp only [Try.ntmps41, List.length_cons, List.length_nil, Nat.reduceAdd, Nat.reduceSub, List.replicate_succ, List.replicate_zero, List.cons_append, List.nil_append]
  refine Run ?_ trivial trivial trivial trivial trivial trivial trivial trivial trivial trivial trivial trivial
  simp only [aone, AV.wk, AV.wkL, AV.wkL_bvA]
  rfl
theorem putE_ok {nm v : Nm} (h1 : 1 ≤ nm.length) (h2 : nm.length ≤ 64) (h3 : v.length ≤ 512) : EnOk (putE nm v) := by
  refine ⟨by simp, by simp, by simp, by simp, by simp, by simp, by simp [En.same, En.bare], fun _ => ⟨h1, h2, h3⟩, ?_⟩
  simp
theorem dropE_ok {nm : Nm} (h1 : 1 ≤ nm.length) (h2 : nm.length ≤ 64) : EnOk (dropE nm) := by
  refine ⟨by simp, by simp, by simp, by simp, by simp, by simp, by simp [En.same, En.bare], fun _ => ⟨h1, h2, by simp⟩, ?_⟩
  simp
theorem putE_mid {nm v : Nm} (h2 : nm.length ≤ 1000) (h3 : v.length ≤ 1000) : (putE nm v).Mid := ⟨by show nm.length ≤ _; omega, by show v.length ≤ _; omega, by simp, fun x hx => by cases hx⟩
theorem dap_put {D : Dm} {e : En} (h : EnOk e) (hk : e.kind = 1) : dapE D e = 0 ∧ dapD D e = dput D e.name e.value := by
  rw [dapE, if_neg (by simpa using h), if_neg (by omega), dapD, if_pos ⟨h, hk⟩]
  exact ⟨rfl, rfl⟩
theorem dap_drop {D : Dm} {e : En} (h : EnOk e) (hk : e.kind = 2) : dapE D e = (if dget D e.name = none then 32 else 0) ∧ dapD D e = ddel D e.name := by
  refine ⟨?_, ?_⟩
  · rw [dapE, if_neg (by simpa using h)]
    simp only [hk, true_and]
  · rw [dapD, if_neg (fun g => by have := g.2; omega), if_pos ⟨h, hk⟩]
theorem dap_other {D : Dm} {e : En} (h : EnOk e) (hk : 2 < e.kind) : dapE D e = 0 ∧ dapD D e = D := by
  rw [dapE, if_neg (by simpa using h), if_neg (fun g => by have := g.1; omega), dapD, if_neg (fun g => by have := g.2; omega), if_neg (fun g => by have := g.2; omega)]
  exact ⟨rfl, rfl⟩
theorem dap_bad {D : Dm} {e : En} (h : ¬ EnOk e) : dapE D e = 10 ∧ dapD D e = D := by
  rw [dapE, if_pos h, dapD, if_neg (fun g => h g.1), if_neg (fun g => h g.1)]
  exact ⟨rfl, rfl⟩
theorem DmLen.app {D : Dm} (h : DmLen D) {e : En} (h1 : e.name.length ≤ 1000000) (h2 : e.value.length ≤ 1000000) : DmLen (dapD D e) := by
  intro x hx
  unfold dapD at hx
  split at hx
  · rcases dput_mem hx with rfl | hx
    · exact ⟨h1, h2⟩
    · exact h x hx
  · split at hx
    · exact h x (List.mem_filter.1 hx).1
    · exact h x hx
theorem dap_len (D : Dm) (e : En) : (dapD D e).length ≤ D.length + 1 := by
  unfold dapD
  split
  · exact dput_len _ _ _
  · split
    · have := ddel_len D e.name; omega
    · omega
theorem DmLen.nil : DmLen [] := fun x hx => by cases hx
theorem anchor11_val : AVal Try.prog 26 [] (.bool true) := by
  refine AVal.mkw rfl (by simp [AV.shut]) ?_
  refine ACalls_body Try.func26 rfl rfl ?_
  simp only [Try.ntmps26, List.length_cons, List.length_nil, Nat.reduceAdd, Nat.reduceSub, List.replicate_succ, List.replicate_zero, List.cons_append, List.nil_append]
  have p1 := put11_val [98] [49]
  have p2 := put11_val [97] [50]
  have p3 := drop11_val [99]
  have k1 := putE_ok (nm := [98]) (v := [49]) (by decide) (by decide) (by decide)
  have k2 := putE_ok (nm := [97]) (v := [50]) (by decide) (by decide) (by decide)
  have k3 := dropE_ok (nm := [99]) (by decide) (by decide)
  have q1 := dapply_sys [] DmOk.nil (putE [98] [49]) (putE_mid (by decide) (by decide)) 1 0
  rw [(dap_put k1 rfl).1, (dap_put k1 rfl).2] at q1
  have q2 := dapply_sys (dput [] [98] [49]) (DmOk.nil.put _ _) (putE [97] [50]) (putE_mid (by decide) (by decide)) 1 0
  rw [(dap_put k2 rfl).1, (dap_put k2 rfl).2] at q2
  have q3 := dapply_sys (dput (dput [] [98] [49]) [97] [50]) ((DmOk.nil.put _ _).put _ _) (dropE [99]) ⟨by decide, by decide, by simp, fun x hx => by cases hx⟩ 1 0
  rw [(dap_drop k3 rfl).1, (dap_drop k3 rfl).2] at q3
  have d1 : dput (dput [] [98] [49]) [97] [50] = [([97], [50]), ([98], [49])] := by decide
  simp only [d1] at q2 q3
  have d2 : (if dget [(([97] : Nm), ([50] : Nm)), ([98], [49])] [99] = none then (32 : Int) else 0) = 32 := by decide
  have d3 : ddel [(([97] : Nm), ([50] : Nm)), ([98], [49])] [99] = [([97], [50]), ([98], [49])] := by decide
  simp only [d2, d3] at q3
  have ok : DmOk [(([97] : Nm), ([50] : Nm)), ([98], [49])] := by rw [← d1]; exact (DmOk.nil.put _ _).put _ _
  have a1 := dall_sys _ ok (by decide) 1 0
  have l1 := dlen_sys [(([97] : Nm), ([50] : Nm)), ([98], [49])] 1 0
  refine Run ?_ trivial trivial (⟨Try.func29, rfl, rfl⟩ : Inl Try.prog 29 _ _ _) trivial trivial trivial trivial trivial trivial @wpCs_wk trivial trivial
  rfl
end Go.Proofs.Ytnjkklkjlloedaa
