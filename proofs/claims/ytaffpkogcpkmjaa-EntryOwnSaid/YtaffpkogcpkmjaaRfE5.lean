/- The reference of layer 9 by the abstract machine: Bytes. -/
import Derived.Test.YtaffpkogcpkmjaaEnC
import Derived.Test.YtaffpkogcpkmjaaEnP
import Derived.Test.YtaffpkogcpkmjaaRfE1
import Derived.Test.YtaffpkogcpkmjaaRfE3
namespace Go.Proofs.Ytaffpkogcpkmjaa
open Go.RowKit
set_option linter.unusedVariables false
set_option linter.unusedSimpArgs false
set_option maxRecDepth 10000
theorem refNumI_val (n : Int) (h0 : 0 ≤ n) (hm : n ≤ 1000000000000000) : AVal Try.prog 50 [.int .i64 n] (.sl .full ((numB n.toNat).map bvA) 6) := by
  obtain ⟨m, rfl⟩ := Int.eq_ofNat_of_zero_le h0
  exact refNum_val m (by omega)
theorem enB_ex (e : En) : enB e = numB e.kind.toNat ++ (numB e.writer.toNat ++ (numB e.seq.toNat ++ putB (enP1 e))) := by
  simp [enB, enP, enP0, putB, ptB]
set_option maxHeartbeats 8000000 in
theorem refEBytes_val (e : En) (hok : EnOk e) : AVal Try.prog 22 [enA e] (bsA (enB e)) := by
  refine AVal.mkw (by simp only [AV.shutL, enA_shut, Bool.and_self]) (bsA_shut _) ?_
  refine ACalls_body Try.func22 rfl rfl ?_
  simp only [Try.ntmps22, List.length_cons, List.length_nil, Nat.reduceAdd, Nat.reduceSub, List.replicate_succ, List.replicate_zero, List.cons_append, List.nil_append]
  have hf := hok.fields
  obtain ⟨f1, f2, f3, f4, f5, f6, f7, f8, f9⟩ := hf
  obtain ⟨h1, h2, w1, w2, s1, s2, _⟩ := id hok
  have a1 := refNumI_val e.kind (by omega) (by omega)
  have a2 := refNumI_val e.writer (by omega) (by omega)
  have a3 := refNumI_val e.seq (by omega) (by omega)
  have j1 : AVal Try.prog 49 [.sl .none [.sl .none ((numB e.kind.toNat).map bvA) 6, .sl .none ((numB e.writer.toNat).map bvA) 6, .sl .none ((numB e.seq.toNat).map bvA) 6] 3] (bsA [numB e.kind.toNat, numB e.writer.toNat, numB e.seq.toNat].flatten) := refJoin_val [numB e.kind.toNat, numB e.writer.toNat, numB e.seq.toNat] (by simp) (by simp [numB_length])
  have hBl : [numB e.kind.toNat, numB e.writer.toNat, numB e.seq.toNat].flatten.length = 18 := rfl
  have hEB := enB_ex e
  have hBf : numB e.kind.toNat ++ (numB e.writer.toNat ++ (numB e.seq.toNat ++ putB (enP1 e))) = [numB e.kind.toNat, numB e.writer.toNat, numB e.seq.toNat].flatten ++ putB (enP1 e) := by simp
  rw [hBf] at hEB
  generalize [numB e.kind.toNat, numB e.writer.toNat, numB e.seq.toNat].flatten = B at j1 hBl hEB
  clear hBf
  unfold enP1 at hEB
  rw [hEB]
  by_cases k1 : e.kind = 1
  · rw [if_pos k1]
    have b1 := refText_val e.name (by omega)
    have b2 := refText_val e.value (by omega)
    have l1 : (textB e.name).length = e.name.length + 2 := by simp [textB]
    have l2 : (textB e.value).length = e.value.length + 2 := by simp [textB]
    have j2 : AVal Try.prog 49 [.sl .none [bsA B, bsA (textB e.name), bsA (textB e.value)] 3] (bsA [B, textB e.name, textB e.value].flatten) := refJoin_val [B, textB e.name, textB e.value] (by simp) (by simp [hBl, l1, l2]; omega)
    refine Run ?_ trivial trivial trivial trivial trivial trivial trivial trivial trivial trivial trivial trivial
    simp only [aone, putB, ptB, List.flatten_cons, List.flatten_nil, List.map_cons, List.map_nil, List.append_nil, List.flatMap_cons, List.flatMap_nil]
    exact wk_bs rfl
  rw [if_neg k1]
  by_cases k2 : e.kind = 2
  · rw [if_pos k2]
    have b1 := refText_val e.name (by omega)
    have l1 : (textB e.name).length = e.name.length + 2 := by simp [textB]
    have j2 : AVal Try.prog 49 [.sl .none [bsA B, bsA (textB e.name)] 2] (bsA [B, textB e.name].flatten) := refJoin_val [B, textB e.name] (by simp) (by simp [hBl, l1]; omega)
    refine Run ?_ trivial trivial trivial trivial trivial trivial trivial trivial trivial trivial trivial trivial
    simp only [aone, putB, ptB, List.flatten_cons, List.flatten_nil, List.map_cons, List.map_nil, List.append_nil, List.flatMap_cons, List.flatMap_nil]
    exact wk_bs rfl
  rw [if_neg k2]
  by_cases k3 : e.kind = 3
  · rw [if_pos k3]
    have b1 := refNumI_val e.who (by omega) (by omega)
    have b2 := refNumI_val e.rights (by omega) (by omega)
    have j2 : AVal Try.prog 49 [.sl .none [bsA B, .sl .none ((numB e.who.toNat).map bvA) 6, .sl .none ((numB e.rights.toNat).map bvA) 6] 3] (bsA [B, numB e.who.toNat, numB e.rights.toNat].flatten) := refJoin_val [B, numB e.who.toNat, numB e.rights.toNat] (by simp) (by simp [hBl, numB_length])
    refine Run ?_ trivial trivial trivial trivial trivial trivial trivial trivial trivial trivial trivial trivial
    simp only [aone, putB, ptB, List.flatten_cons, List.flatten_nil, List.map_cons, List.map_nil, List.append_nil, List.flatMap_cons, List.flatMap_nil]
    exact wk_bs rfl
  rw [if_neg k3]
  by_cases k4 : e.kind = 4
  · rw [if_pos k4]
    have b1 := refNumI_val e.who (by omega) (by omega)
    have j2 : AVal Try.prog 49 [.sl .none [bsA B, .sl .none ((numB e.who.toNat).map bvA) 6] 2] (bsA [B, numB e.who.toNat].flatten) := refJoin_val [B, numB e.who.toNat] (by simp) (by simp [hBl, numB_length])
    refine Run ?_ trivial trivial trivial trivial trivial trivial trivial trivial trivial trivial trivial trivial
    simp only [aone, putB, ptB, List.flatten_cons, List.flatten_nil, List.map_cons, List.map_nil, List.append_nil, List.flatMap_cons, List.flatMap_nil]
    exact wk_bs rfl
  rw [if_neg k4]
  have hws := f9.2
  have hwe := f9.each
  have b1 := refNumI_val e.epoch (by omega) (by omega)
  have b2 := refNum_val e.wraps.length (by omega)
  have j2 : AVal Try.prog 49 [.sl .none [bsA B, .sl .none ((numB e.epoch.toNat).map bvA) 6, .sl .none ((numB e.wraps.length).map bvA) 6] 3] (bsA [B, numB e.epoch.toNat, numB e.wraps.length].flatten) := refJoin_val [B, numB e.epoch.toNat, numB e.wraps.length] (by simp) (by simp [hBl, numB_length])
  have hCl : [B, numB e.epoch.toNat, numB e.wraps.length].flatten.length = 30 := by simp [hBl, numB_length]
  have hfin : B ++ putB ([.inl e.epoch, .inl e.wraps.length] ++ e.wraps.flatMap wpP) = [B, numB e.epoch.toNat, numB e.wraps.length].flatten ++ e.wraps.flatMap wpB := by
    rw [← putB_wraps]
    simp [putB, ptB]
  rw [hfin]
  generalize [B, numB e.epoch.toNat, numB e.wraps.length].flatten = C at j2 hCl
  refine Run ?_ trivial trivial trivial trivial trivial trivial trivial trivial trivial trivial trivial trivial
  refine AWP_loopS [3, 4, 66, 67, 68, 69, 70, 71, 72, 73, 74, 75, 76, 77, 78, 79, 80, 81, 82, 83, 84, 85, 86, 87, 88, 89] (N := Nat × List UInt8 × List AV) (fun ⟨k, l, js⟩ => [bsA l, .int .i64 (k : Int), js.getD 0 .und, js.getD 1 .und, js.getD 2 .und, js.getD 3 .und, js.getD 4 .und, js.getD 5 .und, js.getD 6 .und, js.getD 7 .und, js.getD 8 .und, js.getD 9 .und, js.getD 10 .und, js.getD 11 .und, js.getD 12 .und, js.getD 13 .und, js.getD 14 .und, js.getD 15 .und, js.getD 16 .und, js.getD 17 .und, js.getD 18 .und, js.getD 19 .und, js.getD 20 .und, js.getD 21 .und, js.getD 22 .und, js.getD 23 .und]) (fun ⟨k, l, js⟩ => ⟨[(0, enC e)], [], 1⟩) (fun ⟨k, l, js⟩ => k ≤ e.wraps.length ∧ l = C ++ (e.wraps.take k).flatMap wpB ∧ l.length = 30 + 56 * k) (fun ⟨k, l, js⟩ => e.wraps.length - k) ⟨0, C, [_, _, _, _, _, _, _, _, _, _, _, _, _, _, _, _, _, _, _, _, _, _, _, _]⟩ rfl rfl ?hi0 ?_
  rotate_left
  rintro ⟨k, l, js⟩ sl_ hs hi
  simp only [setsF, setF, Option.some.injEq] at hs
  subst hs
  case hi0 => exact ⟨by omega, by simp, by simp [hCl]⟩
  obtain ⟨hk, hl, hll⟩ := hi
  by_cases hlt : k < e.wraps.length
  · have hel : e.wraps[k]? = some e.wraps[k] := List.getElem?_eq_getElem hlt
    have c0 : (wpCs e.wraps)[k * 2 + 0]? = some (.int .i64 e.wraps[k].who) := wpCs_who hel
    have c1 : (wpCs e.wraps)[k * 2 + 1]? = some (bsA e.wraps[k].box) := wpCs_box hel
    have hs1 : e.wraps.take (k + 1) = e.wraps.take k ++ [e.wraps[k]] := by rw [List.take_add_one, hel]; rfl
    have hw := hwe _ (List.getElem_mem hlt)
    generalize e.wraps[k] = x at *
    have g1 := refNumI_val x.who (by omega) (by omega)
    have g2 := refText_val x.box (by omega)
    have l1 : (textB x.box).length = x.box.length + 2 := by simp [textB]
    have j3 : AVal Try.prog 49 [.sl .none [bsA l, .sl .none ((numB x.who.toNat).map bvA) 6, bsA (textB x.box)] 3] (bsA [l, numB x.who.toNat, textB x.box].flatten) := refJoin_val [l, numB x.who.toNat, textB x.box] (by simp) (by simp [hll, numB_length, l1]; omega)
    refine Run ?_ trivial trivial trivial trivial trivial trivial trivial trivial trivial trivial trivial trivial
    refine ALoopQ_normal ⟨k + 1, _, [_, _, _, _, _, _, _, _, _, _, _, _, _, _, _, _, _, _, _, _, _, _, _, _]⟩ rfl rfl ?hi1 ?hm1
    case hi1 =>
      refine ⟨by omega, ?_, ?_⟩
      · rw [hs1, hl]
        simp [wpB]
      · simp [hll, numB_length, l1]; omega
    case hm1 => simp only; omega
  · obtain rfl : k = e.wraps.length := by omega
    rw [List.take_length] at hl
    refine Run ?_ trivial trivial trivial trivial trivial trivial trivial trivial trivial trivial trivial trivial
    rw [aone, hl]
    exact wk_bs rfl
end Go.Proofs.Ytaffpkogcpkmjaa
