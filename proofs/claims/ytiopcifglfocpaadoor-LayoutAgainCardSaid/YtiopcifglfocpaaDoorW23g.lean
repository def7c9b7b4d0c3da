/- Chapter 23, walk: the reference's item of a letter. No condition. -/
import Derived.Test.YtiopcifglfocpaaDoorW23f
namespace Go.Proofs.YtiopcifglfocpaaDoor.X
open Go.RowKit Go.Maps
/-- A row of an item's three cells. -/
def Row3i (B : Nat) (k n : Int) (t : ByteArray) (w : World) : Prop :=
  w.cell? ⟨B, 0, none⟩ = some (.int .i64 k) ∧ w.cell? ⟨B, 1, none⟩ = some (.int .i64 n) ∧ w.cell? ⟨B, 2, none⟩ = some (.string t) ∧ w.frozen? ⟨B, 0, none⟩ = false ∧ w.frozen? ⟨B, 1, none⟩ = false ∧ w.frozen? ⟨B, 2, none⟩ = false ∧ B < w.heap.size
theorem Row3i.below {B : Nat} {k n : Int} {t : ByteArray} {w w1 : World} (h : Row3i B k n t w) (hb : Below w.heap.size w w1) : Row3i B k n t w1 := by
  obtain ⟨h0, h1, h2, f0, f1, f2, hz⟩ := h
  exact ⟨(hb.cell (p := ⟨B, 0, none⟩) hz).trans h0, (hb.cell (p := ⟨B, 1, none⟩) hz).trans h1, (hb.cell (p := ⟨B, 2, none⟩) hz).trans h2,
    (hb.frozen (p := ⟨B, 0, none⟩) hz).trans f0, (hb.frozen (p := ⟨B, 1, none⟩) hz).trans f1, (hb.frozen (p := ⟨B, 2, none⟩) hz).trans f2, Nat.lt_of_lt_of_le hz hb.size⟩
theorem Row3i.new (w : World) (k n : Int) (t : ByteArray) (T : TypeId) : Row3i w.heap.size k n t (w.alloc (.cells #[.int .i64 k, .int .i64 n, .string t] T)) :=
  ⟨by rw [World.cell?_alloc_mark]; rfl, by rw [World.cell?_alloc_mark]; rfl, by rw [World.cell?_alloc_mark]; rfl,
    frozen_of_row _ _ _ _ _ (Go.heap_alloc_new w _), frozen_of_row _ _ _ _ _ (Go.heap_alloc_new w _), frozen_of_row _ _ _ _ _ (Go.heap_alloc_new w _), by simp⟩
theorem below_one (w : World) (o : Obj) : Below w.heap.size w (w.alloc o) := (Below.refl _ _).alloc (Nat.le_refl _) _
/-- A letter's item: kind, number, whether there is one. -/
def ItemIs (c : UInt8) (w : World) (e : Ending) (w' : World) : Prop :=
  e = .returned (.tuple #[itemV (itK c.toNat) (itN c.toNat) ⟨#[]⟩, .bool (itK c.toNat != 0)]) ∧ Below w.heap.size w w'
set_option maxHeartbeats 2000000 in
theorem refItem_any (c : UInt8) (w : World) :
    Calls Tryd.prog 28 #[.int .u8 (c.toNat : Int)] w (ItemIs c w) := by
  have hbd := itK_bd ⟨c.toNat, c.toNat_lt⟩
  have hft := Lib.hid (fun (k : Nat) (h0 : 1 ≤ k) (h1 : k ≤ 18) => item_fits ⟨c.toNat, c.toNat_lt⟩ ⟨k, by omega⟩ h0)
  simp only at hbd hft
  obtain ⟨K, hK⟩ : ∃ K, K = itK c.toNat := ⟨_, rfl⟩
  obtain ⟨N, hN⟩ : ∃ N, N = itN c.toNat := ⟨_, rfl⟩
  unfold ItemIs
  rw [← hK, ← hN] at hbd hft ⊢
  obtain ⟨C, hC⟩ : ∃ C : Int, C = (c.toNat : Int) := ⟨_, rfl⟩
  rw [← hC] at hft ⊢
  clear hK hN hC
  go_enter Tryd.func28, Tryd.ntmps28
  go_wp2_with fail
  go_loopw [4] (fun i wr => ∃ k : Nat, 1 ≤ k ∧ k ≤ 19 ∧ i = .int .i64 k ∧ Below w.heap.size w wr ∧ Hid (Row3i w.heap.size 0 0 ⟨#[]⟩ wr) ∧ Hid (K = 0 ∨ (k : Int) ≤ K)) (fun i _ => 19 - (intOf i).toNat)
  case atStart => exact ⟨1, by omega, by omega, rfl, below_one _ _, Row3i.new _ _ _ _ _, by show _ ∨ _; omega⟩
  case round =>
    obtain ⟨k, k1, k19, rfl, hB, hR, hI⟩ := hrel
    by_cases hlt : k ≤ 18
    · have hdk : decide ((k : Int) ≤ 18) = true := decide_eq_true (by omega)
      go_wp2_with fail
      go_loopw [5] (fun j wr => ∃ n : Nat, (n = 0 ∨ n = 3 ∨ n = 6) ∧ j = .int .i64 n ∧ Below w.heap.size w wr ∧ Hid (Row3i w.heap.size 0 0 ⟨#[]⟩ wr) ∧ Hid (K = 0 ∨ (k : Int) < K ∨ (k : Int) = K ∧ (n : Int) ≤ N)) (fun j _ => 6 - (intOf j).toNat)
      case atStart => exact ⟨0, by omega, rfl, hB, hR.out, by have := hI.out; show _ ∨ _ ∨ _; omega⟩
      case round =>
        obtain ⟨n, n0, rfl, hB, hR, hJ⟩ := hrel
        by_cases hn : n ≤ 3
        · have hfit : (k ≠ 7 ∧ mayE (k : Int) (n : Int) [] = 0 ∧ letC (k : Int) (n : Int) = C) ↔ (K = (k : Int) ∧ N = (n : Int)) := by
            have h := hft.out k k1 hlt
            rcases n0 with rfl | rfl | rfl
            · exact h.1
            · exact h.2
            · omega
          have CM := Lib.hid (fun W => refMay_any (k : Int) (n : Int) ⟨#[]⟩ W (by unfold maxLen; decide))
          have CL := Lib.hid (fun W => refLetter_any (k : Int) (n : Int) ⟨#[]⟩ W)
          rw [show (⟨#[]⟩ : ByteArray).data.toList = [] from rfl] at CM
          obtain ⟨M, hM⟩ : ∃ M, M = mayE (k : Int) (n : Int) [] := ⟨_, rfl⟩
          obtain ⟨E, hE⟩ : ∃ E, E = letC (k : Int) (n : Int) := ⟨_, rfl⟩
          rw [← hM, ← hE] at hfit
          rw [← hM] at CM
          rw [← hE] at CL
          have HF := Lib.hid hfit
          have hnext : ¬ (K = (k : Int) ∧ N = (n : Int)) → Hid (K = 0 ∨ (k : Int) < K ∨ (k : Int) = K ∧ ((n + 3 : Nat) : Int) ≤ N) := by
            intro h
            have := hJ.out
            show _ ∨ _ ∨ _
            omega
          clear hM hE hfit
          by_cases k7 : k = 7
          · have b7 : ((k : Int) != 7) = false := by rw [k7]; rfl
            have HN := hnext (fun h => (HF.out.2 h).1 k7)
            go_wp2_with fail
            go_roundw
            case rel => exact ⟨n + 3, by omega, by go_num, hB.alloc (by have := hB.size; omega) _, hR.out.below (below_one _ _), HN⟩
            case measure => simp [intOf]; omega
          · have b7 : ((k : Int) != 7) = true := by rw [bne_iff_ne]; omega
            go_wp2_with fail
            refine (CM.out _).mono ?_
            rintro e w3 ⟨rfl, hb3⟩
            have hB3 := hB.trans (((below_one wr (.cells #[.int .i64 (k : Int), .int .i64 (n : Int), .string ⟨#[]⟩] 32)).trans (hb3.mono (by simp))).mono hB.size)
            have hR3 := (hR.out.below (below_one _ _)).below hb3
            have hS3 := (Row3i.new wr (k : Int) (n : Int) ⟨#[]⟩ 32).below hb3
            by_cases hm : M = 0
            · subst hm
              have hSS := Lib.hid hS3
              obtain ⟨s0, s1, s2, _⟩ := hS3
              have HR3 := Lib.hid hR3
              clear hb3 hR3
              go_wp2_with fail
              refine (CL.out _).mono ?_
              rintro e w4 ⟨rfl, hb4⟩
              have hB4 := below_then hB3 hb4
              have hR4 := HR3.out.below hb4
              have hS4 := hSS.out.below hb4
              clear hb4 s0 s1 s2 HR3 hSS
              by_cases hc : E = C
              · have hKN := HF.out.1 ⟨k7, by trivial, hc⟩
                have bE : (E == C) = true := by rw [hc]; simp
                have HKN := Lib.hid hKN
                have hK0 := Lib.hid (show (K != 0) = true by rw [bne_iff_ne]; omega)
                clear hKN hc hnext
                obtain ⟨c0, c1, c2, f0, f1, f2, hz⟩ := hR4
                obtain ⟨s0, s1, s2, _⟩ := hS4
                go_wp2_with fail
                refine bodyPost_ret (v := .tuple #[.agg #[.int .i64 (k : Int), .int .i64 (n : Int), .string ⟨#[]⟩], .bool true]) (by simp [results, Tryd.results28, go_sem, c0, c1, c2]) rfl ⟨?_, by repeat (first | exact hB4 | refine Below.setCell ?_ (by simp) _)⟩
                rw [hK0.out, HKN.out.1, HKN.out.2]
                rfl
              · have HN := hnext (fun h => hc (HF.out.2 h).2.2)
                have bE : (E == C) = false := by rw [beq_eq_false_iff_ne]; exact hc
                clear hc
                go_wp2_with fail
                go_roundw
                case rel => exact ⟨n + 3, by omega, by go_num, hB4, hR4, HN⟩
                case measure => simp [intOf]; omega
            · have HN := hnext (fun h => hm (HF.out.2 h).2.1)
              have bM : (M == 0) = false := by rw [beq_eq_false_iff_ne]; exact hm
              clear hm hb3
              go_wp2_with fail
              go_roundw
              case rel => exact ⟨n + 3, by omega, by go_num, hB3, hR3, HN⟩
              case measure => simp [intOf]; omega
        · have h6 : n = 6 := by omega
          subst h6
          have HN := Lib.hid (show K = 0 ∨ ((k + 1 : Nat) : Int) ≤ K by have := hJ.out; omega)
          go_wp2_with fail
          go_roundw
          case rel => exact ⟨k + 1, by omega, by omega, by go_num, hB, hR.out, HN⟩
          case measure => simp [intOf]; omega
    · have h19 : k = 19 := by omega
      subst h19
      have hK : K = 0 := by have := hI.out; omega
      have hN : N = 0 := hbd.2.2.2 hK
      subst hK
      subst hN
      obtain ⟨c0, c1, c2, f0, f1, f2, hz⟩ := hR.out
      go_wp2_with fail
      refine bodyPost_ret (v := .tuple #[.agg #[.int .i64 0, .int .i64 0, .string ⟨#[]⟩], .bool false]) (by simp [results, Tryd.results28, go_sem, c0, c1, c2]) rfl ⟨rfl, by repeat (first | exact hB | refine Below.setCell ?_ (by simp) _)⟩
end Go.Proofs.YtiopcifglfocpaaDoor.X
