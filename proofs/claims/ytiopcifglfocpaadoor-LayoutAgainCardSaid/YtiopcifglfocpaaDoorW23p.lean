/- Chapter 23, walk: the reference's show: items as a text, byte by byte. Conditions: the slice reads as items; each may be; their texts are short. -/
import Derived.Test.YtiopcifglfocpaaDoorW23o
namespace Go.Proofs.YtiopcifglfocpaaDoor.X
open Go.RowKit Go.Maps
theorem take_byte (s : ByteArray) (k : Nat) (h : k < s.size) : s.data.toList.take (k + 1) = s.data.toList.take k ++ [s[k]] := by
  rw [List.take_succ_eq_append_getElem (by rw [len_list]; exact h)]; rfl
theorem flat_take (s : ByteArray) (k : Nat) (h : k < s.size) : (s.data.toList.take (k + 1)).flatMap dbl = (s.data.toList.take k).flatMap dbl ++ dbl s[k] := by
  rw [take_byte s k h]; simp
theorem app_list (s t : ByteArray) : (s ++ t).data.toList = s.data.toList ++ t.data.toList := by simp
theorem size_list (s : ByteArray) (l : List UInt8) (h : s.data.toList = l) : s.size = l.length := by rw [← h, len_list]
theorem list_str (s : ByteArray) (l : List UInt8) (h : s.data.toList = l) : s = ⟨l.toArray⟩ := by
  apply ByteArray.ext; apply Array.toList_inj.1; rw [h]
theorem byte_37 (s : ByteArray) (k : Nat) (h : k < s.size) : ((s[k].toNat : Int) == 37) = decide (s[k] = 37) := by
  rw [Bool.eq_iff_iff, beq_iff_eq, decide_eq_true_eq]
  constructor
  · intro h; exact UInt8.toNat_inj.1 (by have : (37 : UInt8).toNat = 37 := rfl; omega)
  · intro h; rw [h]; rfl
set_option maxHeartbeats 4000000 in
theorem refShow_any (v : Value) (l : List Itm) (w : World) (h : ReadsL v l w) (hl : l.length ≤ 5000) (ho : ∀ x ∈ l, okI x = true) (hs : textN l ≤ 5000) :
    Calls Tryd.prog 35 #[v] w fun e w' => e = .returned (.string ⟨(showL l).toArray⟩) ∧ Below w.heap.size w w' := by
  obtain ⟨a, c, hv, hc⟩ := h
  subst hv
  have HC := Lib.hid hc
  have HO := Lib.hid ho
  have HT := Lib.hid hs
  clear hc ho hs
  go_enter Tryd.func35, Tryd.ntmps35
  go_wp2_with fail
  go_loopw [3, 4] (fun s i wr => ∃ (k : Nat) (S : ByteArray), k ≤ l.length ∧ i = .int .i64 k ∧ s = .string S ∧ Below w.heap.size w wr ∧ Hid (S.data.toList = showL (l.take k))) (fun _ i _ => l.length - (intOf i).toNat)
  case atStart => exact ⟨0, ⟨#[]⟩, by omega, rfl, rfl, Below.refl _ _, rfl⟩
  case round =>
    obtain ⟨k, S, hk, rfl, rfl, hB, hS⟩ := hrel
    by_cases hlt : k < l.length
    · obtain ⟨b, o, ha, c0, c1, c2⟩ := cells_at HC.out hB k hlt
      subst ha
      have hok := HO.out l[k] (List.getElem_mem hlt)
      have hst := Lib.hid (showL_take l k hlt)
      have hsz := show_len (l.take k)
      have htk := textN_le l k
      have htm := textN_mem l l[k] (List.getElem_mem hlt)
      have hT := HT.out
      have hlk : (l.take k).length = k := by rw [List.length_take]; omega
      have hSS := size_list S _ hS.out
      have hSb : S.size ≤ 30000 := by omega
      have hpc : pieceL l[k] = pieceL (l[k].1, l[k].2.1, l[k].2.2) := rfl
      obtain ⟨q, hq⟩ : ∃ q, q = l[k].1 := ⟨_, rfl⟩
      obtain ⟨n, hn⟩ : ∃ n, n = l[k].2.1 := ⟨_, rfl⟩
      obtain ⟨t, ht⟩ : ∃ t, t = l[k].2.2 := ⟨_, rfl⟩
      unfold okI at hok
      rw [← hq, ← hn, ← ht] at hpc hok
      rw [← hq] at c0
      rw [← hn] at c1
      rw [← ht] at c2 htm
      have HP := Lib.hid hpc
      have hts : t.size ≤ 5000 := by omega
      clear hq hn ht hpc hsz htk htm hT hlk hSS
      by_cases h0 : q = 0
      · subst h0
        have HPP := Lib.hid (show pieceL (0, n, t) = t.data.toList.flatMap dbl from rfl)
        have HB0 := hB
        clear hok
        go_wp2_with fail
        go_loop [3, 5] (fun s i => ∃ (j : Nat) (Z : ByteArray), j ≤ t.size ∧ i = .int .i64 j ∧ s = .string Z ∧ Hid (Z.data.toList = S.data.toList ++ (t.data.toList.take j).flatMap dbl)) (fun _ i => t.size - (intOf i).toNat)
        case atStart => exact ⟨0, S, by omega, rfl, rfl, by show _ = _; simp⟩
        case round =>
          obtain ⟨j, Z, hj, rfl, rfl, hZ⟩ := hrel
          have hZs := size_list Z _ hZ.out
          have hd := dbl_len (t.data.toList.take j)
          have hl2 : (t.data.toList.take j).length ≤ t.size := by rw [List.length_take, len_list]; omega
          rw [List.length_append, len_list] at hZs
          have hZb : Z.size ≤ 60000 := by omega
          clear hZs hd hl2
          by_cases hjt : j < t.size
          · have h37 := byte_37 t j hjt
            have hft := Lib.hid (flat_take t j hjt)
            have hpo := Lib.hid (piece_one t j hjt)
            have hz : (t.extract j (j + 1)).size = 1 := by rw [ByteArray.size_extract]; omega
            have hsl : ∀ W, (Instr.slice 9 (.string t) (some (.int .i64 (j : Int))) (some (.int .i64 ((j : Int) + 1))) none).run Tryd.prog W = .ok (.string (t.extract j (j + 1))) W := fun W => by
              rw [run_slice_string W 9 t .i64 .i64 (j : Int) ((j : Int) + 1) Tryd.underlying9 (by omega) (by omega) (by omega)]
              rw [show ((j : Int)).toNat = j by omega, show ((j : Int) + 1).toNat = j + 1 by omega]
            obtain ⟨u, hu⟩ : ∃ u, u = t.extract j (j + 1) := ⟨_, rfl⟩
            rw [← hu] at hsl hz
            have HU := Lib.hid hu
            clear hu
            have hov : ¬ 9223372036854775807 < Z.size + u.size := by omega
            have hov1 : ¬ 9223372036854775807 < Z.size + 1 + u.size := by omega
            by_cases hb : t[j] = 37
            · rw [decide_eq_true hb] at h37
              have HN := Lib.hid (show (Z ++ ⟨#[37]⟩ ++ u).data.toList = S.data.toList ++ (t.data.toList.take (j + 1)).flatMap dbl by
                rw [hft.out, app_list, app_list, hZ.out, HU.out, hpo.out, dbl, if_pos hb, oneByte, hb]
                simp)
              clear hb hz
              go_wp2_with fail
              go_round
              case rel => exact ⟨j + 1, _, by omega, by go_num, rfl, HN⟩
              case measure => simp [intOf]; omega
            · rw [decide_eq_false hb] at h37
              have HN := Lib.hid (show (Z ++ u).data.toList = S.data.toList ++ (t.data.toList.take (j + 1)).flatMap dbl by
                rw [hft.out, app_list, hZ.out, HU.out, hpo.out, dbl, if_neg hb, oneByte]
                simp)
              clear hb hz
              go_wp2_with fail
              go_round
              case rel => exact ⟨j + 1, _, by omega, by go_num, rfl, HN⟩
              case measure => simp [intOf]; omega
          · have hje : j = t.size := by omega
            have HN := Lib.hid (show Z.data.toList = showL (l.take (k + 1)) by
              rw [hst.out, HP.out, HPP.out, hZ.out, hS.out, List.take_of_length_le (l := t.data.toList) (by rw [len_list]; omega)])
            clear hje
            go_wp2_with fail
            go_roundw
            case rel => exact ⟨k + 1, Z, by omega, by go_num, rfl, hB, HN⟩
            case measure => simp [intOf]; omega
      · have b0 : (q == 0) = false := by simpa using h0
        by_cases h7 : q = 7
        · subst h7
          have hn9 : 1 ≤ n ∧ n ≤ 9 := by unfold mayB at hok; simp at hok; omega
          obtain ⟨n1, n9⟩ := hn9
          have hcv := conv_one wr wr.heap.size rfl (48 + n) (by omega) (by omega)
          have hw9 : IntKind.u8.wrap (48 + n) = 48 + n := by rw [IntKind.wrap_u8]; omega
          have HN := Lib.hid (show (S ++ (⟨#[37]⟩ ++ ⟨#[UInt8.ofNat (48 + n).toNat]⟩ ++ ⟨#[102]⟩)).data.toList = showL (l.take (k + 1)) by
            rw [hst.out, HP.out, app_list, hS.out, app_list, app_list]; rfl)
          clear hok
          go_wp2_with fail
          go_roundw
          case rel => exact ⟨k + 1, _, by omega, by go_num, rfl, hB.alloc (by have := hB.size; omega) _, HN⟩
          case measure => simp [intOf]; omega
        · have b7 : (q == 7) = false := by simpa using h7
          have hbd := letC_bd q n
          have hPl := Lib.hid (show pieceL (q, n, t) = [37, UInt8.ofNat (letC q n).toNat] by simp [pieceL, h0, h7])
          have CL := Lib.hid (fun W => refLetter_any q n t W)
          obtain ⟨E, hE⟩ : ∃ E, E = letC q n := ⟨_, rfl⟩
          rw [← hE] at CL hPl hbd
          obtain ⟨e0, e255⟩ := hbd
          have HN := Lib.hid (show (S ++ (⟨#[37]⟩ ++ ⟨#[UInt8.ofNat E.toNat]⟩)).data.toList = showL (l.take (k + 1)) by
            rw [hst.out, HP.out, hPl.out, app_list, hS.out, app_list]; rfl)
          have hcv := fun W => conv_one W W.heap.size rfl E e0 e255
          clear hok hE
          go_wp2_with fail
          refine (CL.out _).mono ?_
          rintro e w2 ⟨rfl, hb2⟩
          have hB2 := hB.trans (hb2.mono hB.size)
          clear hb2 CL
          go_wp2_with fail
          go_roundw
          case rel => exact ⟨k + 1, _, by omega, by go_num, rfl, hB2.alloc (by have := hB2.size; omega) _, HN⟩
          case measure => simp [intOf]; omega
    · have hke : k = l.length := by omega
      have HE := Lib.hid (list_str S (showL l) (by have := hS.out; rw [hke, List.take_length] at this; exact this))
      clear hke
      go_wp2
      go_ret
      exact ⟨by rw [← HE.out]; rfl, hB⟩
end Go.Proofs.YtiopcifglfocpaaDoor.X
