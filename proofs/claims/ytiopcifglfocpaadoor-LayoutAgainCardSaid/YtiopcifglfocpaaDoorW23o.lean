/- Chapter 23, walk: layout's show: items as a text, by a Builder. Conditions: the slice reads as items; each may be; their texts are short. -/
import Derived.Test.YtiopcifglfocpaaDoorW23n
import Derived.Laws.IdiomStrings
namespace Go.Proofs.YtiopcifglfocpaaDoor.X
open Go.RowKit Go.Maps
theorem isB_below {T e : TypeId} {B b : Nat} {bs : List Value} {W W' : World} (h : Lib.IsBuilderF T e B b bs W) (hb : Below W.heap.size W W') : Lib.IsBuilderF T e B b bs W' := by
  have one : ∀ p, Lib.BuilderAtF T e B b p bs W → Lib.BuilderAtF T e B b p bs W' := by
    intro p h
    have hlt := h.lt
    obtain ⟨hB, v, hv, hown, hne⟩ := h
    exact ⟨hB, v, (hb.block b hlt).trans hv, hown.kept (row := none) ⟨hb.os, hb.tape, hb.output, hb.size, fun k hk _ => hb.block k hk⟩ (Classical.em _), hne⟩
  exact h.elim (fun x => .inl (one _ x)) (fun x => .inr (one _ x))
theorem cells_str (l : List UInt8) (s : ByteArray) : Lib.byteCells l ++ Lib.strCells s = Lib.byteCells (l ++ s.data.toList) := by simp [Lib.byteCells, Lib.strCells]
theorem byteCells_len (l : List UInt8) : (Lib.byteCells l).length = l.length := by simp [Lib.byteCells]
/-- A builder that holds a text. -/
def BH (b : Nat) (l : List UInt8) (w : World) : Prop := Lib.IsBuilderF 65 5 b b (Lib.byteCells l) w
theorem BH.below {b : Nat} {l : List UInt8} {W W' : World} (h : BH b l W) (hb : Below W.heap.size W W') : BH b l W' := isB_below h hb
theorem BH.new (w : World) : BH w.heap.size [] (w.alloc (.cells #[.pointer none, .slice none 0 0] 65)) := Lib.IsBuilderF.of (Lib.fresh_isBuilder _ _ _)
theorem BH.lt {b : Nat} {l : List UInt8} {W : World} (h : BH b l W) : b < W.heap.size := h.elim (fun x => x.lt) (fun x => x.lt)
theorem bwrite (b : Nat) (l : List UInt8) (s : ByteArray) (w : World) (h : BH b l w) (hlen : l.length + s.size ≤ 140737488355328) :
    Calls Tryd.prog 43 #[.pointer (some ⟨b, 0, none⟩), .string s] w fun e w' => e = .returned (.tuple #[.int .i64 s.size, .nilIface]) ∧ BH b (l ++ s.data.toList) w' ∧ Below b w w' := by
  refine (writeString b b (Lib.byteCells l) s w h (by rw [byteCells_len]; exact hlen) (Nat.le_of_lt h.lt)).mono ?_
  rintro e w' ⟨rfl, hb, hB, _⟩
  rw [cells_str] at hb
  exact ⟨rfl, .inr hb, hB⟩
theorem conv_one (W : World) (g : Nat) (hg : g = W.heap.size) (c : Int) (h0 : 0 ≤ c) (h1 : c ≤ 255) :
    (convert 61 9 (.slice (some ⟨g, 0, none⟩) 1 1)).run Tryd.prog (W.alloc (.cells #[.int .u8 c] 5)) = .ok (.string ⟨#[UInt8.ofNat c.toNat]⟩) (W.alloc (.cells #[.int .u8 c] 5)) := by
  subst hg
  have := run_convert_bytes_back (P := Tryd.prog) (W.alloc (.cells #[.int .u8 c] 5)) 61 9 5 ⟨W.heap.size, 0, none⟩ 1 [UInt8.ofNat c.toNat] Tryd.underlying61 Tryd.underlying5 Tryd.underlying9 (by
    intro j hj
    obtain rfl : j = 0 := by simpa using hj
    rw [show (⟨W.heap.size, 0, none⟩ : Addr).add 0 = ⟨W.heap.size, 0, none⟩ by rfl, World.cell?_alloc_mark]
    simp
    omega)
  exact this
theorem conv_two (W : World) (g : Nat) (hg : g = W.heap.size) (c d : Int) (h0 : 0 ≤ c) (h1 : c ≤ 255) (k0 : 0 ≤ d) (k1 : d ≤ 255) :
    (convert 61 9 (.slice (some ⟨g, 0, none⟩) 2 2)).run Tryd.prog (W.alloc (.cells #[.int .u8 c, .int .u8 d] 5)) = .ok (.string ⟨#[UInt8.ofNat c.toNat, UInt8.ofNat d.toNat]⟩) (W.alloc (.cells #[.int .u8 c, .int .u8 d] 5)) := by
  subst hg
  have := run_convert_bytes_back (P := Tryd.prog) (W.alloc (.cells #[.int .u8 c, .int .u8 d] 5)) 61 9 5 ⟨W.heap.size, 0, none⟩ 2 [UInt8.ofNat c.toNat, UInt8.ofNat d.toNat] Tryd.underlying61 Tryd.underlying5 Tryd.underlying9 (by
    intro j hj
    have hj : j = 0 ∨ j = 1 := by simp at hj; omega
    rcases hj with rfl | rfl
    · rw [show (⟨W.heap.size, 0, none⟩ : Addr).add 0 = ⟨W.heap.size, 0, none⟩ by rfl, World.cell?_alloc_mark]
      simp
      omega
    · rw [show (⟨W.heap.size, 0, none⟩ : Addr).add 1 = ⟨W.heap.size, 1, none⟩ by rfl, World.cell?_alloc_mark]
      simp
      omega)
  exact this
theorem letC_bd (k n : Int) : 0 ≤ letC k n ∧ letC k n ≤ 255 := by
  unfold letC
  split
  · split <;> omega
  · split
    · split <;> omega
    · split
      · exact ⟨by omega, by omega⟩
      · exact ⟨by omega, by have := (letS.getD k.toNat 0).toNat_lt; omega⟩
theorem lett_ok (k n : Int) (t : List UInt8) (h : mayB k n t = true) (h0 : k ≠ 0) (h7 : k ≠ 7) : t = [] ∧ lettV k n t = letC k n := by
  have ht := ok_text (k, n, ⟨t.toArray⟩) (by simpa [okI] using h) h0
  simp at ht
  subst ht
  have h1 : 1 ≤ k := by
    have h' := h
    unfold mayB at h'
    rw [if_neg h0, if_neg h7] at h'
    split at h'
    · omega
    · simp at h'; omega
  exact ⟨rfl, by rw [lettV, if_pos ⟨rfl, h7, h, h1⟩]⟩
theorem repl_any (t : ByteArray) (w : World) (hm : HasMax w) (ht : t.size ≤ 5000) :
    Calls Tryd.prog 44 #[.string t, .string ⟨#[37]⟩, .string ⟨#[37, 37]⟩] w fun e w' => e = .returned (.string ⟨(t.data.toList.flatMap dbl).toArray⟩) ∧ Below w.heap.size w w' := by
  obtain ⟨m, hm⟩ := hm
  have hc : Lib.countB t ⟨#[37]⟩ ≤ t.data.toList.length + 1 := Lib.count_le _ _
  rw [len_list] at hc
  refine (Tryd.strings_ReplaceAll t ⟨#[37]⟩ ⟨#[37, 37]⟩ m w (by omega) hm (by decide) (by rw [show (⟨#[37, 37]⟩ : ByteArray).size = 2 from rfl]; omega)).mono ?_
  rintro e w' ⟨rfl, hb⟩
  exact ⟨by rw [show (⟨#[37]⟩ : ByteArray).data.toList = [37] from rfl, show (⟨#[37, 37]⟩ : ByteArray).data.toList = [37, 37] from rfl, repl_37], hb⟩
theorem arr_size (l : List UInt8) : (⟨l.toArray⟩ : ByteArray).size = l.length := by show l.toArray.size = _; simp
set_option maxHeartbeats 4000000 in
theorem show_any (v : Value) (l : List Itm) (w : World) (h : ReadsL v l w) (hm : HasMax w) (hl : l.length ≤ 5000) (ho : ∀ x ∈ l, okI x = true) (hs : textN l ≤ 5000) :
    Calls Tryd.prog 33 #[v] w fun e w' => e = .returned (.string ⟨(showL l).toArray⟩) ∧ Below w.heap.size w w' := by
  obtain ⟨a, c, hv, hc⟩ := h
  subst hv
  have HC := Lib.hid hc
  have HO := Lib.hid ho
  have HM := Lib.hid hm
  have HT := Lib.hid hs
  clear hc ho hm hs
  go_enter Tryd.func33, Tryd.ntmps33
  go_wp2_with fail
  go_loopw [8] (fun i wr => ∃ k : Nat, k ≤ l.length ∧ i = .int .i64 k ∧ Below w.heap.size w wr ∧ Hid (BH w.heap.size (showL (l.take k)) wr)) (fun i _ => l.length - (intOf i).toNat)
  case atStart => exact ⟨0, by omega, rfl, below_one _ _, BH.new w⟩
  case round =>
    obtain ⟨k, hk, rfl, hB, hBH⟩ := hrel
    by_cases hlt : k < l.length
    · obtain ⟨b, o, ha, c0, c1, c2⟩ := cells_at HC.out hB k hlt
      subst ha
      have hok := HO.out l[k] (List.getElem_mem hlt)
      have hst := Lib.hid (showL_take l k hlt)
      have hsz := show_len (l.take k)
      have htk := textN_le l k
      have htm := textN_mem l l[k] (List.getElem_mem hlt)
      have hT := HT.out
      have hlk : (l.take k).length = k := by rw [List.length_take]; omega
      obtain ⟨L, hL⟩ : ∃ L, L = (showL (l.take k)).length := ⟨_, rfl⟩
      have hLb : L ≤ 30000 := by omega
      have hpc : pieceL l[k] = pieceL (l[k].1, l[k].2.1, l[k].2.2) := rfl
      obtain ⟨q, hq⟩ : ∃ q, q = l[k].1 := ⟨_, rfl⟩
      obtain ⟨n, hn⟩ : ∃ n, n = l[k].2.1 := ⟨_, rfl⟩
      obtain ⟨t, ht⟩ : ∃ t, t = l[k].2.2 := ⟨_, rfl⟩
      unfold okI at hok
      rw [← hq, ← hn, ← ht] at hpc hok
      rw [← hq] at c0
      rw [← hn] at c1
      rw [← ht] at c2 htm
      have HP := Lib.hid hpc
      have HLL := Lib.hid hL
      have hts : t.size ≤ 5000 := by omega
      clear hq hn ht hpc hsz htk htm hT hlk hL
      by_cases h0 : q = 0
      · subst h0
        have HPP := Lib.hid (show pieceL (0, n, t) = t.data.toList.flatMap dbl from rfl)
        clear hok
        have HM1 := Lib.hid (HM.out.below hB |>.below (below_one wr (.cells #[.int .i64 0, .int .i64 n, .string t] 32)))
        have hd := dbl_len t.data.toList
        rw [len_list] at hd
        have hds := arr_size (t.data.toList.flatMap dbl)
        obtain ⟨R, hR⟩ : ∃ R : ByteArray, R = ⟨(t.data.toList.flatMap dbl).toArray⟩ := ⟨_, rfl⟩
        rw [← hR] at hds
        have hRz : R.size ≤ 10000 := by omega
        have CR := Lib.hid (fun W hm => repl_any t W hm hts)
        rw [← hR] at CR
        have HRR := Lib.hid (show R.data.toList = pieceL (0, n, t) by rw [hR, HPP.out])
        clear hd hds hR HPP
        go_wp2_with fail
        refine (CR.out _ HM1.out).mono ?_
        rintro e w2 ⟨rfl, hb2⟩
        have hB2 := (hB.trans ((below_one wr (.cells #[.int .i64 0, .int .i64 n, .string t] 32)).mono hB.size)).trans (hb2.mono (by have := hB.size; simp; omega))
        have hBH2 := Lib.hid ((hBH.out.below (below_one wr (.cells #[.int .i64 0, .int .i64 n, .string t] 32))).below hb2)
        clear hb2 HM1 CR
        go_wp2_with fail
        refine (bwrite _ _ _ _ hBH2.out (by rw [← HLL.out]; omega)).mono ?_
        rintro e w3 ⟨rfl, hbh3, hb3⟩
        have hB3 := hB2.trans hb3
        have HN := Lib.hid (show BH w.heap.size (showL (l.take (k + 1))) w3 by rw [hst.out, HP.out, ← HRR.out]; exact hbh3)
        clear hb3 hbh3
        go_wp2
        go_roundw
        case rel => exact ⟨k + 1, by omega, by go_num, hB3, HN⟩
        case measure => simp [intOf]; omega
      · have b0 : (q == 0) = false := by simpa using h0
        by_cases h7 : q = 7
        · subst h7
          have hn9 : 1 ≤ n ∧ n ≤ 9 := by unfold mayB at hok; simp at hok; omega
          obtain ⟨n1, n9⟩ := hn9
          have hP7 := Lib.hid (show pieceL (7, n, t) = [37, UInt8.ofNat (48 + n).toNat, 102] from rfl)
          have hcv := conv_two (wr.alloc (.cells #[.int .i64 7, .int .i64 n, .string t] 32)) (wr.heap.size + 1) (by simp) (48 + n) 102 (by omega) (by omega) (by omega) (by omega)
          have hw8 : IntKind.u8.wrap n = n := by rw [IntKind.wrap_u8]; omega
          have hw9 : IntKind.u8.wrap (48 + n) = 48 + n := by rw [IntKind.wrap_u8]; omega
          clear hok
          have hB2 := (hB.trans (((below_one wr (.cells #[.int .i64 7, .int .i64 n, .string t] 32)).alloc (by simp) (.cells #[.int .u8 (48 + n), .int .u8 102] 5)).mono hB.size))
          have hBH2 := Lib.hid (hBH.out.below ((below_one wr (.cells #[.int .i64 7, .int .i64 n, .string t] 32)).alloc (by simp) (.cells #[.int .u8 (48 + n), .int .u8 102] 5)))
          go_wp2_with fail
          refine (bwrite _ _ _ _ hBH2.out (by rw [← HLL.out]; show L + 3 ≤ _; omega)).mono ?_
          rintro e w3 ⟨rfl, hbh3, hb3⟩
          have hB3 := hB2.trans hb3
          have HN := Lib.hid (show BH w.heap.size (showL (l.take (k + 1))) w3 by rw [hst.out, HP.out, hP7.out]; exact hbh3)
          clear hb3 hbh3 hcv hw8 hw9
          go_wp2
          go_roundw
          case rel => exact ⟨k + 1, by omega, by go_num, hB3, HN⟩
          case measure => simp [intOf]; omega
        · have b7 : (q == 7) = false := by simpa using h7
          obtain ⟨hte, hle⟩ := lett_ok q n t.data.toList hok h0 h7
          have hbd := letC_bd q n
          have hPl := Lib.hid (show pieceL (q, n, t) = [37, UInt8.ofNat (letC q n).toNat] by simp [pieceL, h0, h7])
          have CL := Lib.hid (fun W => letter_any q n t W)
          rw [hle] at CL
          obtain ⟨E, hE⟩ : ∃ E, E = letC q n := ⟨_, rfl⟩
          rw [← hE] at CL hPl hbd
          obtain ⟨e0, e255⟩ := hbd
          have hcv := fun W => conv_one W W.heap.size rfl E e0 e255
          clear hok hte hle hE
          go_wp2_with fail
          refine (CL.out _).mono ?_
          rintro e w2 ⟨rfl, hb2⟩
          have hB2 := (hB.trans ((below_one wr (.cells #[.int .i64 q, .int .i64 n, .string t] 32)).mono hB.size)).trans (hb2.mono (by have := hB.size; simp; omega))
          have hBH2 := Lib.hid ((hBH.out.below (below_one wr (.cells #[.int .i64 q, .int .i64 n, .string t] 32))).below hb2)
          clear hb2 CL
          have hB3 := hB2.alloc (by have := hB2.size; omega) (.cells #[.int .u8 E] 5)
          have hBH3 := Lib.hid (hBH2.out.below (below_one w2 (.cells #[.int .u8 E] 5)))
          go_wp2_with fail
          refine (bwrite _ _ _ _ hBH3.out (by rw [← HLL.out]; show L + 2 ≤ _; omega)).mono ?_
          rintro e w3 ⟨rfl, hbh3, hb3⟩
          have hB4 := hB3.trans hb3
          have HN := Lib.hid (show BH w.heap.size (showL (l.take (k + 1))) w3 by rw [hst.out, HP.out, hPl.out]; exact hbh3)
          clear hb3 hbh3 hcv
          go_wp2
          go_roundw
          case rel => exact ⟨k + 1, by omega, by go_num, hB4, HN⟩
          case measure => simp [intOf]; omega
    · have hke : k = l.length := by omega
      have HBE := Lib.hid (show BH w.heap.size (showL l) wr by have := hBH.out; rw [hke, List.take_length] at this; exact this)
      clear hke
      go_wp2_with fail
      refine (Tryd.Builder_String_any_f w.heap.size w.heap.size (showL l) wr HBE.out (by have := hB.size; omega)).mono ?_
      rintro e w2 ⟨rfl, hbh2, hb2⟩
      have hB2 := hB.trans hb2
      clear hb2 hbh2
      go_wp2
      go_ret
      exact ⟨rfl, hB2⟩
end Go.Proofs.YtiopcifglfocpaaDoor.X
