/- Chapter 23, walk: the chapter's examples hold (awake). Condition: the library's variable MaxLen holds a number. -/
import Derived.Test.YtiopcifglfocpaaDoorW23u
namespace Go.Proofs.YtiopcifglfocpaaDoor.X
open Go.RowKit Go.Maps
def emp : ByteArray := ⟨#[]⟩
def exA : List Itm := [(1, 0, ⟨#[]⟩), (0, 0, ⟨#[45]⟩), (2, 0, ⟨#[]⟩)]
def exB : List Itm := [(0, 0, ⟨#[37]⟩), (3, 0, ⟨#[]⟩)]
def exC : List Itm := [(1, 0, ⟨#[]⟩), (0, 0, ⟨#[45]⟩), (2, 0, ⟨#[]⟩), (0, 0, ⟨#[45]⟩), (3, 0, ⟨#[]⟩), (0, 0, ⟨#[84]⟩), (4, 0, ⟨#[]⟩), (0, 0, ⟨#[58]⟩), (5, 0, ⟨#[]⟩), (0, 0, ⟨#[58]⟩), (6, 0, ⟨#[]⟩), (0, 0, ⟨#[46]⟩), (7, 9, ⟨#[]⟩), (8, 0, ⟨#[]⟩)]
def ExIs (n : Nat) (l : List Itm) (w : World) (e : Ending) (w' : World) : Prop :=
  ∃ a c, e = .returned (.tuple #[.slice a n c, .int .i64 0]) ∧ ReadsL (.slice a n c) l w' ∧ Below w.heap.size w w'
theorem ex_of (s : ByteArray) (l : List Itm) (w : World) (hl : parseL s.data.toList = l) (he : parseE s.data.toList = 0) (hs : s.size ≤ maxLen) :
    Calls Tryd.prog 9 #[.string s] w (ExIs l.length l w) := by
  refine (parse_any s w hs).mono ?_
  rintro e w' ⟨v, rfl, ho, hb⟩
  rw [hl] at ho
  have hr := ReadsL.own ho
  have hr' := hr
  obtain ⟨a, c, hv, _⟩ := hr'
  subst hv
  exact ⟨a, c, by rw [he], hr, hb⟩
theorem exA_ok (w : World) : Calls Tryd.prog 9 #[.string ⟨#[37, 89, 45, 37, 109]⟩] w (ExIs 3 exA w) := ex_of _ exA w (by kernel_rfl) (by kernel_rfl) (by unfold maxLen; decide)
theorem exB_ok (w : World) : Calls Tryd.prog 9 #[.string ⟨#[37, 37, 37, 100]⟩] w (ExIs 2 exB w) := ex_of _ exB w (by kernel_rfl) (by kernel_rfl) (by unfold maxLen; decide)
theorem exC_ok (w : World) : Calls Tryd.prog 9 #[.string ⟨#[37, 89, 45, 37, 109, 45, 37, 100, 84, 37, 72, 58, 37, 77, 58, 37, 83, 46, 37, 57, 102, 37, 122]⟩] w (ExIs 14 exC w) := ex_of _ exC w (by kernel_rfl) (by kernel_rfl) (by unfold maxLen; decide)
def ExN (w : World) (e : Ending) (w' : World) : Prop := ∃ a c, e = .returned (.tuple #[.slice a 0 c, .int .i64 2]) ∧ Below w.heap.size w w'
theorem exD_ok (w : World) : Calls Tryd.prog 9 #[.string ⟨#[37, 48, 102]⟩] w (ExN w) := by
  refine (parse_any _ w (by unfold maxLen; decide)).mono ?_
  rintro e w' ⟨v, rfl, ho, hb⟩
  have hl : parseL (⟨#[37, 48, 102]⟩ : ByteArray).data.toList = [] := by kernel_rfl
  have he : parseE (⟨#[37, 48, 102]⟩ : ByteArray).data.toList = 2 := by kernel_rfl
  rw [hl] at ho
  rw [he]
  obtain ⟨a, c, hv, _⟩ := ReadsL.own ho
  subst hv
  exact ⟨a, c, rfl, hb⟩
theorem text_at {a : Option Addr} {n c : Nat} {l : List Itm} {w : World} (h : ReadsL (.slice a n c) l w) (k : Nat) (hk : k < l.length) (t : ByteArray) (ht : l[k].2.2 = t) : ∃ b o, a = some ⟨b, o, none⟩ ∧ w.cell? ⟨b, o + (k * 3 + 2), none⟩ = some (.string t) := by
  obtain ⟨a', c', hv, hc⟩ := h
  cases hv
  obtain ⟨b, o, ha, _, _, h2⟩ := cells_at hc (Below.refl _ _) k hk
  exact ⟨b, o, ha, by rw [← ht, ← h2]; rfl⟩
theorem awake_any (w : World) (hm : HasMax w) :
    Calls Tryd.prog 10 #[] w fun e w' => e = .returned (.bool true) ∧ Below w.heap.size w w' := by
  have HM := Lib.hid hm
  clear hm
  have hwid : widV 13 0 (⟨#[]⟩ : ByteArray).data.toList = (3, 9) := by kernel_rfl
  have CW := Lib.hid (fun W => width_any 13 0 ⟨#[]⟩ W (by unfold maxLen; decide))
  unfold WidIs at CW
  rw [hwid] at CW
  have hcA : complV exA = false := by kernel_rfl
  have hcC : complV exC = true := by kernel_rfl
  have CA := Lib.hid (fun v W h hm => complete_any v exA W h hm (by decide) (by decide))
  have CC := Lib.hid (fun v W h hm => complete_any v exC W h hm (by decide) (by decide))
  rw [hcA] at CA
  rw [hcC] at CC
  clear hwid hcA hcC
  go_enter Tryd.func10, Tryd.ntmps10
  go_wp2_with fail
  refine (exA_ok _).mono ?_
  rintro e w1 ⟨a1, c1, rfl, hr1, hb1⟩
  obtain ⟨b1, o1, ha1, ht1⟩ := text_at hr1 1 (by decide) ⟨#[45]⟩ rfl
  subst ha1
  have HT1 := Lib.hid ht1
  have HR1 := Lib.hid hr1
  have hB1 := hb1
  clear hr1 ht1 hb1
  go_wp2_with fail
  refine (exB_ok _).mono ?_
  rintro e w2 ⟨a2, c2, rfl, hr2, hb2⟩
  obtain ⟨b2, o2, ha2, ht2⟩ := text_at hr2 0 (by decide) ⟨#[37]⟩ rfl
  subst ha2
  have HT2 := Lib.hid ht2
  have hB2 := below_then hB1 hb2
  have hE1 := hb2
  clear hr2 ht2 hb2
  go_wp2_with fail
  refine (exD_ok _).mono ?_
  rintro e w3 ⟨a3, c3, rfl, hb3⟩
  have hE2 := hb3
  have hE1' := hE1.trans (hb3.mono hE1.size)
  have hB3 := below_then hB2 hb3
  clear hb3 hE1
  go_wp2_with fail
  refine (exC_ok _).mono ?_
  rintro e w4 ⟨a4, c4, rfl, hr4, hb4⟩
  have HR4 := Lib.hid hr4
  have hE1 := hE1'.trans (hb4.mono hE1'.size)
  have hE2' := hE2.trans (hb4.mono hE2.size)
  have hB4 := below_then hB3 hb4
  clear hb4 hr4 hE1' hE2
  go_wp2_with fail
  refine (CW.out _).mono ?_
  rintro e w5 ⟨rfl, hb5⟩
  have hF1 := hE1.trans (hb5.mono hE1.size)
  have hF2 := hE2'.trans (hb5.mono hE2'.size)
  have hB5 := below_then hB4 hb5
  have HR5 := Lib.hid (HR4.out.kept hb5)
  have g1 := (hF1.cell (p := ⟨b1, o1 + (1 * 3 + 2), none⟩) (World.block_lt_of_cell? _ _ HT1.out)).trans HT1.out
  have g2 := (hF2.cell (p := ⟨b2, o2 + (0 * 3 + 2), none⟩) (World.block_lt_of_cell? _ _ HT2.out)).trans HT2.out
  have HRA := Lib.hid (HR1.out.kept hF1)
  clear hb5 hE1 hE2' hF2 CW hB1 hB2 hB3 hB4
  go_wp2_with fail
  refine (CC.out _ _ HR5.out (HM.out.below hB5)).mono ?_
  rintro e w6 ⟨rfl, hb6⟩
  have hB6 := below_then hB5 hb6
  have HRA6 := Lib.hid (HRA.out.kept hb6)
  clear hb6 CC g1 g2
  go_wp2_with fail
  refine (CA.out _ _ HRA6.out (HM.out.below hB6)).mono ?_
  rintro e w7 ⟨rfl, hb7⟩
  have hB7 := below_then hB6 hb7
  clear hb7
  go_wp2_with fail
  go_ret
  exact ⟨rfl, hB7⟩
end Go.Proofs.YtiopcifglfocpaaDoor.X
