/- Chapter 23, walk: layout.Parse reads a text as items, or tells the error. Condition: a string as long as one may be. -/
import Derived.Test.YtiopcifglfocpaaDoorP23b
namespace Go.Proofs.YtiopcifglfocpaaDoor.X
open Go.RowKit Go.Maps
/-- Whether a call handed back these items (in new memory of its own) and this error. -/
def ItemsAre (B : Nat) (v : Value) (l : List Itm) (w : World) : Prop := w.ownsRow B 32 3 v l.length (itsC l)
def parseE (s : List UInt8) : Int := if 128 < s.length then 1 else if plainL s = false then 2 else match parsV s [] with | none => 2 | some l => if 32 < l.length then 1 else 0
def parseL (s : List UInt8) : List Itm := if 128 < s.length then [] else if plainL s = false then [] else match parsV s [] with | none => [] | some l => if 32 < l.length then [] else l
def ParseIs (s : List UInt8) (w : World) (e : Ending) (w' : World) : Prop :=
  ∃ v, e = .returned (.tuple #[v, .int .i64 (parseE s)]) ∧ ItemsAre w.heap.size v (parseL s) w' ∧ Below w.heap.size w w'
def PInv (s0 : ByteArray) (M L : Nat) (w0 : World) (s : ByteArray) (wr : World) : Prop :=
  ∃ l, OwnL L l wr ∧ wr.ownsMap Tryd.prog 5 itemR M 30 letD ∧ Below w0.heap.size w0 wr ∧ parsV s.data.toList l = parsV s0.data.toList [] ∧ s.size ≤ s0.size ∧ l.length + s.size ≤ s0.size ∧ ∀ x ∈ l, x.2.2.size + s.size ≤ s0.size
theorem map_kept {L M n : Nat} {w w' : World} {D : DataW Unit} (h : w.ownsMap Tryd.prog 5 itemR M n D) (hb : Below L w w') (hM : M < L) : w'.ownsMap Tryd.prog 5 itemR M n D := by
  obtain ⟨es, clock, h1, h2⟩ := h
  exact ⟨es, clock, (hb.block M hM).trans h1, h2⟩
/-- One step more of the loop: what is to be shown of the next round. -/
theorem pinv_text {s0 : ByteArray} {M L : Nat} {w0 wr w1 : World} {s : ByteArray} {l : List Itm} {k j : Nat} {t : ByteArray} (hM : M < L) (hL : w0.heap.size ≤ L) (hm : wr.ownsMap Tryd.prog 5 itemR M 30 letD) (hB : Below w0.heap.size w0 wr)
    (hpe : parsV s.data.toList l = parsV s0.data.toList []) (hsz : s.size ≤ s0.size) (hln : l.length + s.size ≤ s0.size) (htx : ∀ x ∈ l, x.2.2.size + s.size ≤ s0.size) (h0 : 0 < k) (h1 : k ≤ s.size) (ht : t.size ≤ k)
    (hc : parsV s.data.toList l = parsV (s.extract k s.size).data.toList (addText l t)) (ho1 : OwnL L (addText l t) w1) (hb1 : Below L wr w1) (hj : j = k) : PInv s0 M L w0 (s.extract j s.size) w1 := by
  subst hj
  have hz : (s.extract j s.size).size = s.size - j := by rw [ByteArray.size_extract]; omega
  obtain ⟨b1, b2⟩ := addText_bd l t s.size s0.size htx hsz (by omega)
  refine ⟨_, ho1, map_kept hm hb1 hM, hB.trans (hb1.mono hL), hc ▸ hpe, by omega, by omega, fun x hx => ?_⟩
  have := b2 x hx
  omega
set_option maxHeartbeats 2000000 in
theorem parse_good (s0 : ByteArray) (w : World) (hl : s0.size ≤ 128) (hp : plainL s0.data.toList = true) :
    Calls Tryd.prog 9 #[.string s0] w (ParseIs s0.data.toList w) := by
  have hg : decide ((s0.size : Int) > 128) = false := decide_eq_false (by omega)
  go_enter Tryd.func9, Tryd.ntmps9
  go_wp2_with fail
  refine (plain_any s0 w).mono ?_
  rintro e w1 ⟨rfl, hb1⟩
  rw [hp]
  go_wp2_with fail
  refine (letters_any w1).mono ?_
  rintro e w2 ⟨rfl, hm2, hb2⟩
  have hB2 := below_then hb1 hb2
  have hown0 : OwnL w2.heap.size [] (w2.alloc (.cells #[.slice none 0 0] 22)) := ⟨.slice none 0 0, by rw [World.cell?_alloc_mark]; rfl, frozen_of_row _ _ _ _ _ (Go.heap_alloc_new w2 _), World.ownsRow_nil _ _ _ _⟩
  have hL1 : w1.heap.size < w2.heap.size := hm2.lt
  have hL0 : w.heap.size ≤ w2.heap.size := hB2.size
  have hP0 := Lib.hid (show PInv s0 w1.heap.size w2.heap.size w s0 (w2.alloc (.cells #[.slice none 0 0] 22)) from
    ⟨[], hown0, hm2.alloc _, hB2.alloc (by omega) _, rfl, by omega, by simp, by simp⟩)
  clear hown0
  go_wp2_with fail
  obtain ⟨L, hL⟩ : ∃ L, L = w2.heap.size := ⟨_, rfl⟩
  rw [← hL] at hP0 hL1 hL0 ⊢
  clear hL
  go_loopw [0] (fun sv wr => ∃ s : ByteArray, sv = .string s ∧ Hid (PInv s0 w1.heap.size L w s wr)) (fun sv _ => match sv with | .string s => s.size | _ => 0)
  case atStart => exact ⟨s0, rfl, hP0.out⟩
  case round =>
    obtain ⟨s, rfl, HP⟩ := hrel
    obtain ⟨l, ho, hm, hB, hpe, hsz, hln, htx⟩ := HP.out
    have HPE := Lib.hid hpe
    have HTX := Lib.hid htx
    clear HP hpe htx
    by_cases he : s.size = 0
    · have hn : s.data.toList = [] := List.eq_nil_of_length_eq_zero (by rw [len_list]; exact he)
      have hE : (s.toList == ([] : List UInt8)) = true := by rw [Lib.toList_data, hn]; rfl
      have hE' : s.toList.isEmpty = true := by rw [Lib.toList_data, hn]; rfl
      have HQ := HPE.out
      rw [hn, parsV_nil] at HQ
      obtain ⟨v, hc, hf, hown⟩ := ho
      obtain ⟨a, cap, rfl⟩ := own_shape hown
      have HO := Lib.hid hown
      have hl0 : ¬ 128 < s0.data.toList.length := by rw [len_list]; omega
      have hp0 : ¬ plainL s0.data.toList = false := by rw [hp]; decide
      clear hn hown hln
      by_cases h32 : 32 < l.length
      · have h1 := Lib.hid (show parseE s0.data.toList = 1 by rw [parseE, if_neg hl0, if_neg hp0, ← HQ]; simp only []; rw [if_pos h32])
        have h2 := Lib.hid (show parseL s0.data.toList = [] by rw [parseL, if_neg hl0, if_neg hp0, ← HQ]; simp only []; rw [if_pos h32])
        clear HQ hl0 hp0
        go_wp2
        go_ret2
        exact ⟨.slice none 0 0, by rw [h1.out]; rfl, by rw [h2.out]; exact World.ownsRow_nil _ _ _ _, hB⟩
      · have h1 := Lib.hid (show parseE s0.data.toList = 0 by rw [parseE, if_neg hl0, if_neg hp0, ← HQ]; simp only []; rw [if_neg h32])
        have h2 := Lib.hid (show parseL s0.data.toList = l by rw [parseL, if_neg hl0, if_neg hp0, ← HQ]; simp only []; rw [if_neg h32])
        clear HQ hl0 hp0
        go_wp2
        go_ret2
        exact ⟨.slice a l.length cap, by rw [h1.out]; rfl, by rw [h2.out]; exact Go.Joins.ownsRow_le HO.out (by omega), hB⟩
    · have hE : (s.toList == ([] : List UInt8)) = false := by
        rw [Lib.toList_data, beq_eq_false_iff_ne]
        intro h
        have := len_list s
        rw [h] at this; simp at this; omega
      have hE' : s.toList.isEmpty = false := by
        rw [Lib.toList_data]
        cases h : s.data.toList with
        | nil => have := len_list s; rw [h] at this; simp at this; omega
        | cons a b => rfl
      have ci := Lib.hid (show ∀ W, Calls Tryd.prog 24 #[.string s, .int .u8 37] W fun e w' => e = .returned (.int .i64 (Lib.indexByte s.data.toList (37 : Int).toNat.toUInt8)) ∧ W = w' from fun W => (Tryd.strings_IndexByte s 37 W).mono (fun _ _ h => ⟨h.1, h.2.symm⟩))
      have hge := Lib.indexByte_ge s.data.toList 37
      obtain ⟨i, hi⟩ : ∃ i, i = Lib.indexByte s.data.toList 37 := ⟨_, rfl⟩
      rw [show (37 : Int).toNat.toUInt8 = (37 : UInt8) from rfl, ← hi] at ci
      rw [← hi] at hge
      by_cases hneg : i < 0
      · have hfull : s.extract 0 s.size = s := by
          apply ByteArray.ext
          apply Array.toList_inj.1
          rw [ByteArray.data_extract, Array.toList_extract]
          simp [List.extract]
          exact List.take_of_length_le (by rw [len_list]; exact Nat.le_refl _)
        have hcut := pars_cut s s.size l (by omega) (Nat.le_refl _) (fun j _ => Lib.indexByte_none (by rw [← hi]; omega) j)
        rw [hfull] at hcut
        have HCUT := Lib.hid hcut
        have hcs := Lib.hid (text_any L l s wr ho (by omega) (fun x hx => by have := HTX.out x hx; omega))
        have hi1 : i = -1 := by omega
        subst hi1
        clear hi hcut hfull
        go_wp2_with fail
        refine (ci.out _).mono ?_
        rintro e w3 ⟨rfl, rfl⟩
        go_wp2_with fail
        refine hcs.out.mono ?_
        rintro e w3 ⟨rfl, ho1, hb1⟩
        go_wp2_with fail
        go_roundw
        case rel =>
          have hq := pinv_text hL1 hL0 hm hB HPE.out hsz hln HTX.out (by omega) (Nat.le_refl _) (Nat.le_refl _) HCUT.out ho1 hb1 rfl
          rw [show s.extract s.size s.size = ByteArray.empty by simp] at hq
          exact ⟨_, rfl, hq⟩
        case measure => simp; omega
      · by_cases hpos : 0 < i
        · have hsome := Lib.indexByte_some (l := s.data.toList) (c := 37) (o := i.toNat) (by rw [← hi]; omega)
          obtain ⟨k, hk⟩ : ∃ k : Nat, i = k := ⟨i.toNat, by omega⟩
          subst hk
          have hks : k < s.size := by
            have := (List.getElem?_eq_some_iff.1 hsome.1).1
            rw [len_list] at this; simpa using this
          have HCUT := Lib.hid (pars_cut s k l (by omega) (by omega) (fun j hj => hsome.2 j (by omega)))
          have hcs := Lib.hid (text_any L l (s.extract 0 k) wr ho (by omega) (fun x hx => by have := HTX.out x hx; rw [ByteArray.size_extract]; omega))
          have hkz : ((k : Int) != 0) = true := by rw [bne_iff_ne]; omega
          clear hi hsome hneg
          go_wp2_with fail
          refine (ci.out _).mono ?_
          rintro e w3 ⟨rfl, rfl⟩
          go_wp2_with fail
          refine hcs.out.mono ?_
          rintro e w3 ⟨rfl, ho1, hb1⟩
          go_wp2_with fail
          go_roundw
          case rel => exact ⟨_, rfl, pinv_text hL1 hL0 hm hB HPE.out hsz hln HTX.out (by omega) (by omega) (by rw [ByteArray.size_extract]; omega) HCUT.out ho1 hb1 rfl⟩
          case measure => simp; omega
        · have h00 : i = 0 := by omega
          subst h00
          have cp := Lib.hid (fun W => prefPP s W)
          by_cases hpp : s.data.toList.take 2 = [37, 37]
          · rw [decide_eq_true hpp] at cp
            have h2s : 2 ≤ s.size := by
              have := congrArg List.length hpp
              rw [List.length_take, len_list] at this; simp at this; omega
            have HCUT := Lib.hid (pars_two s l hpp)
            have hcs := Lib.hid (text_any L l ⟨#[37]⟩ wr ho (by omega) (fun x hx => by have := HTX.out x hx; show x.2.2.size + 1 ≤ 1000; omega))
            clear hi hpp
            go_wp2_with fail
            refine (ci.out _).mono ?_
            rintro e w3 ⟨rfl, rfl⟩
            go_wp2_with fail
            refine (cp.out _).mono ?_
            rintro e w3 ⟨rfl, rfl⟩
            go_wp2_with fail
            refine hcs.out.mono ?_
            rintro e w3 ⟨rfl, ho1, hb1⟩
            go_wp2_with fail
            go_roundw
            case rel => exact ⟨_, rfl, pinv_text hL1 hL0 hm hB HPE.out hsz hln HTX.out (by omega) h2s (by show 1 ≤ 2; omega) HCUT.out ho1 hb1 rfl⟩
            case measure => simp; omega
          · rw [decide_eq_false hpp] at cp
            have hsome := Lib.indexByte_some (l := s.data.toList) (c := 37) (o := 0) (by rw [← hi]; rfl)
            have hone := pars_one s l hsome.1 hpp
            have hm' := hm
            have cone := Lib.hid (one_any (s.extract 1 s.size) w1.heap.size wr (by rw [ByteArray.size_extract]; unfold maxLen; omega) hm)
            have hbd := oneV_bd (s.extract 1 s.size).data.toList
            rw [len_list, ByteArray.size_extract] at hbd
            obtain ⟨q, hq⟩ : ∃ q, q = oneV (s.extract 1 s.size).data.toList := ⟨_, rfl⟩
            rw [← hq] at cone hone hbd
            obtain ⟨qk, qn, qm⟩ := q
            simp only [itemV] at cone hone hbd
            clear hi hpp hsome hq
            by_cases h0 : qm = 0
            · rw [if_pos h0] at hone
              subst h0
              have hl0 : ¬ 128 < s0.data.toList.length := by rw [len_list]; omega
              have hp0 : ¬ plainL s0.data.toList = false := by rw [hp]; decide
              have h1 := Lib.hid (show parseE s0.data.toList = 2 by rw [parseE, if_neg hl0, if_neg hp0, ← HPE.out, hone])
              have h2 := Lib.hid (show parseL s0.data.toList = [] by rw [parseL, if_neg hl0, if_neg hp0, ← HPE.out, hone])
              clear hl0 hp0 hone
              go_wp2_with fail
              refine (ci.out _).mono ?_
              rintro e w3 ⟨rfl, rfl⟩
              go_wp2_with fail
              refine (cp.out _).mono ?_
              rintro e w3 ⟨rfl, rfl⟩
              go_wp2_with fail
              refine cone.out.mono ?_
              rintro e w3 ⟨rfl, hb3⟩
              have hB3 := below_then hB hb3
              clear hb3
              go_wp2
              go_ret2
              exact ⟨.slice none 0 0, by rw [h1.out]; rfl, by rw [h2.out]; exact World.ownsRow_nil _ _ _ _, hB3.alloc (by have := hB3.size; omega) _⟩
            · rw [if_neg h0] at hone
              have hq1 : qm = 1 ∨ qm = 2 := by omega
              have hqs : 0 ≤ 1 + qm ∧ 1 + qm ≤ (s.size : Int) := by omega
              have HCUT := Lib.hid hone
              obtain ⟨v, hc, hf, hown⟩ := ho
              have hL : L < wr.heap.size := World.block_lt_of_cell? wr _ hc
              obtain ⟨i0, hi0, hz0, hz1, hz2⟩ := info_parts infoItem
              clear hone hbd h0
              go_wp2_with fail
              refine (ci.out _).mono ?_
              rintro e w3 ⟨rfl, rfl⟩
              go_wp2_with fail
              refine (cp.out _).mono ?_
              rintro e w3 ⟨rfl, rfl⟩
              go_wp2_with fail
              refine cone.out.mono ?_
              rintro e w3 ⟨rfl, hb3⟩
              have hB3 := below_then hB hb3
              have g3 : wr.grownBy w3 none := ⟨hb3.os, hb3.tape, hb3.output, hb3.size, fun k hk _ => hb3.block k hk⟩
              have hc3 := g3.cell hc (by simp)
              have hf3 := (World.frozen?_of_block (a := ⟨L, 0, none⟩) (g3.block L hL (by simp))).trans hf
              have hown3 := hown.kept g3 (by cases h : v.ownBlock <;> simp)
              have hm3 := map_kept hm hb3 (by omega)
              have hL3 : L < w3.heap.size := by have := hb3.size; omega
              obtain ⟨a, cap, hv⟩ := own_shape hown3
              subst hv
              have e3 : (w3.alloc (.cells #[.int .i64 qk, .int .i64 qn, .string ⟨#[]⟩] 32)).heap.size = w3.heap.size + 1 := by simp
              have hnew := cell_three_new (w3.alloc (.cells #[.int .i64 qk, .int .i64 qn, .string ⟨#[]⟩] 32)) (.int .i64 qk) (.int .i64 qn) (.string ⟨#[]⟩) 32
              rw [e3] at hnew
              have hne : some L ≠ (Value.slice a l.length cap).ownBlock := fun e => by have := (hown3.lt L e.symm).1; omega
              have HB3 := Lib.hid hb3
              have HM3 := Lib.hid hm3
              clear hc hf hown hm hm' hb3 cone e3 hm3
              have hq0 : (qm == 0) = false := by rw [beq_eq_false_iff_ne]; omega
              go_wp2_with (first
                | (at_builtin; (refine wpList_append_own_at _ rfl _ _ 22 rfl (L + 1) 32 i0 (.agg #[.int .i64 0, .int .i64 0, .string ⟨#[]⟩]) 3 32 Tryd.underlying22 hi0 hz0 hz1 hz2 rfl (by decide) _ _ _ rfl ((hown3.alloc _).alloc _) ⟨w3.heap.size + 1, 0, none⟩ 1 1 [.int .i64 qk, .int .i64 qn, .string ⟨#[]⟩] rfl rfl hnew (by intro u hu; simp at hu; rcases hu with rfl | rfl | rfl <;> rfl) (by unfold maxLen; omega) (by omega) (by simp; omega) ?_); intro v' w4 hown1 hgrow hnil hloc; obtain ⟨g', cap', hv'⟩ := Go.Joins.ownsRow_form hown1 (by omega); subst hv'; have hall := ((World.grownBy_alloc w3 _ _).trans (World.grownBy_alloc _ _ _)).trans hgrow; have hcL := hall.cell hc3 hne; have hfL := (World.frozen?_of_block (hall.block L hL3 hne)).trans hf3)
                | fail)
              go_roundw
              case rel =>
                refine ⟨_, rfl, ?_⟩
                have hbL := (below_row hown3 hall hL3).setCell (p := ⟨L, 0, none⟩) (Nat.le_refl _) (Value.slice (some ⟨g', 0, none⟩) (l.length + 1) cap')
                have hz : (s.extract (1 + qm).toNat s.size).size = s.size - (1 + qm).toNat := by rw [ByteArray.size_extract]; omega
                refine ⟨l ++ [(qk, qn, ⟨#[]⟩)], ⟨_, World.cell?_setCell_same _ _ _ hcL, by rw [World.frozen?_setCell]; exact hfL, ?_⟩, map_kept HM3.out hbL hL1, hB3.trans (hbL.mono hL0), ?_, by omega, by simp; omega, ?_⟩
                · refine ownsRow_setCell_below ?_ (by simp) _
                  rw [show [Value.int .i64 qk, .int .i64 qn, .string ⟨#[]⟩] = itsC [(qk, qn, ⟨#[]⟩)] from rfl, ← itsC_append] at hown1
                  simpa using hown1
                · rw [← HPE.out, HCUT.out, show 1 + qm.toNat = (1 + qm).toNat by omega]
                · intro y hy
                  rw [List.mem_append] at hy
                  rcases hy with hy | hy
                  · have := HTX.out y hy; omega
                  · simp at hy
                    subst hy
                    show 0 + _ ≤ _
                    omega
              case measure => simp; omega
theorem parse_any (s0 : ByteArray) (w : World) (hs : s0.size ≤ maxLen) :
    Calls Tryd.prog 9 #[.string s0] w (ParseIs s0.data.toList w) := by
  unfold maxLen at hs
  by_cases hl : s0.size ≤ 128
  · by_cases hp : plainL s0.data.toList = true
    · exact parse_good s0 w hl hp
    · have hp' : plainL s0.data.toList = false := by simpa using hp
      have h1 := Lib.hid (show parseE s0.data.toList = 2 by rw [parseE, if_neg (by rw [len_list]; omega), if_pos hp'])
      have h2 := Lib.hid (show parseL s0.data.toList = [] by rw [parseL, if_neg (by rw [len_list]; omega), if_pos hp'])
      clear hp
      have hg : decide ((s0.size : Int) > 128) = false := decide_eq_false (by omega)
      go_enter Tryd.func9, Tryd.ntmps9
      go_wp2_with fail
      refine (plain_any s0 w).mono ?_
      rintro e w1 ⟨rfl, hb1⟩
      rw [hp']
      go_wp2
      go_ret2
      exact ⟨.slice none 0 0, by rw [h1.out]; rfl, by rw [h2.out]; exact World.ownsRow_nil _ _ _ _, hb1⟩
  · have h1 := Lib.hid (show parseE s0.data.toList = 1 by rw [parseE, if_pos (by rw [len_list]; omega)])
    have h2 := Lib.hid (show parseL s0.data.toList = [] by rw [parseL, if_pos (by rw [len_list]; omega)])
    have hg : decide ((s0.size : Int) > 128) = true := decide_eq_true (by omega)
    go_enter Tryd.func9, Tryd.ntmps9
    go_wp2
    go_ret2
    exact ⟨.slice none 0 0, by rw [h1.out]; rfl, by rw [h2.out]; exact World.ownsRow_nil _ _ _ _, Below.refl _ _⟩
end Go.Proofs.YtiopcifglfocpaaDoor.X
