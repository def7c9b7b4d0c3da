/- Chapter 23, walks: whether an item's text ends where the next item begins, in the program and (holds) in its reference. Conditions: the slice reads as items that may be; their texts are short in all. -/
import Derived.Test.YtiopcifglfocpaaDoorW23r
namespace Go.Proofs.YtiopcifglfocpaaDoor.X
open Go.RowKit Go.Maps
/-- Whether the text of an item of this kind can have this byte. -/
def holdsB (k : Int) (c : UInt8) : Bool :=
  if k = 18 then decide (48 ≤ c.toNat) && decide (c.toNat ≤ 57) else decide (97 ≤ c.toNat) && decide (c.toNat ≤ 122) || decide (65 ≤ c.toNat) && decide (c.toNat ≤ 90)
def endsV (x : Itm) (r : List Itm) : Bool :=
  if (widV x.1 x.2.1 x.2.2.data.toList).1 = (widV x.1 x.2.1 x.2.2.data.toList).2 then true
  else match r with
    | [] => false
    | y :: _ => if y.1 = 0 then !holdsB x.1 (y.2.2.data.toList.headD 0) else false
theorem endsV_same (x : Itm) (r : List Itm) (h : (widV x.1 x.2.1 x.2.2.data.toList).1 = (widV x.1 x.2.1 x.2.2.data.toList).2) : endsV x r = true := by unfold endsV; rw [if_pos h]
theorem endsV_last (x : Itm) (h : ¬ (widV x.1 x.2.1 x.2.2.data.toList).1 = (widV x.1 x.2.1 x.2.2.data.toList).2) : endsV x [] = false := by unfold endsV; rw [if_neg h]
theorem endsV_dir (x y : Itm) (r : List Itm) (h : ¬ (widV x.1 x.2.1 x.2.2.data.toList).1 = (widV x.1 x.2.1 x.2.2.data.toList).2) (h0 : y.1 ≠ 0) : endsV x (y :: r) = false := by
  unfold endsV; rw [if_neg h]; simp [h0]
theorem endsV_text (x y : Itm) (r : List Itm) (h : ¬ (widV x.1 x.2.1 x.2.2.data.toList).1 = (widV x.1 x.2.1 x.2.2.data.toList).2) (h0 : y.1 = 0) : endsV x (y :: r) = !holdsB x.1 (y.2.2.data.toList.headD 0) := by
  unfold endsV; rw [if_neg h]; simp [h0]
theorem ok_cons (y : Itm) (h : okI y = true) (h0 : y.1 = 0) : 0 < y.2.2.size := by
  unfold okI mayB at h
  rw [if_pos h0] at h
  simp at h
  rcases Nat.eq_zero_or_pos y.2.2.size with h1 | h1
  · exact absurd (by exact Array.eq_empty_of_size_eq_zero h1) h.1.1
  · exact h1
theorem low_let : ∀ c : Fin 256, (bits BinOp.or IntKind.u8 (c.val : Int) 32 < 97 ∨ 122 < bits BinOp.or IntKind.u8 (c.val : Int) 32) ↔ (((c.val : Int) < 97 ∨ 122 < (c.val : Int)) ∧ ((c.val : Int) < 65 ∨ 90 < (c.val : Int))) := by decide +kernel
theorem retB {a b : Bool} (h : a = b) : Ending.returned (.bool a) = .returned (.bool b) := by rw [h]
theorem head_at (s : ByteArray) (h : 0 < s.size) : s.data.toList.headD 0 = s[0] := by rw [head_cons s h]; rfl
set_option maxHeartbeats 4000000 in
theorem ends_any (v : Value) (l : List Itm) (n : Nat) (w : World) (h : ReadsL v l w) (hn : n < l.length) (hl : l.length ≤ 32) (ho : ∀ x ∈ l, okI x = true) (hs : textN l ≤ 5000) :
    Calls Tryd.prog 32 #[v, .int .i64 n] w fun e w' => e = .returned (.bool (endsV l[n] (l.drop (n + 1)))) ∧ Below w.heap.size w w' := by
  obtain ⟨a, c, hv, hc⟩ := h
  subst hv
  obtain ⟨b, o, ha, c0, c1, c2⟩ := cells_at hc (Below.refl _ _) n hn
  have htm := textN_mem l l[n] (List.getElem_mem hn)
  have CW := Lib.hid (fun W => width_any l[n].1 l[n].2.1 l[n].2.2 W (by unfold maxLen; omega))
  unfold WidIs at CW
  obtain ⟨x, hx⟩ : ∃ x, x = l[n] := ⟨_, rfl⟩
  rw [← hx] at CW c0 c1 c2 htm ⊢
  obtain ⟨A, hA⟩ : ∃ A, A = (widV x.1 x.2.1 x.2.2.data.toList).1 := ⟨_, rfl⟩
  obtain ⟨B, hB⟩ : ∃ B, B = (widV x.1 x.2.1 x.2.2.data.toList).2 := ⟨_, rfl⟩
  obtain ⟨q, hq⟩ : ∃ q, q = x.1 := ⟨_, rfl⟩
  obtain ⟨m, hm⟩ : ∃ m, m = x.2.1 := ⟨_, rfl⟩
  obtain ⟨t, ht⟩ : ∃ t, t = x.2.2 := ⟨_, rfl⟩
  rw [← hA, ← hB, ← hq, ← hm, ← ht] at CW
  rw [← hq] at c0
  rw [← hm] at c1
  rw [← ht] at c2
  subst ha
  by_cases hAB : A = B
  · have HV := Lib.hid (endsV_same x (l.drop (n + 1)) (by rw [← hA, ← hB]; exact hAB))
    have bAB : (A == B) = true := by rw [beq_iff_eq]; exact hAB
    clear hAB hA hB hq hm ht hx ho hs hc htm hl
    go_enter Tryd.func32, Tryd.ntmps32
    go_wp2_with fail
    refine (CW.out _).mono ?_
    rintro e w1 ⟨rfl, hb1⟩
    go_wp2
    go_ret
    exact ⟨by rw [HV.out]; rfl, hb1⟩
  · have bAB : (A == B) = false := by rw [beq_eq_false_iff_ne]; exact hAB
    by_cases hlast : n + 1 = l.length
    · have HV := Lib.hid (show endsV x (l.drop (n + 1)) = false by rw [hlast, List.drop_length]; exact endsV_last x (by rw [← hA, ← hB]; exact hAB))
      have bl : ((n : Int) + 1 == (l.length : Int)) = true := by rw [beq_iff_eq]; omega
      clear hAB hA hB hq hm ht hx ho hs hc htm hlast
      go_enter Tryd.func32, Tryd.ntmps32
      go_wp2_with fail
      refine (CW.out _).mono ?_
      rintro e w1 ⟨rfl, hb1⟩
      go_wp2
      go_ret
      exact ⟨by rw [HV.out]; rfl, hb1⟩
    · have hn1 : n + 1 < l.length := by omega
      have bl : ((n : Int) + 1 == (l.length : Int)) = false := by rw [beq_eq_false_iff_ne]; omega
      obtain ⟨b', o', ha', d0, d1, d2⟩ := cells_at hc (Below.refl _ _) (n + 1) hn1
      cases ha'
      have hdr : l.drop (n + 1) = l[n + 1] :: l.drop (n + 2) := List.drop_eq_getElem_cons hn1
      have hoy := ho l[n + 1] (List.getElem_mem hn1)
      obtain ⟨y, hy⟩ : ∃ y, y = l[n + 1] := ⟨_, rfl⟩
      rw [← hy] at d0 d1 d2 hdr hoy
      clear hy
      obtain ⟨z, yn, s⟩ := y
      dsimp only at d0 d1 d2
      by_cases hy0 : z = 0
      · have hpos : 0 < s.size := ok_cons (z, yn, s) hoy hy0
        have HV := Lib.hid (show endsV x (l.drop (n + 1)) = !holdsB q s[0] by
          rw [hdr, endsV_text x (z, yn, s) _ (by rw [← hA, ← hB]; exact hAB) hy0]; dsimp only; rw [head_at _ hpos, hq])
        rw [hy0] at d0
        clear hAB hA hB hq hm ht hx ho hs hc htm hlast hdr hoy hy0
        have HD := Lib.hid (show _ ∧ _ from ⟨d0, d2⟩)
        have hbl := World.block_lt_of_cell? _ _ d0
        by_cases h18 : q = 18
        · have HVV := Lib.hid (show endsV x (l.drop (n + 1)) = !(decide ((48 : Int) ≤ s[0].toNat) && decide ((s[0].toNat : Int) ≤ 57)) by
            rw [HV.out, holdsB, if_pos h18]; congr 2 <;> simp only [decide_eq_decide] <;> omega)
          subst h18
          clear HV
          go_enter Tryd.func32, Tryd.ntmps32
          go_wp2_with fail
          refine (CW.out _).mono ?_
          rintro e w1 ⟨rfl, hb1⟩
          have e0 := (hb1.cell (p := ⟨b, o + (n + 1) * 3, none⟩) hbl).trans d0
          have e2 := (hb1.cell (p := ⟨b, o + (n + 1) * 3 + 2, none⟩) hbl).trans d2
          have f0 := (hb1.cell (p := ⟨b, o + n * 3, none⟩) hbl).trans c0
          have HB := Lib.hid hb1
          clear hb1 c0 c1 c2 d0 d1 d2 HD CW
          go_wp2
          all_goals
            go_ret
            exact ⟨retB (by rw [HVV.out, Bool.eq_iff_iff]; simp; try omega), HB.out⟩
        · have HVV := Lib.hid (show endsV x (l.drop (n + 1)) = !(decide ((97 : Int) ≤ s[0].toNat) && decide ((s[0].toNat : Int) ≤ 122) || decide ((65 : Int) ≤ s[0].toNat) && decide ((s[0].toNat : Int) ≤ 90)) by
            rw [HV.out, holdsB, if_neg h18]; congr 2 <;> congr 1 <;> simp only [decide_eq_decide] <;> omega)
          have b18 : (q == 18) = false := by simpa using h18
          have hlow := low_let ⟨s[0].toNat, s[0].toNat_lt⟩
          dsimp only at hlow
          obtain ⟨O, hO⟩ : ∃ O, bits BinOp.or IntKind.u8 (s[0].toNat : Int) 32 = O := ⟨_, rfl⟩
          rw [hO] at hlow
          have HL := Lib.hid hlow
          clear HV hlow
          go_enter Tryd.func32, Tryd.ntmps32
          go_wp2_with fail
          refine (CW.out _).mono ?_
          rintro e w1 ⟨rfl, hb1⟩
          have e0 := (hb1.cell (p := ⟨b, o + (n + 1) * 3, none⟩) hbl).trans d0
          have e2 := (hb1.cell (p := ⟨b, o + (n + 1) * 3 + 2, none⟩) hbl).trans d2
          have f0 := (hb1.cell (p := ⟨b, o + n * 3, none⟩) hbl).trans c0
          have HB := Lib.hid hb1
          clear hb1 c0 c1 c2 d0 d1 d2 HD CW
          go_wp2
          all_goals
            go_ret
            exact ⟨retB (by rw [HVV.out, Bool.eq_iff_iff]; have := HL.out; simp; omega), HB.out⟩
      · have HV := Lib.hid (show endsV x (l.drop (n + 1)) = false by
          rw [hdr]; exact endsV_dir x (z, yn, s) _ (by rw [← hA, ← hB]; exact hAB) hy0)
        have bz : (z != 0) = true := by rw [bne_iff_ne]; exact hy0
        have hbl := World.block_lt_of_cell? _ _ d0
        clear hAB hA hB hq hm ht hx ho hs hc htm hlast hdr hoy hy0
        go_enter Tryd.func32, Tryd.ntmps32
        go_wp2_with fail
        refine (CW.out _).mono ?_
        rintro e w1 ⟨rfl, hb1⟩
        have e0 := (hb1.cell (p := ⟨b, o + (n + 1) * 3, none⟩) hbl).trans d0
        clear c0 c1 c2 d0 d1 d2 CW
        go_wp2
        go_ret
        exact ⟨by rw [HV.out]; rfl, hb1⟩
theorem refHolds_any (k n : Int) (t : ByteArray) (c : UInt8) (w : World) :
    Calls Tryd.prog 36 #[.agg #[.int .i64 k, .int .i64 n, .string t], .int .u8 (c.toNat : Int)] w fun e w' => e = .returned (.bool (holdsB k c)) ∧ Below w.heap.size w w' := by
  have hn : holdsB k c = if k = 18 then decide ((48 : Int) ≤ c.toNat) && decide ((c.toNat : Int) ≤ 57) else decide ((97 : Int) ≤ c.toNat) && decide ((c.toNat : Int) ≤ 122) || decide ((65 : Int) ≤ c.toNat) && decide ((c.toNat : Int) ≤ 90) := by
    unfold holdsB
    split
    · congr 1 <;> simp only [decide_eq_decide] <;> omega
    · congr 1 <;> congr 1 <;> simp only [decide_eq_decide] <;> omega
  have HH := Lib.hid hn
  clear hn
  obtain ⟨C, hC⟩ : ∃ C : Int, C = (c.toNat : Int) := ⟨_, rfl⟩
  rw [← hC] at HH ⊢
  clear hC
  by_cases h18 : k = 18
  · have HV := Lib.hid (show holdsB k c = (decide ((48 : Int) ≤ C) && decide (C ≤ 57)) by rw [HH.out, if_pos h18])
    subst h18
    go_enter Tryd.func36, Tryd.ntmps36
    go_wp2
    all_goals
      go_ret
      exact ⟨retB (by rw [HV.out, Bool.eq_iff_iff]; simp <;> omega), below_one _ _⟩
  · have HV := Lib.hid (show holdsB k c = (decide ((97 : Int) ≤ C) && decide (C ≤ 122) || decide ((65 : Int) ≤ C) && decide (C ≤ 90)) by rw [HH.out, if_neg h18])
    have b18 : (k == 18) = false := by simpa using h18
    go_enter Tryd.func36, Tryd.ntmps36
    go_wp2
    all_goals
      go_ret
      exact ⟨retB (by rw [HV.out, Bool.eq_iff_iff]; simp <;> omega), below_one _ _⟩
end Go.Proofs.YtiopcifglfocpaaDoor.X
