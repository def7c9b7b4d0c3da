/- Chapter 23, walk: the reference's Parse, whatever the text: the items, or the error. Condition: a string as long as one may be. -/
import Derived.Test.YtiopcifglfocpaaDoorW23h
namespace Go.Proofs.YtiopcifglfocpaaDoor.X
open Go.RowKit Go.Maps
theorem refParse_any (s0 : ByteArray) (w : World) (hs : s0.size ≤ maxLen) :
    Calls Tryd.prog 11 #[.string s0] w (ParseIs s0.data.toList w) := by
  by_cases hl : s0.size ≤ 128
  · by_cases hp : plainL s0.data.toList = true
    · exact refParse_good s0 w hl hp
    · have hp' : plainL s0.data.toList = false := by simpa using hp
      have h1 := Lib.hid (show parseE s0.data.toList = 2 by rw [parseE, if_neg (by rw [len_list]; omega), if_pos hp'])
      have h2 := Lib.hid (show parseL s0.data.toList = [] by rw [parseL, if_neg (by rw [len_list]; omega), if_pos hp'])
      clear hp
      have hg : decide ((s0.size : Int) > 128) = false := decide_eq_false (by omega)
      go_enter Tryd.func11, Tryd.ntmps11
      go_wp2_with fail
      refine (refPlain_any s0 w hs).mono ?_
      rintro e w1 ⟨rfl, rfl⟩
      rw [hp']
      go_wp2
      go_ret2
      exact ⟨.slice none 0 0, by rw [h1.out]; rfl, by rw [h2.out]; exact World.ownsRow_nil _ _ _ _, Below.refl _ _⟩
  · have h1 := Lib.hid (show parseE s0.data.toList = 1 by rw [parseE, if_pos (by rw [len_list]; omega)])
    have h2 := Lib.hid (show parseL s0.data.toList = [] by rw [parseL, if_pos (by rw [len_list]; omega)])
    unfold maxLen at hs
    have hg : decide ((s0.size : Int) > 128) = true := decide_eq_true (by omega)
    go_enter Tryd.func11, Tryd.ntmps11
    go_wp2
    go_ret2
    exact ⟨.slice none 0 0, by rw [h1.out]; rfl, by rw [h2.out]; exact World.ownsRow_nil _ _ _ _, Below.refl _ _⟩
end Go.Proofs.YtiopcifglfocpaaDoor.X
