/- Chapter 23, plain law: what items are shown as is read as the same items; what a text is read as may be, and is shown as that text. No condition. -/
import Derived.Test.YtiopcifglfocpaaDoorW23w
namespace Go.Proofs.YtiopcifglfocpaaDoor.X
open Go.RowKit
theorem noText_addText (acc : List Itm) (t : ByteArray) (h : noText acc) : addText acc t = acc ++ [(0, 0, t)] := by
  rcases List.eq_nil_or_concat acc with rfl | ⟨r, x, rfl⟩
  · rfl
  · rw [List.concat_eq_append] at *
    have := h x (by simp)
    simp [addText, this]
theorem bytes_cons (c : UInt8) (u : List UInt8) : oneByte c ++ ⟨u.toArray⟩ = (⟨(c :: u).toArray⟩ : ByteArray) := by
  apply ByteArray.ext
  apply Array.toList_inj.1
  rw [app_list]
  rfl
/-- A text, each percent sign of it twice, is read as that text. -/
theorem pars_dbl : ∀ (u : List UInt8) (rest : List UInt8) (acc : List Itm), u ≠ [] → parsV (u.flatMap dbl ++ rest) acc = parsV rest (addText acc ⟨u.toArray⟩)
  | [], _, _, h => absurd rfl h
  | [c], rest, acc, _ => by
    by_cases hc : c = 37
    · subst hc
      show parsV (37 :: 37 :: rest) acc = _
      rw [parsV_cons, if_pos rfl, if_pos (show List.take 1 (37 :: rest) = [37] from rfl)]
      rfl
    · rw [show [c].flatMap dbl ++ rest = c :: rest by simp [dbl, hc], parsV_cons, if_neg hc]
      rfl
  | c :: d :: u, rest, acc, _ => by
    have ih := pars_dbl (d :: u) rest (addText acc (oneByte c)) (by simp)
    rw [addText_two, bytes_cons] at ih
    rw [← ih]
    by_cases hc : c = 37
    · subst hc
      rw [show (37 :: d :: u).flatMap dbl ++ rest = 37 :: 37 :: ((d :: u).flatMap dbl ++ rest) by simp [dbl], parsV_cons, if_pos rfl, if_pos (show List.take 1 (37 :: ((d :: u).flatMap dbl ++ rest)) = [37] from rfl)]
      rfl
    · rw [show (c :: d :: u).flatMap dbl ++ rest = c :: ((d :: u).flatMap dbl ++ rest) by simp [dbl, hc], parsV_cons, if_neg hc]
theorem let_item : ∀ k : Fin 19, ∀ n : Fin 4, (k.val ≠ 7 ∧ mayB (k.val : Int) (n.val : Int) [] = true ∧ 1 ≤ k.val) →
    itK (UInt8.ofNat (letC (k.val : Int) (n.val : Int)).toNat).toNat = (k.val : Int) ∧ itN (UInt8.ofNat (letC (k.val : Int) (n.val : Int)).toNat).toNat = (n.val : Int) ∧ UInt8.ofNat (letC (k.val : Int) (n.val : Int)).toNat ≠ 37 ∧ okB (UInt8.ofNat (letC (k.val : Int) (n.val : Int)).toNat) = true := by decide +kernel
theorem let_fits (k n : Int) (h : k ≠ 7 ∧ mayB k n [] = true ∧ 1 ≤ k) :
    itK (UInt8.ofNat (letC k n).toNat).toNat = k ∧ itN (UInt8.ofNat (letC k n).toNat).toNat = n ∧ UInt8.ofNat (letC k n).toNat ≠ 37 ∧ okB (UInt8.ofNat (letC k n).toNat) = true := by
  obtain ⟨b1, b2, b3⟩ := may_bd k n h
  obtain ⟨h7, hm, h1⟩ := h
  have hk : (((⟨k.toNat, by omega⟩ : Fin 19).val : Nat) : Int) = k := by show ((k.toNat : Nat) : Int) = k; omega
  have hn : (((⟨n.toNat, by omega⟩ : Fin 4).val : Nat) : Int) = n := by show ((n.toNat : Nat) : Int) = n; omega
  have hf := let_item ⟨k.toNat, by omega⟩ ⟨n.toNat, by omega⟩ ⟨by show k.toNat ≠ 7; omega, by rw [hk, hn]; exact hm, by show 1 ≤ k.toNat; omega⟩
  rw [hk, hn] at hf
  exact hf
theorem dig_item : ∀ n : Fin 10, 1 ≤ n.val → itK (UInt8.ofNat (48 + (n.val : Int)).toNat).toNat = 0 ∧ (49 ≤ (UInt8.ofNat (48 + (n.val : Int)).toNat).toNat ∧ (UInt8.ofNat (48 + (n.val : Int)).toNat).toNat ≤ 57) ∧ ((UInt8.ofNat (48 + (n.val : Int)).toNat).toNat : Int) - 48 = n.val ∧ UInt8.ofNat (48 + (n.val : Int)).toNat ≠ 37 ∧ okB (UInt8.ofNat (48 + (n.val : Int)).toNat) = true := by decide +kernel
theorem dig_fits (n : Int) (h1 : 1 ≤ n) (h9 : n ≤ 9) : itK (UInt8.ofNat (48 + n).toNat).toNat = 0 ∧ (49 ≤ (UInt8.ofNat (48 + n).toNat).toNat ∧ (UInt8.ofNat (48 + n).toNat).toNat ≤ 57) ∧ ((UInt8.ofNat (48 + n).toNat).toNat : Int) - 48 = n ∧ UInt8.ofNat (48 + n).toNat ≠ 37 ∧ okB (UInt8.ofNat (48 + n).toNat) = true := by
  have hn : (((⟨n.toNat, by omega⟩ : Fin 10).val : Nat) : Int) = n := by show ((n.toNat : Nat) : Int) = n; omega
  have := dig_item ⟨n.toNat, by omega⟩ (by show 1 ≤ n.toNat; omega)
  rw [hn] at this
  exact this
theorem list_bytes (t : ByteArray) : (⟨t.data.toList.toArray⟩ : ByteArray) = t := by
  apply ByteArray.ext; apply Array.toList_inj.1; rfl
theorem ok_kinds (x : Itm) (h : okI x = true) :
    (x.1 = 0 ∧ x.2.1 = 0 ∧ x.2.2.data.toList ≠ [] ∧ plainL x.2.2.data.toList = true) ∨ (x.1 = 7 ∧ 1 ≤ x.2.1 ∧ x.2.1 ≤ 9 ∧ x.2.2 = ⟨#[]⟩) ∨ (x.1 ≠ 0 ∧ x.1 ≠ 7 ∧ mayB x.1 x.2.1 [] = true ∧ 1 ≤ x.1 ∧ x.2.2 = ⟨#[]⟩) := by
  by_cases h0 : x.1 = 0
  · have h' := h
    unfold okI mayB at h'
    rw [if_pos h0] at h'
    simp at h'
    exact .inl ⟨h0, h'.1.2, by simpa using h'.1.1, h'.2⟩
  · have ht := ok_text x h h0
    have he : x.2.2 = ⟨#[]⟩ := by apply ByteArray.ext; apply Array.toList_inj.1; rw [ht]
    have h' := h
    unfold okI at h'
    rw [ht] at h'
    have hk := may_kinds _ _ _ h'
    by_cases h7 : x.1 = 7
    · exact .inr (.inl ⟨h7, by omega, by omega, he⟩)
    · exact .inr (.inr ⟨h0, h7, h', by omega, he⟩)
/-- Items, shown, are read as the same. -/
theorem pars_show : ∀ (l acc : List Itm) (was : Int), chk was l = true → (was ≠ 0 → noText acc) → parsV (showL l) acc = some (acc ++ l)
  | [], acc, _, _, _ => by rw [List.append_nil]; rfl
  | x :: r, acc, was, h, ha => by
    have hok : okI x = true := chk_ok was _ h x (by simp)
    have hc := h
    rw [chk] at hc
    simp only [Bool.and_eq_true] at hc
    have hr := hc.2
    have hsh : showL (x :: r) = pieceL x ++ showL r := by simp [showL]
    rw [hsh]
    have fin := pars_show r (acc ++ [x]) x.1 hr (fun h0 => noText_app acc x h0)
    rw [List.append_assoc, List.singleton_append] at fin
    rw [← fin]
    obtain ⟨k, n, t⟩ := x
    rcases ok_kinds _ hok with ⟨h0, hn, ht, _⟩ | ⟨h7, n1, n9, ht⟩ | ⟨h0, h7, hm, h1, ht⟩
    · dsimp only at h0 hn ht
      subst h0; subst hn
      have hw : was ≠ 0 := by
        intro e
        have := hc.1.2
        simp [e] at this
      rw [show pieceL (0, 0, t) = t.data.toList.flatMap dbl from rfl, pars_dbl _ _ _ ht, list_bytes, noText_addText _ _ (ha hw)]
    · dsimp only at h7 n1 n9 ht
      subst h7; subst ht
      obtain ⟨d1, d2, d3, d4, d5⟩ := dig_fits n n1 n9
      rw [show pieceL (7, n, ⟨#[]⟩) = [37, UInt8.ofNat (48 + n).toNat, 102] from rfl]
      generalize UInt8.ofNat (48 + n).toNat = c at *
      show parsV (37 :: c :: 102 :: showL r) acc = _
      rw [parsV_cons, if_pos rfl, if_neg (by simpa using d4)]
      have ho : oneV (c :: 102 :: showL r) = (7, n, 2) := by
        rw [oneV, if_neg (by simp [d1]), if_pos ⟨d2, rfl⟩, d3]
      rw [ho, if_neg (show ¬ (2 : Int) = 0 by decide)]
      rfl
    · dsimp only at h0 h7 hm h1 ht
      subst ht
      obtain ⟨d1, d2, d3, d4⟩ := let_fits k n ⟨h7, hm, h1⟩
      rw [show pieceL (k, n, ⟨#[]⟩) = [37, UInt8.ofNat (letC k n).toNat] by simp [pieceL, h0, h7]]
      generalize UInt8.ofNat (letC k n).toNat = c at *
      show parsV (37 :: c :: showL r) acc = _
      rw [parsV_cons, if_pos rfl, if_neg (by simpa using d3)]
      have ho : oneV (c :: showL r) = (k, n, 1) := by
        rw [oneV, if_pos (by rw [d1]; omega), d1, d2]
      rw [ho, if_neg (show ¬ (1 : Int) = 0 by decide)]
      rfl
theorem plain_app (a b : List UInt8) : plainL (a ++ b) = (plainL a && plainL b) := by simp [plainL]
theorem plain_dbl (u : List UInt8) (h : plainL u = true) : plainL (u.flatMap dbl) = true := by
  induction u with
  | nil => rfl
  | cons c r ih =>
    have h' : okB c = true ∧ plainL r = true := by simpa [plainL] using h
    rw [List.flatMap_cons, plain_app, ih h'.2, Bool.and_true]
    unfold dbl
    split
    · rfl
    · simp [plainL, h'.1]
theorem plain_show (l : List Itm) (h : ∀ x ∈ l, okI x = true) : plainL (showL l) = true := by
  induction l with
  | nil => rfl
  | cons x r ih =>
    have hsh : showL (x :: r) = pieceL x ++ showL r := by simp [showL]
    rw [hsh, plain_app, ih (fun y hy => h y (by simp [hy])), Bool.and_true]
    obtain ⟨k, n, t⟩ := x
    rcases ok_kinds (k, n, t) (h (k, n, t) (by simp)) with ⟨h0, hn, ht, hp⟩ | ⟨h7, n1, n9, ht⟩ | ⟨h0, h7, hm, h1, ht⟩
    · dsimp only at h0 hn ht hp
      subst h0
      exact plain_dbl _ hp
    · dsimp only at h7 n1 n9 ht
      subst h7
      obtain ⟨d1, d2, d3, d4, d5⟩ := dig_fits n n1 n9
      rw [show pieceL (7, n, t) = [37, UInt8.ofNat (48 + n).toNat, 102] from rfl]
      simp only [plainL, List.all_cons, d5, List.all_nil]
      rfl
    · dsimp only at h0 h7 hm h1 ht
      obtain ⟨d1, d2, d3, d4⟩ := let_fits k n ⟨h7, hm, h1⟩
      rw [show pieceL (k, n, t) = [37, UInt8.ofNat (letC k n).toNat] by simp [pieceL, h0, h7]]
      simp only [plainL, List.all_cons, d4, List.all_nil]
      rfl
/-- What may be shown is read as it was. -/
theorem read_back (l : List Itm) (h : checkE l = 0) : parseE (showL l) = 0 ∧ parseL (showL l) = l := by
  obtain ⟨h1, h2, h3⟩ := check_ok h
  have hp := plain_show l (chk_ok _ _ h2)
  have hs := pars_show l [] (-1) h2 (fun _ x hx => by simp at hx)
  rw [List.nil_append] at hs
  constructor
  · rw [parseE, if_neg (by omega), if_neg (by simp [hp]), hs]
    show (if 32 < l.length then (1 : Int) else 0) = 0
    rw [if_neg (by omega)]
  · rw [parseL, if_neg (by omega), if_neg (by simp [hp]), hs]
    show (if 32 < l.length then ([] : List Itm) else l) = l
    rw [if_neg (by omega)]
/-- The last kind of items behind a kind. -/
def lastK : Int → List Itm → Int
  | was, [] => was
  | _, y :: r => lastK y.1 r
theorem lastK_app (was : Int) (l : List Itm) (x : Itm) : lastK was (l ++ [x]) = x.1 := by
  induction l generalizing was with
  | nil => rfl
  | cons y r ih => exact ih y.1
theorem chk_app (was : Int) (l : List Itm) (x : Itm) : chk was (l ++ [x]) = (chk was l && (okI x && !(decide (x.1 = 0) && decide (lastK was l = 0)))) := by
  induction l generalizing was with
  | nil =>
    show (okI x && !(decide (x.1 = 0) && decide (was = 0)) && true) = (true && (okI x && !(decide (x.1 = 0) && decide (was = 0))))
    rw [Bool.and_true, Bool.true_and]
  | cons y r ih =>
    rw [List.cons_append, chk, chk, lastK, ih, Bool.and_assoc, Bool.and_assoc, Bool.and_assoc]
theorem okI_text (t : ByteArray) (h : t.data.toList ≠ []) (hp : plainL t.data.toList = true) : okI (0, 0, t) = true := by
  have : t.data.toList.isEmpty = false := by cases e : t.data.toList with | nil => exact absurd e h | cons a b => rfl
  unfold okI mayB
  rw [if_pos rfl, this, hp]; rfl
theorem good_addText (acc : List Itm) (t : ByteArray) (h : chk (-1) acc = true) (ht : t.data.toList ≠ []) (hp : plainL t.data.toList = true) : chk (-1) (addText acc t) = true := by
  rcases List.eq_nil_or_concat acc with rfl | ⟨r, y, rfl⟩
  · show chk (-1) ([] ++ [(0, 0, t)]) = true
    rw [chk_app, okI_text t ht hp]; rfl
  · rw [List.concat_eq_append] at *
    have h' := h
    rw [chk_app] at h'
    simp only [Bool.and_eq_true] at h'
    by_cases hy : y.1 = 0
    · have hadd : addText (r ++ [y]) t = r ++ [(y.1, y.2.1, y.2.2 ++ t)] := by simp [addText, hy]
      rw [hadd, chk_app, h'.1]
      have hk := ok_kinds y h'.2.1
      have hn : y.2.1 = 0 ∧ y.2.2.data.toList ≠ [] ∧ plainL y.2.2.data.toList = true := by
        rcases hk with ⟨_, a, b, c⟩ | ⟨a, _⟩ | ⟨a, _⟩
        · exact ⟨a, b, c⟩
        · omega
        · exact absurd hy a
      have hok : okI (y.1, y.2.1, y.2.2 ++ t) = true := by
        rw [hy, hn.1]
        exact okI_text _ (by rw [app_list]; simp [hn.2.1]) (by rw [app_list, plain_app, hn.2.2, hp]; rfl)
      rw [hok]
      simpa using h'.2.2
    · have hadd : addText (r ++ [y]) t = (r ++ [y]) ++ [(0, 0, t)] := by simp [addText, hy]
      rw [hadd, chk_app, h, okI_text t ht hp, lastK_app]
      simp [hy]
theorem show_addText (acc : List Itm) (t : ByteArray) : showL (addText acc t) = showL acc ++ t.data.toList.flatMap dbl := by
  rcases List.eq_nil_or_concat acc with rfl | ⟨r, y, rfl⟩
  · show showL ([] ++ [(0, 0, t)]) = _
    rw [showL_app]; simp [showL, pieceL]
  · rw [List.concat_eq_append] at *
    by_cases hy : y.1 = 0
    · have hadd : addText (r ++ [y]) t = r ++ [(y.1, y.2.1, y.2.2 ++ t)] := by simp [addText, hy]
      rw [hadd, showL_app, showL_app, List.append_assoc]
      congr 1
      simp [showL, pieceL, hy]
    · have hadd : addText (r ++ [y]) t = (r ++ [y]) ++ [(0, 0, t)] := by simp [addText, hy]
      rw [hadd, showL_app]
      simp [showL, pieceL]
theorem one_back : ∀ c : Fin 256, itK c.val ≠ 0 → UInt8.ofNat (letC (itK c.val) (itN c.val)).toNat = UInt8.ofNat c.val ∧ itK c.val ≠ 7 ∧ itK c.val ≠ 0 ∧ mayB (itK c.val) (itN c.val) [] = true := by decide +kernel
theorem dig_back : ∀ c : Fin 256, 49 ≤ c.val ∧ c.val ≤ 57 → UInt8.ofNat (48 + ((c.val : Int) - 48)).toNat = UInt8.ofNat c.val := by decide +kernel
/-- What a text is read as may be, and is shown as that text. -/
theorem pars_good : ∀ (n : Nat) (s : List UInt8) (acc l : List Itm), s.length ≤ n → plainL s = true → chk (-1) acc = true → parsV s acc = some l → chk (-1) l = true ∧ showL l = showL acc ++ s
  | _, [], acc, l, _, _, hc, h => by
    rw [parsV_nil] at h
    cases h
    exact ⟨hc, by simp⟩
  | 0, c :: r, _, _, hn, _, _, _ => by simp at hn
  | n + 1, c :: r, acc, l, hn, hp, hc, h => by
    have hp' : okB c = true ∧ plainL r = true := by simpa [plainL] using hp
    have hr : r.length ≤ n := by simpa using hn
    rw [parsV_cons] at h
    by_cases h37 : c = 37
    · rw [if_pos h37] at h
      subst h37
      by_cases ht : r.take 1 = [37]
      · rw [if_pos ht] at h
        obtain ⟨d, q, rfl⟩ : ∃ d q, r = d :: q := by cases r with | nil => simp at ht | cons d q => exact ⟨d, q, rfl⟩
        obtain rfl : d = 37 := by simpa using ht
        have hq : plainL q = true := by have := hp'.2; simp [plainL] at this; simpa [plainL] using this.2
        obtain ⟨g1, g2⟩ := pars_good n q _ l (by simp at hr; omega) hq (good_addText acc (oneByte 37) hc (by simp [oneByte]) (by rfl)) h
        exact ⟨g1, by rw [g2, show_addText]; simp [oneByte, dbl]⟩
      · rw [if_neg ht] at h
        by_cases h0 : (oneV r).2.2 = 0
        · rw [if_pos h0] at h; cases h
        · rw [if_neg h0] at h
          obtain ⟨d, q, rfl⟩ : ∃ d q, r = d :: q := by cases r with | nil => exact absurd rfl h0 | cons d q => exact ⟨d, q, rfl⟩
          have hpq : plainL q = true := by have := hp'.2; simp [plainL] at this; simpa [plainL] using this.2
          by_cases hk : itK d.toNat ≠ 0
          · obtain ⟨b1, b2, b3, b4⟩ := one_back ⟨d.toNat, d.toNat_lt⟩ hk
            dsimp only at b1 b2 b3 b4
            rw [UInt8.ofNat_toNat] at b1
            rw [oneV, if_pos hk] at h
            have hok : okI (itK d.toNat, itN d.toNat, ⟨#[]⟩) = true := b4
            have hc1 : chk (-1) (acc ++ [(itK d.toNat, itN d.toNat, ⟨#[]⟩)]) = true := by
              rw [chk_app, hc, hok]; simp [b3]
            obtain ⟨g1, g2⟩ := pars_good n q _ l (by simp at hr; omega) hpq hc1 h
            refine ⟨g1, ?_⟩
            rw [g2, showL_app, List.append_assoc]
            congr 1
            simp [showL, pieceL, b2, b3, b1]
          · by_cases hf : (49 ≤ d.toNat ∧ d.toNat ≤ 57) ∧ q.take 1 = [102]
            · rw [oneV, if_neg hk, if_pos hf] at h
              obtain ⟨⟨f1, f2⟩, ft⟩ := hf
              obtain ⟨e, z, rfl⟩ : ∃ e z, q = e :: z := by cases q with | nil => simp at ft | cons e z => exact ⟨e, z, rfl⟩
              obtain rfl : e = 102 := by simpa using ft
              have b1 := dig_back ⟨d.toNat, d.toNat_lt⟩ ⟨f1, f2⟩
              dsimp only at b1
              rw [UInt8.ofNat_toNat] at b1
              have hok : okI (7, (d.toNat : Int) - 48, ⟨#[]⟩) = true := by
                unfold okI mayB; simp; omega
              have hc1 : chk (-1) (acc ++ [(7, (d.toNat : Int) - 48, ⟨#[]⟩)]) = true := by
                rw [chk_app, hc, hok]; simp
              have hpz : plainL z = true := by have := hpq; simp [plainL] at this; simpa [plainL] using this.2
              obtain ⟨g1, g2⟩ := pars_good n z _ l (by simp at hr; omega) hpz hc1 h
              refine ⟨g1, ?_⟩
              rw [g2, showL_app, List.append_assoc]
              congr 1
              show pieceL (7, (d.toNat : Int) - 48, ⟨#[]⟩) ++ [] ++ z = _
              rw [show pieceL (7, (d.toNat : Int) - 48, ⟨#[]⟩) = [37, UInt8.ofNat (48 + ((d.toNat : Int) - 48)).toNat, 102] from rfl, b1]
              rfl
            · rw [oneV, if_neg hk, if_neg hf] at h0
              exact absurd rfl h0
    · rw [if_neg h37] at h
      obtain ⟨g1, g2⟩ := pars_good n r _ l hr hp'.2 (good_addText acc (oneByte c) hc (by simp [oneByte]) (by simp [plainL, oneByte, hp'.1])) h
      exact ⟨g1, by rw [g2, show_addText]; simp [oneByte, dbl, h37]⟩
/-- A text that is read as items: these may be, and are shown as that text. -/
theorem read_ok (s : List UInt8) (h : parseE s = 0) : checkE (parseL s) = 0 ∧ showL (parseL s) = s := by
  unfold parseE at h
  split at h
  · omega
  · rename_i h128
    split at h
    · omega
    · rename_i hp
      have hp' : plainL s = true := by simpa using hp
      cases hv : parsV s [] with
      | none => rw [hv] at h; cases h
      | some l =>
        rw [hv] at h
        dsimp only at h
        split at h
        · omega
        · rename_i h32
          have hl : parseL s = l := by
            rw [parseL, if_neg h128, if_neg hp, hv]
            show (if 32 < l.length then ([] : List Itm) else l) = l
            rw [if_neg h32]
          obtain ⟨g1, g2⟩ := pars_good s.length s [] l (Nat.le_refl _) hp' rfl hv
          rw [hl]
          have hs : showL l = s := by rw [g2]; rfl
          refine ⟨?_, hs⟩
          rw [checkE, if_neg h32, if_neg (by simp [g1]), hs, if_neg h128]
theorem read_none (s : List UInt8) (h : parseE s ≠ 0) : parseL s = [] := by
  unfold parseE at h
  unfold parseL
  split
  · rfl
  · rename_i h128
    rw [if_neg h128] at h
    split
    · rfl
    · rename_i hp
      rw [if_neg hp] at h
      cases hv : parsV s [] with
      | none => rfl
      | some l =>
        rw [hv] at h
        dsimp only at h
        show (if 32 < l.length then ([] : List Itm) else l) = []
        split
        · rfl
        · rename_i h32
          rw [if_neg h32] at h
          exact absurd rfl h
end Go.Proofs.YtiopcifglfocpaaDoor.X
