/- Chapter 23, arguments: a slice of items and an item, handed to a law, read as lists and numbers. Conditions: the given form's own (what can be read, and the reach). -/
import Derived.Test.YtiopcifglfocpaaDoorW23y
import Derived.Deep.Slices
import Derived.Deep.Fields
import Derived.ChangeSame
import Derived.OpenShut
import Derived.SizedLaws
import Derived.Lib.SmallJoins
import Derived.Carry
namespace Go.Proofs.YtiopcifglfocpaaDoor.X
open Go.RowKit Go.ChangeShapes Go.WideShapes Go.Deep Go.Joins
theorem weights_all {H : Type} {P : Program} {e : TypeId} {n : Nat} : ∀ {ds : List (DataW H)} {d : DataW H}, d ∈ ds → n ∈ d.weights P e → n ∈ DataW.weightsAll P e ds
  | [], d, h, _ => by simp at h
  | x :: r, d, h, hn => by
    rw [DataW.weightsAll, List.mem_append]
    rcases List.mem_cons.1 h with rfl | h
    · exact .inl hn
    · exact .inr (weights_all h hn)
theorem laidOut : laidOutB Tryd.prog = true := by kernel_rfl
section
variable {H : Type} {enc : TypeId × Value → H} {W : World} {base : Nat}
theorem item_parts {fuel : Nat} {cs : List Value} {x : DataW H × List MemPlace} {sp : Nat → Bool} (h : DataW.trod enc Tryd.prog W 0 sp true fuel 32 cs = some x) :
    ∃ (k n : Int) (t : ByteArray), cs = [.int .i64 k, .int .i64 n, .string t] ∧ x.1 = .agg [.lit (.int .i64 k), .lit (.int .i64 n), .lit (.string t.data.toList)] ∧ t.size ≤ maxLen := by
  obtain ⟨ys, n', hn', hx, hlen, hyl, hf⟩ := DataW.trod_struct Tryd.underlying32 h
  rw [show Tryd.prog.cellsOf 32 = 3 by kernel_rfl] at hlen
  match cs, hlen with
  | [c0, c1, c2], _ =>
    match ys, hyl with
    | [y0, y1, y2], _ =>
      have e0 : DataW.trod enc Tryd.prog W 0 sp true n' 3 (([c0, c1, c2].drop 0).take (Tryd.prog.cellsOf 3)) = some y0 := hf 0 _ rfl
      have e1 : DataW.trod enc Tryd.prog W 0 sp true n' 3 (([c0, c1, c2].drop 1).take (Tryd.prog.cellsOf 3)) = some y1 := hf 1 _ rfl
      have e2 : DataW.trod enc Tryd.prog W 0 sp true n' 9 (([c0, c1, c2].drop 2).take (Tryd.prog.cellsOf 9)) = some y2 := hf 2 _ rfl
      rw [show Tryd.prog.cellsOf 3 = 1 by kernel_rfl] at e0 e1
      rw [show Tryd.prog.cellsOf 9 = 1 by kernel_rfl] at e2
      obtain ⟨k, h0, x0, _⟩ := DataW.trod_int Tryd.underlying3 (show DataW.trod enc Tryd.prog W 0 sp true n' 3 [c0] = some y0 from e0)
      obtain ⟨n, h1, x1, _⟩ := DataW.trod_int Tryd.underlying3 (show DataW.trod enc Tryd.prog W 0 sp true n' 3 [c1] = some y1 from e1)
      obtain ⟨t, h2, x2, ht⟩ := DataW.trod_string Tryd.underlying9 (show DataW.trod enc Tryd.prog W 0 sp true n' 9 [c2] = some y2 from e2)
      cases h0; cases h1; cases h2
      subst x0; subst x1; subst x2
      exact ⟨k, n, t, rfl, by rw [hx]; rfl, ht⟩
theorem open_item {v : Value} {d : DataW H} {p : List MemPlace} {sp : Nat → Bool} (hv : Value.okWide Tryd.prog W .any base 32 v) (g : DataW.Trod enc Tryd.prog W 0 sp true 32 v d p) :
    ∃ (k n : Int) (t : ByteArray), v = .agg #[.int .i64 k, .int .i64 n, .string t] ∧ t.size ≤ maxLen := by
  obtain ⟨cs, rfl, _⟩ := okWide_struct Tryd.underlying32 hv
  obtain ⟨fuel, hf⟩ := g
  obtain ⟨k, n, t, h, _, ht⟩ := item_parts hf
  refine ⟨k, n, t, ?_, ht⟩
  rw [← Array.toArray_toList (xs := cs), show cs.toList = _ from h]
theorem open_items {v : Value} {d : DataW H} {p : List MemPlace} {ts : List TypeId} {ds : List (DataW H)} (hv : Value.okWide Tryd.prog W .any base 22 v) (g : DataW.Trod enc Tryd.prog W 0 (fun _ => true) true 22 v d p)
    (hz : (DataW.weightsEach Tryd.prog (22 :: ts) (d :: ds)).all (· ≤ reachBytes) = true) :
    ∃ l : List Itm, ReadsL v l W ∧ l.length ≤ 140737488355328 ∧ ∀ x ∈ l, x.2.2.size ≤ 140737488355328 := by
  obtain ⟨a0, len0, cap0, rfl⟩ := okWide_slice Tryd.underlying22 hv
  obtain ⟨fuel, hf⟩ := g
  rcases open_slice Tryd.underlying22 hf with ⟨hcs, hx⟩ | ⟨a, len, cap, m, n, D, Pl, hcs, hb, hl, hm, hmm, hx, hi⟩
  · have e : Value.slice a0 len0 cap0 = .slice none 0 0 := by simpa [Value.cells] using hcs
    rw [e]
    exact ⟨[], ⟨none, 0, rfl, fun j hj => by simp at hj⟩, by simp, fun x hx => by simp at hx⟩
  · have e : Value.slice a0 len0 cap0 = .slice (some a) len cap := by simpa [Value.cells] using hcs
    rw [e]
    rw [if_pos rfl] at hmm
    subst hmm
    have hall : ∀ i : Nat, ∃ x : Itm, i < len → (W.cell? (a.add (i * 3)) = some (.int .i64 x.1) ∧ W.cell? ((a.add (i * 3)).add 1) = some (.int .i64 x.2.1) ∧ W.cell? ((a.add (i * 3)).add 2) = some (.string x.2.2)) ∧ D i = .agg [.lit (.int .i64 x.1), .lit (.int .i64 x.2.1), .lit (.string x.2.2.data.toList)] := by
      intro i
      by_cases h : i < len
      · obtain ⟨cs', hc, ht⟩ := hi i (by omega)
        rw [show Tryd.prog.cellsOf 32 = 3 by kernel_rfl] at hc
        obtain ⟨_, _, hat⟩ := World.cells?_some hc
        obtain ⟨k, n, t, rfl, hd, _⟩ := item_parts ht
        refine ⟨(k, n, t), fun _ => ⟨⟨?_, ?_, ?_⟩, hd⟩⟩
        · have := hat 0 (by omega)
          rw [show (a.add (i * 3)).add 0 = a.add (i * 3) by simp [Addr.add]] at this
          exact this
        · exact hat 1 (by omega)
        · exact hat 2 (by omega)
      · exact ⟨(0, 0, ⟨#[]⟩), fun h' => absurd h' h⟩
    obtain ⟨f, hf'⟩ := Classical.axiomOfChoice hall
    have hlen : ((List.range len).map f).length = len := by simp
    have hget : ∀ i (h : i < ((List.range len).map f).length), ((List.range len).map f)[i] = f i := by intro i h; simp
    have hd : d = .slice ((List.range len).map D) ((List.range (m - len)).map fun j => D (len + j)) := congrArg Prod.fst hx
    refine ⟨(List.range len).map f, ⟨some a, m, by rw [hlen], ?_⟩, ?_, ?_⟩
    · intro j hj
      rw [hlen] at hj
      have hpos : 0 < len := by omega
      obtain ⟨b, o, sp⟩ := a
      have hsp : sp = none := by
        have := ((hf' 0) hpos).1.1
        simpa [Addr.add] using World.cell?_spot this
      subst hsp
      refine ⟨b, o, rfl, ?_⟩
      have hi3 : j / 3 < len := by omega
      obtain ⟨⟨h0, h1, h2⟩, _⟩ := hf' (j / 3) hi3
      obtain ⟨x0, x1, x2⟩ := itsC_at ((List.range len).map f) (j / 3) (by rw [hlen]; exact hi3)
      rw [hget] at x0 x1 x2
      have ha : ∀ q r : Nat, ((⟨b, o, none⟩ : Addr).add q).add r = ⟨b, o + (q + r), none⟩ := by
        intro q r
        unfold Addr.add
        split <;> split <;> simp_all <;> omega
      have ha0 : (⟨b, o, none⟩ : Addr).add (j / 3 * 3) = ⟨b, o + (j / 3 * 3), none⟩ := by
        unfold Addr.add; split <;> simp_all
      rw [ha0] at h0
      rw [ha] at h1 h2
      have hr : j = j / 3 * 3 ∨ j = j / 3 * 3 + 1 ∨ j = j / 3 * 3 + 2 := by omega
      rcases hr with hr | hr | hr
      · have e0 : W.cell? ⟨b, o + j / 3 * 3, none⟩ = (itsC ((List.range len).map f))[j / 3 * 3]? := h0.trans x0.symm
        exact hr ▸ e0
      · rw [hr, x1, h1]
      · rw [hr, x2, h2]
    · rw [hlen]
      have := sized_slice hz (j := 0) rfl (show (d :: ds)[0]? = some (.slice ((List.range len).map D) ((List.range (m - len)).map fun j => D (len + j))) by rw [hd]; rfl) Tryd.underlying22
      rw [show Tryd.prog.bytesOf 32 = 32 by kernel_rfl] at this
      simp only [List.length_map, List.length_range] at this
      have h2 := reachBytes_lt
      omega
    · intro x hx'
      obtain ⟨i, hi', rfl⟩ := List.mem_map.1 hx'
      have hil : i < len := List.mem_range.1 hi'
      have hDi := (hf' i hil).2
      have hw : (f i).2.2.data.toList.length ∈ d.weights Tryd.prog 22 := by
        rw [hd]
        unfold DataW.weights
        rw [Tryd.underlying22]
        refine List.mem_cons_of_mem _ (List.mem_append_left _ (weights_all (d := D i) (List.mem_map.2 ⟨i, hi', rfl⟩) ?_))
        rw [hDi]
        unfold DataW.weights
        rw [Tryd.underlying32]
        simp [DataW.weightsEach, DataW.weights]
      have := List.all_eq_true.1 hz _ (DataW.weights_mem_each (j := 0) rfl rfl _ hw)
      have h2 := reachBytes_lt
      have h3 := len_list (f i).2.2
      simp only [decide_eq_true_eq] at this
      omega
end
end Go.Proofs.YtiopcifglfocpaaDoor.X
