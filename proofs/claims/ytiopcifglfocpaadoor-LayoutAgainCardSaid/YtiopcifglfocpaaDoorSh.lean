/- strings.Builder's WriteString in this program: laid over the kit's contract (any builder that the call has made, its buffer's head frozen or not): behind it the builder holds what it held and the text. Condition: not beyond what a slice may be. -/
import Derived.Test.YtiopcifglfocpaaDoorShelf
namespace Go.Proofs.YtiopcifglfocpaaDoor.X
open Go.RowKit
def ren166 : Go.Shelf.Ren := ⟨fun | 166 => 43 | n => Tryd.lays165_ren.f n, fun | 75 => 67 | 80 => 71 | n => Tryd.lays165_ren.t n, Tryd.lays165_ren.g⟩
theorem laysWS : Go.Proofs.Lays.n166 Tryd.prog ren166 := { Tryd.lays165 with
  f166 := Tryd.func43.trans (congrArg some (by kernel_rfl))
  f240 := Tryd.func48.trans (congrArg some (by kernel_rfl))
  f276 := Tryd.func50.trans (congrArg some (by kernel_rfl))
  t75 := Tryd.underlying67
  a75 := Tryd.isAgg67
  z75 := Tryd.sizeOf67
  v75 := Tryd.zeroValue67 }
theorem extraWS : Builder.Extra Tryd.prog ren166 := { Tryd.Builder_Extra_165 with }
theorem writeString (B b : Nat) (bs : List Value) (s : ByteArray) (w : World) (h : Lib.IsBuilderF 65 5 B b bs w) (hlen : bs.length + s.size ≤ 140737488355328) (hBw : B ≤ w.heap.size) :
    Calls Tryd.prog 43 #[.pointer (some ⟨b, 0, none⟩), .string s] w fun e w' => e = .returned (.tuple #[.int .i64 s.size, .nilIface]) ∧ (Lib.BuilderAtF 65 5 B b (.pointer (some ⟨b, 0, none⟩)) (bs ++ Lib.strCells s) w' ∧ Below B w w' ∧ Lib.OthersKept 5 (some b) w w') :=
  Any.Builder_WriteString_k laysWS extraWS B b bs s w h hlen hBw
end Go.Proofs.YtiopcifglfocpaaDoor.X
