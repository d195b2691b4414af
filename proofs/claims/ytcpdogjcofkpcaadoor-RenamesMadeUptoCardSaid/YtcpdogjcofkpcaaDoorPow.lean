/-
  strconv.Itoa: a number's decimal text. Condition: strconv's table of powers holds what its initialiser lays.
-/
import Derived.Test.YtcpdogjcofkpcaaDoorB1
import Derived.Test.YtcpdogjcofkpcaaDoorShelf
import Derived.WalkSmall
import Derived.Lib.AppendIntMem
import Derived.Lib.ItoaLen
namespace Go.Proofs.YtcpdogjcofkpcaaDoor
open Go.RowKit

def Pow (w : World) : Prop := Lib.TabIs Tryd.prog w "internal/strconv.uint64pow10" .u64 Lib.pow10Tab
theorem Pow.below {w w' : World} (h : Pow w) (hb : Below w.heap.size w w') : Pow w' := by
  unfold Pow Lib.TabIs at *
  have hg : Tryd.prog.globalNamed "internal/strconv.uint64pow10" = some 1 := by kernel_rfl
  have hlt : 1 < w.heap.size := by
    unfold World.var? at h
    rw [hg] at h
    simp only [Option.bind_some] at h
    rcases Nat.lt_or_ge 1 w.heap.size with hlt | hge
    · exact hlt
    · rw [Array.getElem?_eq_none hge] at h; cases h
  exact var?_below hb hg hlt h

theorem itoa_c (n : Int) (h0 : -9223372036854775808 ≤ n) (h1 : n ≤ 9223372036854775807) (W : World) (hW : Pow W) : Calls Tryd.prog 50 #[.int .i64 n] W (Ret (.string ⟨(Lib.itoa n).toArray⟩) W) := by
  refine (Tryd.strconv_Itoa n h0 h1 W hW).mono ?_
  rintro e w' ⟨rfl, k, os, rfl⟩
  exact ⟨rfl, Lib.below_grow _ _ (Nat.le_refl _) _ _⟩
theorem Pow.below_at {B : Nat} {w w' : World} (h : Pow w) (hb : Below B w w') (hg : 1 < B) : Pow w' := by
  unfold Pow Lib.TabIs at *
  have hn : Tryd.prog.globalNamed "internal/strconv.uint64pow10" = some 1 := by kernel_rfl
  exact var?_below hb hn hg h
end Go.Proofs.YtcpdogjcofkpcaaDoor
