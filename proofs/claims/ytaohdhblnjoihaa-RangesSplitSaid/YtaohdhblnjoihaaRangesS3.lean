/-
  The law RangesSplit: every case.
-/
import Derived.Test.YtaohdhblnjoihaaRangesS2
namespace Go.Proofs.Ytaohdhblnjoihaa
open Go.RowKit
theorem split_any (A : Option Addr) (c : Nat) (xs : List Rg) (x : Rg) (t : Int) (w : World) (hA : Rd (fun b => b < w.heap.size) w 3 Rg.cs A xs) (hl : xs.length ≤ maxLen) (hf : ∀ y ∈ xs, FitR y) (hx : FitR x) (ht : -2147483648 ≤ t ∧ t ≤ 2147483647) :
    Calls Try.prog 3 #[.slice A xs.length c, x.val, .int .i32 t] w fun e w' => e = .returned (.bool true) ∧ Mod (fun _ => False) w w' := by
  by_cases hs : SplitOk xs.length x t
  · by_cases he : errR xs = 0
    · by_cases h1 : errR (mapR xs ++ [x]) = 0
      · exact split_ok A c xs x t w hA hf hx hs he h1
      · exact split_more A c xs x t w hA hf hx hs he h1
    · exact split_err A c xs x t w hA hf hs he
  · exact split_not A c xs.length x t w hl hx ht hs
end Go.Proofs.Ytaohdhblnjoihaa
