/- SkipTogether walked to its end. -/
import Derived.Test.YtpckpgdkfimapaaDoorLawTog10
import Derived.Test.YtpckpgdkfimapaaDoorSkipTogW
import Derived.Test.YtpckpgdkfimapaaDoorSkipFits
namespace Go.Proofs.YtpckpgdkfimapaaDoor
open Go Go.RowKit

theorem together10_all {w0 : World} {a : Nat → SAsk} (hT : TabAt w0) {pa pp : Option Addr} {na ca np cp : Nat} {z : Nat → Int} (hA : AskIn w0 pa na a) (hZ : InRow w0 pp np z) (hzr : ∀ i, i < np → -9223372036854775808 ≤ z i ∧ z i < 9223372036854775808) (ha : na ≤ ca) (ha2 : ca ≤ maxLen) (hp : np ≤ cp) (hp2 : cp ≤ maxLen) :
    Calls Tryd.prog 3 #[.slice pa na ca, .slice pp np cp] w0 fun e w' => e = .returned (.bool true) ∧ Kept [] w0 w' :=
  together10_law hT hA hZ hzr ha ha2 hp hp2 (fun _ _ _ _ _ hX hN hP h1 h2 h3 => together_walk hT hX hN hP h1 h2 h3) (fun _ _ _ _ _ _ _ _ _ _ _ hX F hK hN _ hi hk => fits_walk hX F hK hN hi hk)
end Go.Proofs.YtpckpgdkfimapaaDoor
