/- What is proved: a part of the proof of the tied card of StoreNil (text Key of it). Conditions: those that its theorems name. -/
import Derived.Test.YtifoacdfdcdpmaaGreatDoorAbs1
import Derived.Lib.Bytealg
namespace Go.Abs
def escX : List AV → Option AV
  | [x] => some x
  | _ => none
def cmpX : List AV → Option AV
  | [.str a, .str b] => some (.int .i64 (Lib.compareBytes a b))
  | _ => none
end Go.Abs
