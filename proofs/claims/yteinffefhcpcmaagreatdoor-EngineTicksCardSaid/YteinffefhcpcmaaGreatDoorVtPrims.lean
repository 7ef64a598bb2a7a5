/- The calls that are not run step by step, by number. -/
import Derived.Test.YteinffefhcpcmaaGreatDoorVtTab
namespace Go.Am.Tab
open Go.Am

def prim : Prim := fun f =>
  cond (Nat.beq f 40) (some fun call => xdefer 100000 20 l40 r40 7 k40 e40 90 a90 call) (cond (Nat.beq f 61) (some fun _ => xbuckets) (cond (Nat.beq f 186) (some fun _ => xupto) (cond (Nat.beq f 191) (some fun _ => xjoin) none)))

def isTrue : Option (List (AVal × Hp × Nat)) → Bool
  | some [(.bool true, _, _)] => true
  | _ => false

end Go.Am.Tab
