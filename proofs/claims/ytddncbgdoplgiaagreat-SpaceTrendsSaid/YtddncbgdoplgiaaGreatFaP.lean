import Derived.Test.YtddncbgdoplgiaaGreatRows
import Derived.JoinedOf
namespace Go.Proofs.YtddncbgdoplgiaaGreat
open Go
set_option maxRecDepth 100000
def initN : List Nat := [104, 97, 114, 110, 101, 115, 115, 32, 49, 56, 98, 101, 97, 49, 56, 52, 57, 51, 100, 53, 55, 100, 101, 102, 48, 98, 53, 54, 101, 57, 52, 100, 98, 101, 57, 55, 53, 52, 97, 53, 53, 99, 54, 52, 97, 101, 99, 98, 49, 101, 51, 56, 56, 98, 54, 97, 49, 99, 49, 54, 51, 98, 53, 55, 54, 102, 57, 99, 54, 52, 49, 54, 32, 99, 117, 116, 32, 97, 116, 32, 100, 111, 114, 109, 111, 117, 115, 101, 47, 100, 111, 114, 109, 111, 117, 115, 101, 108, 97, 119, 50, 56, 46, 75, 101, 101, 112, 70, 117, 108, 108, 32, 100, 111, 114, 109, 111, 117, 115, 101, 47, 100, 111, 114, 109, 111, 117, 115, 101, 108, 97, 119, 50, 56, 46, 75, 101, 101, 112, 78, 111, 110, 101, 32, 100, 111, 114, 109, 111, 117, 115, 101, 47, 100, 111, 114, 109, 111, 117, 115, 101, 108, 97, 119, 50, 57, 46, 83, 112, 97, 99, 101, 77, 97, 107, 101, 115, 32, 100, 111, 114, 109, 111, 117, 115, 101, 47, 100, 111, 114, 109, 111, 117, 115, 101, 108, 97, 119, 50, 57, 46, 83, 112, 97, 99, 101, 84, 114, 101, 110, 100, 115, 32, 100, 111, 114, 109, 111, 117, 115, 101, 47, 100, 111, 114, 109, 111, 117, 115, 101, 108, 97, 119, 50, 56, 46, 75, 101, 101, 112, 68, 111, 101, 115, 32, 100, 111, 114, 109, 111, 117, 115, 101, 47, 100, 111, 114, 109, 111, 117, 115, 101, 108, 97, 119, 51, 50, 46, 83, 116, 97, 116, 101, 82, 111, 111, 116, 115, 32, 100, 111, 114, 109, 111, 117, 115, 101, 47, 100, 111, 114, 109, 111, 117, 115, 101, 108, 97, 119, 50, 57, 46, 83, 112, 97, 99, 101, 70, 105, 116, 115, 32, 100, 111, 114, 109, 111, 117, 115, 101, 47, 100, 111, 114, 109, 111, 117, 115, 101, 108, 97, 119, 52, 50, 46, 65, 117, 100, 105, 116, 76, 111, 111, 107, 115, 32, 100, 111, 114, 109, 111, 117, 115, 101, 47, 100, 111, 114, 109, 111, 117, 115, 101, 108, 97, 119, 52, 50, 46, 65, 117, 100, 105, 116, 87, 101, 108, 108, 32, 100, 111, 114, 109, 111, 117, 115, 101, 47, 100, 111, 114, 109, 111, 117, 115, 101, 108, 97, 119, 49, 56, 46, 67, 104, 97, 105, 110, 76, 97, 115, 116, 32, 100, 111, 114, 109, 111, 117, 115, 101, 47, 100, 111, 114, 109, 111, 117, 115, 101, 108, 97, 119, 49, 56, 46, 67, 104, 97, 105, 110, 87, 105, 116, 110, 101, 115, 115, 32, 100, 111, 114, 109, 111, 117, 115, 101, 47, 100, 111, 114, 109, 111, 117, 115, 101, 108, 97, 119, 49, 56, 46, 67, 104, 97, 105, 110, 75, 101, 121, 115, 32, 100, 111, 114, 109, 111, 117, 115, 101, 47, 100, 111, 114, 109, 111, 117, 115, 101, 108, 97, 119, 49, 56, 46, 67, 104, 97, 105, 110, 68, 114, 111, 112, 112, 101, 100, 32, 100, 111, 114, 109, 111, 117, 115, 101, 47, 100, 111, 114, 109, 111, 117, 115, 101, 108, 97, 119, 51, 50, 46, 83, 116, 97, 116, 101, 68, 111, 101, 115, 32, 100, 111, 114, 109, 111, 117, 115, 101, 47, 100, 111, 114, 109, 111, 117, 115, 101, 108, 97, 119, 51, 51, 46, 65, 114, 99, 104, 105, 118, 101, 68, 111, 101, 115, 32, 100, 111, 114, 109, 111, 117, 115, 101, 47, 100, 111, 114, 109, 111, 117, 115, 101, 108, 97, 119, 51, 51, 46, 65, 114, 99, 104, 105, 118, 101, 66, 111, 100, 105, 101, 115, 32, 100, 111, 114, 109, 111, 117, 115, 101, 47, 100, 111, 114, 109, 111, 117, 115, 101, 108, 97, 119, 51, 54, 46, 73, 100, 101, 97, 108, 83, 116, 97, 116, 101, 32, 100, 111, 114, 109, 111, 117, 115, 101, 47, 100, 111, 114, 109, 111, 117, 115, 101, 108, 97, 119, 51, 51, 46, 65, 114, 99, 104, 105, 118, 101, 83, 101, 114, 118, 101, 115, 32, 100, 111, 114, 109, 111, 117, 115, 101, 47, 100, 111, 114, 109, 111, 117, 115, 101, 108, 97, 119, 51, 52, 46, 83, 116, 111, 114, 101, 70, 117, 108, 108, 32, 100, 111, 114, 109, 111, 117, 115, 101, 47, 100, 111, 114, 109, 111, 117, 115, 101, 108, 97, 119, 51, 52, 46, 83, 116, 111, 114, 101, 68, 111, 119, 110, 32, 100, 111, 114, 109, 111, 117, 115, 101, 47, 100, 111, 114, 109, 111, 117, 115, 101, 108, 97, 119, 51, 52, 46, 83, 116, 111, 114, 101, 68, 111, 101, 115]
def headN : List (List Nat) := [[97, 116], [100, 111, 114, 109, 111, 117, 115, 101, 47, 100, 111, 114, 109, 111, 117, 115, 101, 108, 97, 119, 50, 56, 46, 75, 101, 101, 112, 70, 117, 108, 108], [100, 111, 114, 109, 111, 117, 115, 101, 47, 100, 111, 114, 109, 111, 117, 115, 101, 108, 97, 119, 50, 56, 46, 75, 101, 101, 112, 78, 111, 110, 101], [100, 111, 114, 109, 111, 117, 115, 101, 47, 100, 111, 114, 109, 111, 117, 115, 101, 108, 97, 119, 50, 57, 46, 83, 112, 97, 99, 101, 77, 97, 107, 101, 115], [100, 111, 114, 109, 111, 117, 115, 101, 47, 100, 111, 114, 109, 111, 117, 115, 101, 108, 97, 119, 50, 57, 46, 83, 112, 97, 99, 101, 84, 114, 101, 110, 100, 115], [100, 111, 114, 109, 111, 117, 115, 101, 47, 100, 111, 114, 109, 111, 117, 115, 101, 108, 97, 119, 50, 56, 46, 75, 101, 101, 112, 68, 111, 101, 115], [100, 111, 114, 109, 111, 117, 115, 101, 47, 100, 111, 114, 109, 111, 117, 115, 101, 108, 97, 119, 51, 50, 46, 83, 116, 97, 116, 101, 82, 111, 111, 116, 115], [100, 111, 114, 109, 111, 117, 115, 101, 47, 100, 111, 114, 109, 111, 117, 115, 101, 108, 97, 119, 50, 57, 46, 83, 112, 97, 99, 101, 70, 105, 116, 115], [100, 111, 114, 109, 111, 117, 115, 101, 47, 100, 111, 114, 109, 111, 117, 115, 101, 108, 97, 119, 52, 50, 46, 65, 117, 100, 105, 116, 76, 111, 111, 107, 115], [100, 111, 114, 109, 111, 117, 115, 101, 47, 100, 111, 114, 109, 111, 117, 115, 101, 108, 97, 119, 52, 50, 46, 65, 117, 100, 105, 116, 87, 101, 108, 108], [100, 111, 114, 109, 111, 117, 115, 101, 47, 100, 111, 114, 109, 111, 117, 115, 101, 108, 97, 119, 49, 56, 46, 67, 104, 97, 105, 110, 76, 97, 115, 116], [100, 111, 114, 109, 111, 117, 115, 101, 47, 100, 111, 114, 109, 111, 117, 115, 101, 108, 97, 119, 49, 56, 46, 67, 104, 97, 105, 110, 87, 105, 116, 110, 101, 115, 115], [100, 111, 114, 109, 111, 117, 115, 101, 47, 100, 111, 114, 109, 111, 117, 115, 101, 108, 97, 119, 49, 56, 46, 67, 104, 97, 105, 110, 75, 101, 121, 115], [100, 111, 114, 109, 111, 117, 115, 101, 47, 100, 111, 114, 109, 111, 117, 115, 101, 108, 97, 119, 49, 56, 46, 67, 104, 97, 105, 110, 68, 114, 111, 112, 112, 101, 100], [100, 111, 114, 109, 111, 117, 115, 101, 47, 100, 111, 114, 109, 111, 117, 115, 101, 108, 97, 119, 51, 50, 46, 83, 116, 97, 116, 101, 68, 111, 101, 115], [100, 111, 114, 109, 111, 117, 115, 101, 47, 100, 111, 114, 109, 111, 117, 115, 101, 108, 97, 119, 51, 51, 46, 65, 114, 99, 104, 105, 118, 101, 68, 111, 101, 115], [100, 111, 114, 109, 111, 117, 115, 101, 47, 100, 111, 114, 109, 111, 117, 115, 101, 108, 97, 119, 51, 51, 46, 65, 114, 99, 104, 105, 118, 101, 66, 111, 100, 105, 101, 115], [100, 111, 114, 109, 111, 117, 115, 101, 47, 100, 111, 114, 109, 111, 117, 115, 101, 108, 97, 119, 51, 54, 46, 73, 100, 101, 97, 108, 83, 116, 97, 116, 101], [100, 111, 114, 109, 111, 117, 115, 101, 47, 100, 111, 114, 109, 111, 117, 115, 101, 108, 97, 119, 51, 51, 46, 65, 114, 99, 104, 105, 118, 101, 83, 101, 114, 118, 101, 115], [100, 111, 114, 109, 111, 117, 115, 101, 47, 100, 111, 114, 109, 111, 117, 115, 101, 108, 97, 119, 51, 52, 46, 83, 116, 111, 114, 101, 70, 117, 108, 108], [100, 111, 114, 109, 111, 117, 115, 101, 47, 100, 111, 114, 109, 111, 117, 115, 101, 108, 97, 119, 51, 52, 46, 83, 116, 111, 114, 101, 68, 111, 119, 110], [100, 111, 114, 109, 111, 117, 115, 101, 47, 100, 111, 114, 109, 111, 117, 115, 101, 108, 97, 119, 51, 52, 46, 83, 116, 111, 114, 101, 68, 111, 101, 115]]
def headT : List (List Char) := headN.map fun l => l.map Char.ofNat
theorem hw0 : Tryz.checked.prog.initOrder = String.ofList (initN.map Char.ofNat) := by kernel_rfl
theorem hw1' : behindMainWord (wordsSigns (initN.map Char.ofNat)) = "cut".toList :: headT := by kernel_rfl
theorem hw1 : behindMainWord (wordsSigns Tryz.checked.prog.initOrder.toList) = "cut".toList :: headT := by
  rw [hw0, String.toList_ofList]; exact hw1'
theorem hw2 : Tryz.checked.prog.laysLater = false := by kernel_rfl
theorem hw3 : Tryz.checked.prog.bearsReflect = false := by kernel_rfl
theorem hw4 : Tryz.checked.prog.doorRows = [] := by kernel_rfl
theorem hw5 : stripLifts liftWords ("cut".toList :: headT) = ([], "cut".toList :: headT) := by kernel_rfl
def enterOf (l : List (List Char)) (later refl : Bool) (door : List String → Bool) : Bool :=
  match l with
  | c :: rest =>
    ((c == "gc".toList || c == "spec".toList) && (rest.isEmpty || rest.head? == some "stop".toList)) ||
    (c == "carried".toList && rest.take 2 == ["gc".toList, "cut".toList] && !later && !refl) ||
    ((stripLifts liftWords (c :: rest)).2.head? == some "cut".toList &&
      ((stripLifts liftWords (c :: rest)).1.contains "finals" || !later) && ((stripLifts liftWords (c :: rest)).1.contains "reflectrows" || !refl) &&
      ((stripLifts liftWords (c :: rest)).1.contains "reflectrows" || !(stripLifts liftWords (c :: rest)).1.contains "leanrows") &&
      door (stripLifts liftWords (c :: rest)).1)
  | [] => false
theorem enterOf_eq (P : Program) : P.mayEnter = enterOf (behindMainWord (wordsSigns P.initOrder.toList)) P.laysLater P.bearsReflect P.doorFits := rfl
theorem enter0 (t : List (List Char)) (d : List String → Bool) (hs : stripLifts liftWords ("cut".toList :: t) = ([], "cut".toList :: t)) (hd : d [] = true) :
    enterOf ("cut".toList :: t) false false d = true := by
  unfold enterOf
  simp only []
  rw [hs, Bool.or_eq_true]
  right
  simp only [hd, List.head?_cons, beq_self_eq_true, Bool.not_false, Bool.or_true, Bool.and_true, Bool.true_and, List.contains_nil, Bool.not_false, Bool.false_or]
theorem door0 (P : Program) (h : P.doorRows = []) : P.doorFits [] = true := by
  unfold Program.doorFits
  rw [h]; rfl
theorem hw6 : Tryz.checked.prog.mayEnter = true := by
  rw [enterOf_eq, hw1, hw2, hw3]; exact enter0 headT _ hw5 (door0 _ hw4)
theorem and_t {a b : Bool} (h : a = true) (k : b = true) : (a && b) = true := by rw [h, k]; rfl
def makeOf (l : List (List Char)) (hl : List String) : Option Make :=
  match l with
  | c :: rest => if c == "gc".toList || c == "spec".toList then some .whole else if c == "cut".toList || (c == "finals".toList && rest.head? == some "cut".toList) then some .cut else if c == "carried".toList then some .carried else if hl.isEmpty then none else some (.lifted hl)
  | [] => none
theorem makeOf_eq (P : Program) : P.make = makeOf (behindMainWord (wordsSigns P.initOrder.toList)) P.headLifts := rfl
theorem mk0 (t : List (List Char)) (hl : List String) : makeOf ("cut".toList :: t) hl = some .cut := by
  simp [makeOf]
theorem hw7 : Tryz.checked.prog.make = some .cut := by
  rw [makeOf_eq, hw1]; exact mk0 headT _
def liftsOf (l : List (List Char)) : List String :=
  let r := stripLifts liftWords l
  if r.2.head? == some "cut".toList then r.1 else []
theorem liftsOf_eq (P : Program) : P.headLifts = liftsOf (behindMainWord (wordsSigns P.initOrder.toList)) := rfl
theorem hw8 : Tryz.checked.prog.headLifts = [] := by
  rw [liftsOf_eq, hw1]; unfold liftsOf; rw [hw5]; rfl
def finOf (ws : List (List Char)) (hl : List String) : Bool :=
  (ws.head? == some "carried".toList && ws.take 3 != ["carried".toList, "gc".toList, "cut".toList]) || hl.contains "finals"
theorem finOf_eq (P : Program) : P.liftsFinal = finOf (behindMainWord (wordsSigns P.initOrder.toList)) P.headLifts := rfl
theorem fin0 (t : List (List Char)) : finOf ("cut".toList :: t) [] = false := by simp [finOf]
theorem hw9 : Tryz.checked.prog.liftsFinal = false := by
  rw [finOf_eq, hw1, hw8]; exact fin0 headT
theorem fP1 : laidOutB Tryz.checked.prog = true := by kernel_rfl
theorem fP2 : mapsRowed Tryz.checked.prog = true := by kernel_rfl
theorem fP6 : (Tryz.checked.prog.stops == []) = true := by kernel_rfl
theorem fP8 : (Tryz.checked.prog.stopKnobs == []) = true := by kernel_rfl
theorem fP24 : Tryz.checked.prog.stopsHeard = true := by kernel_rfl
theorem fP25 : Tryz.checked.prog.mayEnter = true := hw6
end Go.Proofs.YtddncbgdoplgiaaGreat
