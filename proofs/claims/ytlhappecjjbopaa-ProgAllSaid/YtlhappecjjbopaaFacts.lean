/-
  Facts of this seat's program that every row asks, each proved once. No condition.
-/
import Derived.Test.YtlhappecjjbopaaRows
import Derived.WalkKit
import Derived.ProofKit
import Derived.JoinedOf
namespace Go.Proofs.Ytlhappecjjbopaa
namespace Facts
def signs : List Char := ([104, 97, 114, 110, 101, 115, 115, 32, 99, 55, 56, 57, 57, 101, 101, 49, 57, 57, 97, 97, 53, 100, 100, 54, 52, 99, 52, 101, 53, 102, 51, 57, 55, 55, 53, 54, 54, 98, 102, 57, 102, 56, 57, 57, 52, 48, 99, 57, 49, 50, 53, 49, 51, 100, 101, 99, 54, 56, 55, 48, 55, 52, 48, 52, 101, 48, 51, 98, 51, 54, 100, 100, 32, 99, 117, 116, 32, 97, 116, 32, 98, 117, 114, 110, 105, 115, 104, 47, 98, 117, 114, 110, 105, 115, 104, 108, 97, 119, 50, 49, 46, 83, 99, 97, 110, 67, 111, 117, 110, 116, 115, 32, 98, 117, 114, 110, 105, 115, 104, 47, 98, 117, 114, 110, 105, 115, 104, 108, 97, 119, 50, 50, 46, 80, 114, 111, 103, 66, 105, 116, 115, 32, 98, 117, 114, 110, 105, 115, 104, 47, 98, 117, 114, 110, 105, 115, 104, 108, 97, 119, 50, 49, 46, 83, 99, 97, 110, 79, 114, 100, 101, 114, 32, 98, 117, 114, 110, 105, 115, 104, 47, 98, 117, 114, 110, 105, 115, 104, 108, 97, 119, 48, 52, 46, 67, 97, 110, 111, 110, 67, 111, 100, 101, 115, 32, 98, 117, 114, 110, 105, 115, 104, 47, 98, 117, 114, 110, 105, 115, 104, 108, 97, 119, 48, 52, 46, 67, 97, 110, 111, 110, 80, 114, 101, 102, 105, 120, 32, 98, 117, 114, 110, 105, 115, 104, 47, 98, 117, 114, 110, 105, 115, 104, 108, 97, 119, 50, 49, 46, 83, 99, 97, 110, 78, 117, 109, 98, 101, 114, 115, 32, 98, 117, 114, 110, 105, 115, 104, 47, 98, 117, 114, 110, 105, 115, 104, 108, 97, 119, 48, 52, 46, 67, 97, 110, 111, 110, 65, 108, 108, 32, 98, 117, 114, 110, 105, 115, 104, 47, 98, 117, 114, 110, 105, 115, 104, 108, 97, 119, 50, 49, 46, 83, 99, 97, 110, 80, 105, 101, 99, 101, 115, 32, 98, 117, 114, 110, 105, 115, 104, 47, 98, 117, 114, 110, 105, 115, 104, 108, 97, 119, 48, 52, 46, 67, 97, 110, 111, 110, 66, 105, 116, 115, 32, 98, 117, 114, 110, 105, 115, 104, 47, 98, 117, 114, 110, 105, 115, 104, 108, 97, 119, 48, 52, 46, 67, 97, 110, 111, 110, 84, 97, 98, 108, 101, 115, 32, 98, 117, 114, 110, 105, 115, 104, 47, 98, 117, 114, 110, 105, 115, 104, 108, 97, 119, 48, 52, 46, 67, 97, 110, 111, 110, 78, 111, 110, 101, 32, 98, 117, 114, 110, 105, 115, 104, 47, 98, 117, 114, 110, 105, 115, 104, 108, 97, 119, 48, 52, 46, 67, 97, 110, 111, 110, 66, 97, 99, 107, 32, 98, 117, 114, 110, 105, 115, 104, 47, 98, 117, 114, 110, 105, 115, 104, 108, 97, 119, 50, 50, 46, 80, 114, 111, 103, 87, 114, 105, 116, 101, 115, 32, 98, 117, 114, 110, 105, 115, 104, 47, 98, 117, 114, 110, 105, 115, 104, 108, 97, 119, 50, 50, 46, 80, 114, 111, 103, 75, 110, 111, 119, 110, 32, 98, 117, 114, 110, 105, 115, 104, 47, 98, 117, 114, 110, 105, 115, 104, 108, 97, 119, 50, 49, 46, 83, 99, 97, 110, 87, 114, 105, 116, 101, 115, 32, 98, 117, 114, 110, 105, 115, 104, 47, 98, 117, 114, 110, 105, 115, 104, 108, 97, 119, 50, 49, 46, 83, 99, 97, 110, 82, 101, 97, 100, 115, 32, 98, 117, 114, 110, 105, 115, 104, 47, 98, 117, 114, 110, 105, 115, 104, 108, 97, 119, 50, 49, 46, 83, 99, 97, 110, 66, 97, 99, 107, 32, 98, 117, 114, 110, 105, 115, 104, 47, 98, 117, 114, 110, 105, 115, 104, 108, 97, 119, 50, 50, 46, 80, 114, 111, 103, 68, 67, 32, 98, 117, 114, 110, 105, 115, 104, 47, 98, 117, 114, 110, 105, 115, 104, 108, 97, 119, 50, 50, 46, 80, 114, 111, 103, 68, 111, 119, 110, 32, 98, 117, 114, 110, 105, 115, 104, 47, 98, 117, 114, 110, 105, 115, 104, 108, 97, 119, 50, 50, 46, 80, 114, 111, 103, 82, 101, 97, 100, 115, 32, 98, 117, 114, 110, 105, 115, 104, 47, 98, 117, 114, 110, 105, 115, 104, 108, 97, 119, 50, 50, 46, 80, 114, 111, 103, 65, 108, 108] : List Nat).map Char.ofNat
theorem head_is : Try.prog.initOrder = String.ofList signs := by kernel_rfl
theorem head_signs : Try.prog.initOrder.toList = signs := by rw [head_is]; exact String.toList_ofList
def words : List (List Char) := ([[99, 117, 116], [97, 116], [98, 117, 114, 110, 105, 115, 104, 47, 98, 117, 114, 110, 105, 115, 104, 108, 97, 119, 50, 49, 46, 83, 99, 97, 110, 67, 111, 117, 110, 116, 115], [98, 117, 114, 110, 105, 115, 104, 47, 98, 117, 114, 110, 105, 115, 104, 108, 97, 119, 50, 50, 46, 80, 114, 111, 103, 66, 105, 116, 115], [98, 117, 114, 110, 105, 115, 104, 47, 98, 117, 114, 110, 105, 115, 104, 108, 97, 119, 50, 49, 46, 83, 99, 97, 110, 79, 114, 100, 101, 114], [98, 117, 114, 110, 105, 115, 104, 47, 98, 117, 114, 110, 105, 115, 104, 108, 97, 119, 48, 52, 46, 67, 97, 110, 111, 110, 67, 111, 100, 101, 115], [98, 117, 114, 110, 105, 115, 104, 47, 98, 117, 114, 110, 105, 115, 104, 108, 97, 119, 48, 52, 46, 67, 97, 110, 111, 110, 80, 114, 101, 102, 105, 120], [98, 117, 114, 110, 105, 115, 104, 47, 98, 117, 114, 110, 105, 115, 104, 108, 97, 119, 50, 49, 46, 83, 99, 97, 110, 78, 117, 109, 98, 101, 114, 115], [98, 117, 114, 110, 105, 115, 104, 47, 98, 117, 114, 110, 105, 115, 104, 108, 97, 119, 48, 52, 46, 67, 97, 110, 111, 110, 65, 108, 108], [98, 117, 114, 110, 105, 115, 104, 47, 98, 117, 114, 110, 105, 115, 104, 108, 97, 119, 50, 49, 46, 83, 99, 97, 110, 80, 105, 101, 99, 101, 115], [98, 117, 114, 110, 105, 115, 104, 47, 98, 117, 114, 110, 105, 115, 104, 108, 97, 119, 48, 52, 46, 67, 97, 110, 111, 110, 66, 105, 116, 115], [98, 117, 114, 110, 105, 115, 104, 47, 98, 117, 114, 110, 105, 115, 104, 108, 97, 119, 48, 52, 46, 67, 97, 110, 111, 110, 84, 97, 98, 108, 101, 115], [98, 117, 114, 110, 105, 115, 104, 47, 98, 117, 114, 110, 105, 115, 104, 108, 97, 119, 48, 52, 46, 67, 97, 110, 111, 110, 78, 111, 110, 101], [98, 117, 114, 110, 105, 115, 104, 47, 98, 117, 114, 110, 105, 115, 104, 108, 97, 119, 48, 52, 46, 67, 97, 110, 111, 110, 66, 97, 99, 107], [98, 117, 114, 110, 105, 115, 104, 47, 98, 117, 114, 110, 105, 115, 104, 108, 97, 119, 50, 50, 46, 80, 114, 111, 103, 87, 114, 105, 116, 101, 115], [98, 117, 114, 110, 105, 115, 104, 47, 98, 117, 114, 110, 105, 115, 104, 108, 97, 119, 50, 50, 46, 80, 114, 111, 103, 75, 110, 111, 119, 110], [98, 117, 114, 110, 105, 115, 104, 47, 98, 117, 114, 110, 105, 115, 104, 108, 97, 119, 50, 49, 46, 83, 99, 97, 110, 87, 114, 105, 116, 101, 115], [98, 117, 114, 110, 105, 115, 104, 47, 98, 117, 114, 110, 105, 115, 104, 108, 97, 119, 50, 49, 46, 83, 99, 97, 110, 82, 101, 97, 100, 115], [98, 117, 114, 110, 105, 115, 104, 47, 98, 117, 114, 110, 105, 115, 104, 108, 97, 119, 50, 49, 46, 83, 99, 97, 110, 66, 97, 99, 107], [98, 117, 114, 110, 105, 115, 104, 47, 98, 117, 114, 110, 105, 115, 104, 108, 97, 119, 50, 50, 46, 80, 114, 111, 103, 68, 67], [98, 117, 114, 110, 105, 115, 104, 47, 98, 117, 114, 110, 105, 115, 104, 108, 97, 119, 50, 50, 46, 80, 114, 111, 103, 68, 111, 119, 110], [98, 117, 114, 110, 105, 115, 104, 47, 98, 117, 114, 110, 105, 115, 104, 108, 97, 119, 50, 50, 46, 80, 114, 111, 103, 82, 101, 97, 100, 115], [98, 117, 114, 110, 105, 115, 104, 47, 98, 117, 114, 110, 105, 115, 104, 108, 97, 119, 50, 50, 46, 80, 114, 111, 103, 65, 108, 108]] : List (List Nat)).map fun l => l.map Char.ofNat
theorem words_is : behindMainWord (wordsSigns signs) = words := by kernel_rfl
theorem words_cons : words = "cut".toList :: words.tail := by kernel_rfl
theorem head_words : behindMainWord (wordsSigns Try.prog.initOrder.toList) = "cut".toList :: words.tail := ((congrArg (fun x => behindMainWord (wordsSigns x)) head_signs).trans words_is).trans words_cons
theorem strip : stripLifts liftWords ("cut".toList :: words.tail) = ([], "cut".toList :: words.tail) := by kernel_rfl
theorem e1 : ("cut".toList == "gc".toList) = false := by decide
theorem e2 : ("cut".toList == "spec".toList) = false := by decide
theorem e3 : ("cut".toList == "cut".toList) = true := by decide
theorem e4 : ("cut".toList == "carried".toList) = false := by decide
theorem make_of {P : Program} {rest : List (List Char)} (h : behindMainWord (wordsSigns P.initOrder.toList) = "cut".toList :: rest) : P.make = some .cut := by
  unfold Program.make
  rw [h]
  simp only [e1, e2, e3, Bool.or_self, Bool.true_or, Bool.false_eq_true, if_false, if_true]
theorem mayEnter_of {P : Program} {rest : List (List Char)} (h : behindMainWord (wordsSigns P.initOrder.toList) = "cut".toList :: rest) (hs : stripLifts liftWords ("cut".toList :: rest) = ([], "cut".toList :: rest))
    (h1 : P.laysLater = false) (h2 : P.bearsReflect = false) (h3 : P.doorFits [] = true) : P.mayEnter = true := by
  unfold Program.mayEnter
  rw [h]
  have e5 : (("cut".toList :: rest).head? == some "cut".toList) = true := e3
  simp only [e1, e2, e4, hs, h1, h2, h3, e5, List.contains_nil, Bool.not_false, Bool.or_true, Bool.and_true, Bool.false_and, Bool.or_self]
theorem liftsFinal_of {P : Program} {rest : List (List Char)} (h : behindMainWord (wordsSigns P.initOrder.toList) = "cut".toList :: rest) (hs : stripLifts liftWords ("cut".toList :: rest) = ([], "cut".toList :: rest)) : P.liftsFinal = false := by
  unfold Program.liftsFinal Program.headLifts
  rw [h]
  have e5 : (("cut".toList :: rest).head? == some "cut".toList) = true := e3
  have e6 : (("cut".toList :: rest).head? == some "carried".toList) = false := e4
  simp only [hs, e5, e6, Bool.false_and, Bool.false_or, if_true, List.contains_nil]
theorem own : ownKnob Try.prog.godebug = none := by kernel_rfl
theorem laid : laidOutB Try.prog = true := by kernel_rfl
theorem mapsRowed_ : mapsRowed Try.prog = true := by kernel_rfl
theorem stops : (Try.prog.stops == []) = true := by kernel_rfl
theorem stopKnobs : (Try.prog.stopKnobs == []) = true := by kernel_rfl
theorem plainKeys : Try.prog.plainKeys = true := by kernel_rfl
theorem stopsHeard : Try.prog.stopsHeard = true := by kernel_rfl
theorem laysLater : Try.prog.laysLater = false := by kernel_rfl
theorem bearsReflect : Try.prog.bearsReflect = false := by kernel_rfl
theorem doorFits : Try.prog.doorFits [] = true := by kernel_rfl
theorem mayEnter : Try.prog.mayEnter = true := mayEnter_of head_words strip laysLater bearsReflect doorFits
theorem liftsFinal : Try.prog.liftsFinal = false := liftsFinal_of head_words strip
theorem make : Try.prog.make = some .cut := make_of head_words
theorem and_i {a b : Bool} (ha : a = true) (hb : b = true) : (a && b) = true := by rw [ha, hb]; rfl
end Facts
end Go.Proofs.Ytlhappecjjbopaa
