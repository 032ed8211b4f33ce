/-
  Facts of this seat's program that every row asks, each proved once. No condition.
-/
import Derived.Test.YtkmgojoojboidaaRows
import Derived.WalkKit
import Derived.ProofKit
import Derived.JoinedOf
namespace Go.Proofs.Ytkmgojoojboidaa
namespace Facts
def signs : List Char := ([104, 97, 114, 110, 101, 115, 115, 32, 49, 56, 49, 98, 50, 49, 98, 99, 55, 100, 53, 50, 98, 56, 56, 100, 56, 99, 52, 53, 53, 99, 52, 54, 101, 50, 55, 53, 52, 102, 97, 49, 50, 55, 55, 98, 54, 53, 52, 53, 97, 54, 97, 53, 51, 102, 101, 102, 54, 100, 101, 99, 98, 99, 100, 100, 97, 53, 49, 98, 50, 51, 51, 102, 32, 99, 117, 116, 32, 97, 116, 32, 98, 117, 114, 110, 105, 115, 104, 47, 98, 117, 114, 110, 105, 115, 104, 108, 97, 119, 48, 51, 46, 66, 105, 116, 115, 83, 116, 117, 102, 102, 115, 32, 98, 117, 114, 110, 105, 115, 104, 47, 98, 117, 114, 110, 105, 115, 104, 108, 97, 119, 48, 51, 46, 66, 105, 116, 115, 85, 110, 115, 116, 117, 102, 102, 115, 32, 98, 117, 114, 110, 105, 115, 104, 47, 98, 117, 114, 110, 105, 115, 104, 108, 97, 119, 49, 54, 46, 83, 97, 109, 112, 108, 101, 87, 105, 100, 101, 110, 115, 32, 98, 117, 114, 110, 105, 115, 104, 47, 98, 117, 114, 110, 105, 115, 104, 108, 97, 119, 49, 54, 46, 83, 97, 109, 112, 108, 101, 68, 101, 112, 116, 104, 115, 32, 98, 117, 114, 110, 105, 115, 104, 47, 98, 117, 114, 110, 105, 115, 104, 108, 97, 119, 48, 51, 46, 66, 105, 116, 115, 87, 114, 105, 116, 101, 115, 32, 98, 117, 114, 110, 105, 115, 104, 47, 98, 117, 114, 110, 105, 115, 104, 108, 97, 119, 49, 54, 46, 83, 97, 109, 112, 108, 101, 85, 110, 112, 97, 99, 107, 115, 32, 98, 117, 114, 110, 105, 115, 104, 47, 98, 117, 114, 110, 105, 115, 104, 108, 97, 119, 48, 51, 46, 66, 105, 116, 115, 82, 101, 97, 100, 115, 32, 98, 117, 114, 110, 105, 115, 104, 47, 98, 117, 114, 110, 105, 115, 104, 108, 97, 119, 48, 51, 46, 66, 105, 116, 115, 78, 111, 110, 101, 32, 98, 117, 114, 110, 105, 115, 104, 47, 98, 117, 114, 110, 105, 115, 104, 108, 97, 119, 49, 54, 46, 83, 97, 109, 112, 108, 101, 80, 97, 99, 107, 115, 32, 98, 117, 114, 110, 105, 115, 104, 47, 98, 117, 114, 110, 105, 115, 104, 108, 97, 119, 48, 51, 46, 66, 105, 116, 115, 66, 97, 99, 107, 32, 98, 117, 114, 110, 105, 115, 104, 47, 98, 117, 114, 110, 105, 115, 104, 108, 97, 119, 49, 54, 46, 83, 97, 109, 112, 108, 101, 66, 97, 99, 107] : List Nat).map Char.ofNat
theorem head_is : Try.prog.initOrder = String.ofList signs := by kernel_rfl
theorem head_signs : Try.prog.initOrder.toList = signs := by rw [head_is]; exact String.toList_ofList
def words : List (List Char) := ([[99, 117, 116], [97, 116], [98, 117, 114, 110, 105, 115, 104, 47, 98, 117, 114, 110, 105, 115, 104, 108, 97, 119, 48, 51, 46, 66, 105, 116, 115, 83, 116, 117, 102, 102, 115], [98, 117, 114, 110, 105, 115, 104, 47, 98, 117, 114, 110, 105, 115, 104, 108, 97, 119, 48, 51, 46, 66, 105, 116, 115, 85, 110, 115, 116, 117, 102, 102, 115], [98, 117, 114, 110, 105, 115, 104, 47, 98, 117, 114, 110, 105, 115, 104, 108, 97, 119, 49, 54, 46, 83, 97, 109, 112, 108, 101, 87, 105, 100, 101, 110, 115], [98, 117, 114, 110, 105, 115, 104, 47, 98, 117, 114, 110, 105, 115, 104, 108, 97, 119, 49, 54, 46, 83, 97, 109, 112, 108, 101, 68, 101, 112, 116, 104, 115], [98, 117, 114, 110, 105, 115, 104, 47, 98, 117, 114, 110, 105, 115, 104, 108, 97, 119, 48, 51, 46, 66, 105, 116, 115, 87, 114, 105, 116, 101, 115], [98, 117, 114, 110, 105, 115, 104, 47, 98, 117, 114, 110, 105, 115, 104, 108, 97, 119, 49, 54, 46, 83, 97, 109, 112, 108, 101, 85, 110, 112, 97, 99, 107, 115], [98, 117, 114, 110, 105, 115, 104, 47, 98, 117, 114, 110, 105, 115, 104, 108, 97, 119, 48, 51, 46, 66, 105, 116, 115, 82, 101, 97, 100, 115], [98, 117, 114, 110, 105, 115, 104, 47, 98, 117, 114, 110, 105, 115, 104, 108, 97, 119, 48, 51, 46, 66, 105, 116, 115, 78, 111, 110, 101], [98, 117, 114, 110, 105, 115, 104, 47, 98, 117, 114, 110, 105, 115, 104, 108, 97, 119, 49, 54, 46, 83, 97, 109, 112, 108, 101, 80, 97, 99, 107, 115], [98, 117, 114, 110, 105, 115, 104, 47, 98, 117, 114, 110, 105, 115, 104, 108, 97, 119, 48, 51, 46, 66, 105, 116, 115, 66, 97, 99, 107], [98, 117, 114, 110, 105, 115, 104, 47, 98, 117, 114, 110, 105, 115, 104, 108, 97, 119, 49, 54, 46, 83, 97, 109, 112, 108, 101, 66, 97, 99, 107]] : List (List Nat)).map fun l => l.map Char.ofNat
theorem words_is : behindMainWord (wordsSigns signs) = words := by kernel_rfl
theorem words_cons : words = "cut".toList :: words.tail := by kernel_rfl
theorem head_words : behindMainWord (wordsSigns Try.prog.initOrder.toList) = "cut".toList :: words.tail := ((congrArg (fun x => behindMainWord (wordsSigns x)) head_signs).trans words_is).trans words_cons
theorem strip : stripLifts liftWords ("cut".toList :: words.tail) = ([], "cut".toList :: words.tail) := by kernel_rfl
theorem e1 : ("cut".toList == "gc".toList) = false := by decide
theorem e2 : ("cut".toList == "spec".toList) = false := by decide
theorem e3 : ("cut".toList == "cut".toList) = true := by decide
theorem e4 : ("cut".toList == "carried".toList) = false := by decide
theorem make_of {P : Program} {rest : List (List Char)} (h : behindMainWord (wordsSigns P.initOrder.toList) = "cut".toList :: rest) : P.make = some .cut := by
  unfold Program.make
  rw [h]
  simp only [e1, e2, e3, Bool.or_self, Bool.true_or, Bool.false_eq_true, if_false, if_true]
theorem mayEnter_of {P : Program} {rest : List (List Char)} (h : behindMainWord (wordsSigns P.initOrder.toList) = "cut".toList :: rest) (hs : stripLifts liftWords ("cut".toList :: rest) = ([], "cut".toList :: rest))
    (h1 : P.laysLater = false) (h2 : P.bearsReflect = false) (h3 : P.doorFits [] = true) : P.mayEnter = true := by
  unfold Program.mayEnter
  rw [h]
  have e5 : (("cut".toList :: rest).head? == some "cut".toList) = true := e3
  simp only [e1, e2, e4, hs, h1, h2, h3, e5, List.contains_nil, Bool.not_false, Bool.or_true, Bool.and_true, Bool.false_and, Bool.or_self]
theorem liftsFinal_of {P : Program} {rest : List (List Char)} (h : behindMainWord (wordsSigns P.initOrder.toList) = "cut".toList :: rest) (hs : stripLifts liftWords ("cut".toList :: rest) = ([], "cut".toList :: rest)) : P.liftsFinal = false := by
  unfold Program.liftsFinal Program.headLifts
  rw [h]
  have e5 : (("cut".toList :: rest).head? == some "cut".toList) = true := e3
  have e6 : (("cut".toList :: rest).head? == some "carried".toList) = false := e4
  simp only [hs, e5, e6, Bool.false_and, Bool.false_or, if_true, List.contains_nil]
theorem own : ownKnob Try.prog.godebug = none := by kernel_rfl
theorem laid : laidOutB Try.prog = true := by kernel_rfl
theorem mapsRowed_ : mapsRowed Try.prog = true := by kernel_rfl
theorem stops : (Try.prog.stops == []) = true := by kernel_rfl
theorem stopKnobs : (Try.prog.stopKnobs == []) = true := by kernel_rfl
theorem plainKeys : Try.prog.plainKeys = true := by kernel_rfl
theorem stopsHeard : Try.prog.stopsHeard = true := by kernel_rfl
theorem laysLater : Try.prog.laysLater = false := by kernel_rfl
theorem bearsReflect : Try.prog.bearsReflect = false := by kernel_rfl
theorem doorFits : Try.prog.doorFits [] = true := by kernel_rfl
theorem mayEnter : Try.prog.mayEnter = true := mayEnter_of head_words strip laysLater bearsReflect doorFits
theorem liftsFinal : Try.prog.liftsFinal = false := liftsFinal_of head_words strip
theorem make : Try.prog.make = some .cut := make_of head_words
theorem and_i {a b : Bool} (ha : a = true) (hb : b = true) : (a && b) = true := by rw [ha, hb]; rfl
end Facts
end Go.Proofs.Ytkmgojoojboidaa
