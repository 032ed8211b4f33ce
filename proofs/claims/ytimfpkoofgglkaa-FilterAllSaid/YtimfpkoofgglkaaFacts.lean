/-
  Facts of this seat's program that every row asks, each proved once. No condition.
-/
import Derived.Test.YtimfpkoofgglkaaRows
import Derived.WalkKit
import Derived.ProofKit
import Derived.JoinedOf
namespace Go.Proofs.Ytimfpkoofgglkaa
namespace Facts
def signs : List Char := ([104, 97, 114, 110, 101, 115, 115, 32, 48, 101, 97, 100, 57, 55, 51, 49, 52, 56, 101, 57, 101, 56, 53, 54, 54, 52, 56, 57, 98, 52, 57, 97, 51, 101, 100, 50, 101, 50, 54, 101, 56, 98, 101, 54, 49, 53, 56, 97, 49, 55, 48, 100, 52, 57, 101, 55, 56, 55, 99, 56, 49, 98, 102, 52, 100, 101, 55, 53, 57, 51, 99, 57, 32, 99, 117, 116, 32, 97, 116, 32, 98, 117, 114, 110, 105, 115, 104, 47, 98, 117, 114, 110, 105, 115, 104, 108, 97, 119, 49, 52, 46, 70, 105, 108, 116, 101, 114, 79, 102, 32, 98, 117, 114, 110, 105, 115, 104, 47, 98, 117, 114, 110, 105, 115, 104, 108, 97, 119, 49, 52, 46, 70, 105, 108, 116, 101, 114, 82, 111, 119, 115, 32, 98, 117, 114, 110, 105, 115, 104, 47, 98, 117, 114, 110, 105, 115, 104, 108, 97, 119, 49, 52, 46, 70, 105, 108, 116, 101, 114, 66, 97, 99, 107, 32, 98, 117, 114, 110, 105, 115, 104, 47, 98, 117, 114, 110, 105, 115, 104, 108, 97, 119, 49, 52, 46, 70, 105, 108, 116, 101, 114, 87, 101, 105, 103, 104, 116, 115, 32, 98, 117, 114, 110, 105, 115, 104, 47, 98, 117, 114, 110, 105, 115, 104, 108, 97, 119, 49, 52, 46, 70, 105, 108, 116, 101, 114, 82, 111, 108, 108, 115, 32, 98, 117, 114, 110, 105, 115, 104, 47, 98, 117, 114, 110, 105, 115, 104, 108, 97, 119, 49, 52, 46, 70, 105, 108, 116, 101, 114, 65, 108, 108] : List Nat).map Char.ofNat
theorem head_is : Try.prog.initOrder = String.ofList signs := by kernel_rfl
theorem head_signs : Try.prog.initOrder.toList = signs := by rw [head_is]; exact String.toList_ofList
def words : List (List Char) := ([[99, 117, 116], [97, 116], [98, 117, 114, 110, 105, 115, 104, 47, 98, 117, 114, 110, 105, 115, 104, 108, 97, 119, 49, 52, 46, 70, 105, 108, 116, 101, 114, 79, 102], [98, 117, 114, 110, 105, 115, 104, 47, 98, 117, 114, 110, 105, 115, 104, 108, 97, 119, 49, 52, 46, 70, 105, 108, 116, 101, 114, 82, 111, 119, 115], [98, 117, 114, 110, 105, 115, 104, 47, 98, 117, 114, 110, 105, 115, 104, 108, 97, 119, 49, 52, 46, 70, 105, 108, 116, 101, 114, 66, 97, 99, 107], [98, 117, 114, 110, 105, 115, 104, 47, 98, 117, 114, 110, 105, 115, 104, 108, 97, 119, 49, 52, 46, 70, 105, 108, 116, 101, 114, 87, 101, 105, 103, 104, 116, 115], [98, 117, 114, 110, 105, 115, 104, 47, 98, 117, 114, 110, 105, 115, 104, 108, 97, 119, 49, 52, 46, 70, 105, 108, 116, 101, 114, 82, 111, 108, 108, 115], [98, 117, 114, 110, 105, 115, 104, 47, 98, 117, 114, 110, 105, 115, 104, 108, 97, 119, 49, 52, 46, 70, 105, 108, 116, 101, 114, 65, 108, 108]] : List (List Nat)).map fun l => l.map Char.ofNat
theorem words_is : behindMainWord (wordsSigns signs) = words := by kernel_rfl
theorem words_cons : words = "cut".toList :: words.tail := by kernel_rfl
theorem head_words : behindMainWord (wordsSigns Try.prog.initOrder.toList) = "cut".toList :: words.tail := ((congrArg (fun x => behindMainWord (wordsSigns x)) head_signs).trans words_is).trans words_cons
theorem strip : stripLifts liftWords ("cut".toList :: words.tail) = ([], "cut".toList :: words.tail) := by kernel_rfl
theorem e1 : ("cut".toList == "gc".toList) = false := by decide
theorem e2 : ("cut".toList == "spec".toList) = false := by decide
theorem e3 : ("cut".toList == "cut".toList) = true := by decide
theorem e4 : ("cut".toList == "carried".toList) = false := by decide
theorem make_of {P : Program} {rest : List (List Char)} (h : behindMainWord (wordsSigns P.initOrder.toList) = "cut".toList :: rest) : P.make = some .cut := by
  unfold Program.make
  rw [h]
  simp only [e1, e2, e3, Bool.or_self, Bool.true_or, Bool.false_eq_true, if_false, if_true]
theorem mayEnter_of {P : Program} {rest : List (List Char)} (h : behindMainWord (wordsSigns P.initOrder.toList) = "cut".toList :: rest) (hs : stripLifts liftWords ("cut".toList :: rest) = ([], "cut".toList :: rest))
    (h1 : P.laysLater = false) (h2 : P.bearsReflect = false) (h3 : P.doorFits [] = true) : P.mayEnter = true := by
  unfold Program.mayEnter
  rw [h]
  have e5 : (("cut".toList :: rest).head? == some "cut".toList) = true := e3
  simp only [e1, e2, e4, hs, h1, h2, h3, e5, List.contains_nil, Bool.not_false, Bool.or_true, Bool.and_true, Bool.false_and, Bool.or_self]
theorem liftsFinal_of {P : Program} {rest : List (List Char)} (h : behindMainWord (wordsSigns P.initOrder.toList) = "cut".toList :: rest) (hs : stripLifts liftWords ("cut".toList :: rest) = ([], "cut".toList :: rest)) : P.liftsFinal = false := by
  unfold Program.liftsFinal Program.headLifts
  rw [h]
  have e5 : (("cut".toList :: rest).head? == some "cut".toList) = true := e3
  have e6 : (("cut".toList :: rest).head? == some "carried".toList) = false := e4
  simp only [hs, e5, e6, Bool.false_and, Bool.false_or, if_true, List.contains_nil]
theorem own : ownKnob Try.prog.godebug = none := by kernel_rfl
theorem laid : laidOutB Try.prog = true := by kernel_rfl
theorem mapsRowed_ : mapsRowed Try.prog = true := by kernel_rfl
theorem stops : (Try.prog.stops == []) = true := by kernel_rfl
theorem stopKnobs : (Try.prog.stopKnobs == []) = true := by kernel_rfl
theorem plainKeys : Try.prog.plainKeys = true := by kernel_rfl
theorem stopsHeard : Try.prog.stopsHeard = true := by kernel_rfl
theorem laysLater : Try.prog.laysLater = false := by kernel_rfl
theorem bearsReflect : Try.prog.bearsReflect = false := by kernel_rfl
theorem doorFits : Try.prog.doorFits [] = true := by kernel_rfl
theorem mayEnter : Try.prog.mayEnter = true := mayEnter_of head_words strip laysLater bearsReflect doorFits
theorem liftsFinal : Try.prog.liftsFinal = false := liftsFinal_of head_words strip
theorem make : Try.prog.make = some .cut := make_of head_words
theorem and_i {a b : Bool} (ha : a = true) (hb : b = true) : (a && b) = true := by rw [ha, hb]; rfl
end Facts
end Go.Proofs.Ytimfpkoofgglkaa
