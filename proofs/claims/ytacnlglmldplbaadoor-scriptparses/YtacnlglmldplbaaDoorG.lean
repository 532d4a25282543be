/- A part of the proof of the theorem in the last text of this folder: a symbolic executor over the model, and contracts of functions. -/
import Derived.Test.YtacnlglmldplbaaDoorF
import Derived.Test.YtacnlglmldplbaaDoorE
set_option linter.unusedSimpArgs false
set_option linter.unusedVariables false
namespace Go.Sx.Tryd
open Go Go.Sx Go.Proofs
variable {mx : Int}
set_option linter.unusedSimpArgs false
set_option maxRecDepth 20000
set_option maxHeartbeats 4000000
def rtaskInv (a : List UInt8) : Nat → Option Inv := fun id =>
  bif id == 11 then some { α := Nat, keep := [2, 4, 5, 8, 9], drop := [4], env := fun _ x => [(10, .r (.c (.int .i64 x)))], chunks := fun _ x => [(4, .cells 58 [.int .i64 (valW ((headL a).getD 0 [])), .int .i64 (valW ((headL a).getD 1 [])), .int .i64 (valW ((headL a).getD 2 [])), .nils, .int .i64 (polTo x ((headL a).getD 3 []))])], fresh := 0, pre := fun x => x ≤ 3, μ := fun x => 3 - x } else
  bif id == 16 then some { α := Nat, keep := [2, 4, 8], drop := [4], env := fun _ x => [(11, .r (.c (.int .i64 (x + 1))))], chunks := fun b x => [(4, .cells 58 [.int .i64 (valW ((headL a).getD 0 [])), .int .i64 (valW ((headL a).getD 1 [])), .int .i64 (valW ((headL a).getD 2 [])), .osl b, .int .i64 (polOf ((headL a).getD 3 []))]), (b, .row 76 3 x (tabE sec0 secC (((cutL 58 a).tail.take x).map fun w => (secOf w).getD sec0)))], fresh := 1, pre := fun x => x ≤ (cutL 58 a).length - 1 ∧ ((cutL 58 a).tail.take x).all (fun w => (secOf w).isSome) = true, μ := fun x => (cutL 58 a).length - x } else none
theorem rtask_does : Does Tryd.prog (glS mx) 65 (taskSpec) := by
  refine Does.of (fn := Tryd.f65) Tryd.func65 rfl ttok (spec := lookS [(23, cutI), (38, numsSpec)]) ((Known.nil.cons callee38 nums_does).cons callee23 cutI_does) (pc := fun _ => true) ((PureOk.nil.cons (s := numsSpec) (k := 38) (fun _ _ => rfl)).cons (s := cutI) (k := 23) (fun _ _ => rfl)) mixed (taskSpec) (fun a id _ => rtaskInv a id) (ord65) 3000 (rs := [.cell 2 58, .tmp 3]) rfl (n := 101) rfl (by decide) (by kernel_rfl) ?_
  intro (a : List UInt8) hp
  refine ⟨of_decide_eq_true (by kernel_rfl), ?_⟩
  refine vc_of (Q := a.length < (4294967281 : Nat) ∧ a = a ∧ true = true ∧ (58 : Int) = (58 : Int) ∧ true = true ∧ ∀ (b : Unit), True → ((0 : Int) ≤ (0 : Int) ∧ (0 : Int) < (↑(cutL (UInt8.ofNat (58 : Nat)) a).length : Int)) ∧ (0 : Nat) < (cutL (UInt8.ofNat (58 : Nat)) a).length ∧ (1 : Nat) = (1 : Nat) ∧ (1 : Nat) ≤ (1 : Nat) ∧ true = true ∧ ((cutL (UInt8.ofNat (58 : Nat)) a).getD (0 : Nat) []).length < (4294967281 : Nat) ∧ (cutL (UInt8.ofNat (58 : Nat)) a).getD (0 : Nat) [] = (cutL (UInt8.ofNat (58 : Nat)) a).getD (0 : Nat) [] ∧ true = true ∧ (47 : Int) = (47 : Int) ∧ true = true ∧ ∀ (b : Unit), True → bif !decide ((↑(cutL (UInt8.ofNat (47 : Nat)) ((cutL (UInt8.ofNat (58 : Nat)) a).getD (0 : Nat) [])).length : Int) = (4 : Int)) then true = true ∧ (5 : Nat) = (5 : Nat) ∧ (5 : Nat) ≤ (5 : Nat) ∧ (5 : Nat) ≤ (5 : Nat) ∧ true = true ∧ true = true ∧ true = true ∧ true = true ∧ true = true ∧ ∃ (b : Tsk), (∀ (t : Tsk), taskOf a = some t → b = t) ∧ true = true ∧ true = true ∧ b.cost = (0 : Int) ∧ true = true ∧ b.period = (0 : Int) ∧ true = true ∧ b.dead = (0 : Int) ∧ b.secs.length = (0 : Nat) ∧ true = true ∧ b.pol = (0 : Int) ∧ (taskOf a).isSome = false ∧ True else ((0 : Int) ≤ (0 : Int) ∧ (0 : Int) ≤ (3 : Int) ∧ (3 : Int) ≤ (↑(cutL (UInt8.ofNat (47 : Nat)) ((cutL (UInt8.ofNat (58 : Nat)) a).getD (0 : Nat) [])).length : Int)) ∧ ∃ (a_3 : List (List UInt8)), a_3.length < (4294967290 : Nat) ∧ (1 : Nat) = (1 : Nat) ∧ a_3.length = (3 : Nat) ∧ (∀ (i j : Nat), i < a_3.length → j < (1 : Nat) → CV.str (a_3.getD i []) = CV.str ((cutL (UInt8.ofNat (47 : Nat)) ((cutL (UInt8.ofNat (58 : Nat)) a).getD (0 : Nat) [])).getD ((0 : Nat) + i) [])) ∧ true = true ∧ ∀ (b : Unit), True → bif !a_3.all okW then true = true ∧ (5 : Nat) = (5 : Nat) ∧ (5 : Nat) ≤ (5 : Nat) ∧ (5 : Nat) ≤ (5 : Nat) ∧ true = true ∧ true = true ∧ true = true ∧ true = true ∧ true = true ∧ ∃ (b : Tsk), (∀ (t : Tsk), taskOf a = some t → b = t) ∧ true = true ∧ true = true ∧ b.cost = (0 : Int) ∧ true = true ∧ b.period = (0 : Int) ∧ true = true ∧ b.dead = (0 : Int) ∧ b.secs.length = (0 : Nat) ∧ true = true ∧ b.pol = (0 : Int) ∧ (taskOf a).isSome = false ∧ True else ((0 : Int) ≤ (0 : Int) ∧ (0 : Int) < (↑(numsL a_3).length : Int)) ∧ (0 : Nat) < (numsL a_3).length ∧ (1 : Nat) = (1 : Nat) ∧ (1 : Nat) ≤ (1 : Nat) ∧ true = true ∧ ((0 : Int) ≤ (1 : Int) ∧ (1 : Int) < (↑(numsL a_3).length : Int)) ∧ (1 : Nat) < (numsL a_3).length ∧ (1 : Nat) = (1 : Nat) ∧ (1 : Nat) ≤ (1 : Nat) ∧ true = true ∧ ((0 : Int) ≤ (2 : Int) ∧ (2 : Int) < (↑(numsL a_3).length : Int)) ∧ (2 : Nat) < (numsL a_3).length ∧ (1 : Nat) = (1 : Nat) ∧ (1 : Nat) ≤ (1 : Nat) ∧ true = true ∧ true = true ∧ (5 : Nat) = (5 : Nat) ∧ (5 : Nat) ≤ (5 : Nat) ∧ (3 : Nat) ≤ (16777216 : Nat) ∧ (0 : Nat) < (1 : Nat) ∧ true = true ∧ true = true ∧ true = true ∧ (∃ (x : Nat), x ≤ (3 : Nat) ∧ true = true ∧ true = true ∧ (↑x : Int) = (0 : Int) ∧ (0 : Nat) < (6 : Nat) ∧ some (0 : Nat) = some (0 : Nat) ∧ (0 : Nat) = (0 : Nat) ∧ (1 : Nat) < (6 : Nat) ∧ some (1 : Nat) = some (1 : Nat) ∧ (1 : Nat) = (1 : Nat) ∧ (cutL (UInt8.ofNat (47 : Nat)) ((cutL (UInt8.ofNat (58 : Nat)) a).getD (0 : Nat) [])).length = (cutL (UInt8.ofNat (47 : Nat)) ((cutL (UInt8.ofNat (58 : Nat)) a).getD (0 : Nat) [])).length ∧ (∀ (i j : Nat), i < (cutL (UInt8.ofNat (47 : Nat)) ((cutL (UInt8.ofNat (58 : Nat)) a).getD (0 : Nat) [])).length → j < (1 : Nat) → CV.str ((cutL (UInt8.ofNat (47 : Nat)) ((cutL (UInt8.ofNat (58 : Nat)) a).getD (0 : Nat) [])).getD i []) = CV.str ((cutL (UInt8.ofNat (47 : Nat)) ((cutL (UInt8.ofNat (58 : Nat)) a).getD (0 : Nat) [])).getD i [])) ∧ (4 : Nat) < (6 : Nat) ∧ some (4 : Nat) = some (4 : Nat) ∧ (0 : Nat) = (0 : Nat) ∧ (5 : Nat) < (6 : Nat) ∧ some (5 : Nat) = some (5 : Nat) ∧ (4 : Nat) < (6 : Nat) ∧ (58 : TypeId) = (58 : Nat) ∧ true = true ∧ valW ((headL a).getD (0 : Nat) []) = (numsL a_3).getD (0 : Nat) (0 : Int) ∧ true = true ∧ valW ((headL a).getD (1 : Nat) []) = (numsL a_3).getD (1 : Nat) (0 : Int) ∧ true = true ∧ valW ((headL a).getD (2 : Nat) []) = (numsL a_3).getD (2 : Nat) (0 : Int) ∧ true = true ∧ polTo x ((headL a).getD (3 : Nat) []) = (-1 : Int) ∧ (5 : Nat) < (6 : Nat) ∧ (9 : Nat) = (9 : Nat) ∧ (1 : Nat) = (1 : Nat) ∧ (3 : Nat) = (3 : Nat) ∧ (∀ (i j : Nat), i < (3 : Nat) → j < (1 : Nat) → nth [CV.str [(97 : UInt8), (98 : UInt8), (111 : UInt8), (114 : UInt8), (116 : UInt8)], CV.str [(100 : UInt8), (101 : UInt8), (109 : UInt8), (111 : UInt8), (116 : UInt8), (101 : UInt8)], CV.str [(112 : UInt8), (111 : UInt8), (115 : UInt8), (116 : UInt8), (112 : UInt8), (111 : UInt8), (110 : UInt8), (101 : UInt8)]] (i * (1 : Nat) + j) = nth [CV.str [(97 : UInt8), (98 : UInt8), (111 : UInt8), (114 : UInt8), (116 : UInt8)], CV.str [(100 : UInt8), (101 : UInt8), (109 : UInt8), (111 : UInt8), (116 : UInt8), (101 : UInt8)], CV.str [(112 : UInt8), (111 : UInt8), (115 : UInt8), (116 : UInt8), (112 : UInt8), (111 : UInt8), (110 : UInt8), (101 : UInt8)]] (i * (1 : Nat) + j)) ∧ (3 : Nat) < (6 : Nat) ∧ (3 : TypeId) = (3 : TypeId) ∧ (1 : Nat) = (1 : Nat) ∧ (numsL a_3).length = (numsL a_3).length ∧ (∀ (i j : Nat), i < (numsL a_3).length → j < (1 : Nat) → CV.int IntKind.i64 ((numsL a_3).getD i (0 : Int)) = CV.int IntKind.i64 ((numsL a_3).getD i (0 : Int))) ∧ (1 : Nat) < (6 : Nat) ∧ (9 : TypeId) = (9 : TypeId) ∧ (1 : Nat) = (1 : Nat) ∧ (cutL (UInt8.ofNat (58 : Nat)) a).length = (cutL (UInt8.ofNat (58 : Nat)) a).length ∧ (∀ (i j : Nat), i < (cutL (UInt8.ofNat (58 : Nat)) a).length → j < (1 : Nat) → CV.str ((cutL (UInt8.ofNat (58 : Nat)) a).getD i []) = CV.str ((cutL (UInt8.ofNat (58 : Nat)) a).getD i [])) ∧ (0 : Nat) < (6 : Nat) ∧ (58 : Nat) = (58 : Nat) ∧ true = true ∧ (0 : Int) = (0 : Int) ∧ true = true ∧ (0 : Int) = (0 : Int) ∧ true = true ∧ (0 : Int) = (0 : Int) ∧ true = true ∧ (0 : Int) = (0 : Int) ∧ True) ∧ ∀ (x : Nat), x ≤ (3 : Nat) → bif decide ((↑x : Int) < (3 : Int)) then ((0 : Int) ≤ (↑x : Int) ∧ (↑x : Int) < (3 : Int)) ∧ (↑x : Int).toNat < (3 : Nat) ∧ (1 : Nat) = (1 : Nat) ∧ (1 : Nat) ≤ (1 : Nat) ∧ CK.str.fits (nth [CV.str [(97 : UInt8), (98 : UInt8), (111 : UInt8), (114 : UInt8), (116 : UInt8)], CV.str [(100 : UInt8), (101 : UInt8), (109 : UInt8), (111 : UInt8), (116 : UInt8), (101 : UInt8)], CV.str [(112 : UInt8), (111 : UInt8), (115 : UInt8), (116 : UInt8), (112 : UInt8), (111 : UInt8), (110 : UInt8), (101 : UInt8)]] ((↑x : Int).toNat * (1 : Nat) + (0 : Nat))) = true ∧ ((0 : Int) ≤ (3 : Int) ∧ (3 : Int) < (↑(cutL (UInt8.ofNat (47 : Nat)) ((cutL (UInt8.ofNat (58 : Nat)) a).getD (0 : Nat) [])).length : Int)) ∧ (3 : Nat) < (cutL (UInt8.ofNat (47 : Nat)) ((cutL (UInt8.ofNat (58 : Nat)) a).getD (0 : Nat) [])).length ∧ (1 : Nat) ≤ (1 : Nat) ∧ true = true ∧ bif decide ((nth [CV.str [(97 : UInt8), (98 : UInt8), (111 : UInt8), (114 : UInt8), (116 : UInt8)], CV.str [(100 : UInt8), (101 : UInt8), (109 : UInt8), (111 : UInt8), (116 : UInt8), (101 : UInt8)], CV.str [(112 : UInt8), (111 : UInt8), (115 : UInt8), (116 : UInt8), (112 : UInt8), (111 : UInt8), (110 : UInt8), (101 : UInt8)]] ((↑x : Int).toNat * (1 : Nat) + (0 : Nat))).toStr = (cutL (UInt8.ofNat (47 : Nat)) ((cutL (UInt8.ofNat (58 : Nat)) a).getD (0 : Nat) [])).getD (3 : Nat) []) then true = true ∧ (1 : Nat) = (1 : Nat) ∧ (5 : Nat) ≤ (5 : Nat) ∧ ∃ (x' : Nat), x' ≤ (3 : Nat) ∧ (3 : Nat) - x' < (3 : Nat) - x ∧ true = true ∧ true = true ∧ (↑x' : Int) = IntKind.i64.wrap ((↑x : Int) + (1 : Int)) ∧ (0 : Nat) < (6 : Nat) ∧ some (0 : Nat) = some (0 : Nat) ∧ (0 : Nat) = (0 : Nat) ∧ (1 : Nat) < (6 : Nat) ∧ some (1 : Nat) = some (1 : Nat) ∧ (1 : Nat) = (1 : Nat) ∧ (cutL (UInt8.ofNat (47 : Nat)) ((cutL (UInt8.ofNat (58 : Nat)) a).getD (0 : Nat) [])).length = (cutL (UInt8.ofNat (47 : Nat)) ((cutL (UInt8.ofNat (58 : Nat)) a).getD (0 : Nat) [])).length ∧ (∀ (i j : Nat), i < (cutL (UInt8.ofNat (47 : Nat)) ((cutL (UInt8.ofNat (58 : Nat)) a).getD (0 : Nat) [])).length → j < (1 : Nat) → CV.str ((cutL (UInt8.ofNat (47 : Nat)) ((cutL (UInt8.ofNat (58 : Nat)) a).getD (0 : Nat) [])).getD i []) = CV.str ((cutL (UInt8.ofNat (47 : Nat)) ((cutL (UInt8.ofNat (58 : Nat)) a).getD (0 : Nat) [])).getD i [])) ∧ (4 : Nat) < (6 : Nat) ∧ some (4 : Nat) = some (4 : Nat) ∧ (0 : Nat) = (0 : Nat) ∧ (5 : Nat) < (6 : Nat) ∧ some (5 : Nat) = some (5 : Nat) ∧ (4 : Nat) < (6 : Nat) ∧ (58 : TypeId) = (58 : TypeId) ∧ true = true ∧ valW ((headL a).getD (0 : Nat) []) = valW ((headL a).getD (0 : Nat) []) ∧ true = true ∧ valW ((headL a).getD (1 : Nat) []) = valW ((headL a).getD (1 : Nat) []) ∧ true = true ∧ valW ((headL a).getD (2 : Nat) []) = valW ((headL a).getD (2 : Nat) []) ∧ true = true ∧ polTo x' ((headL a).getD (3 : Nat) []) = (↑x : Int) ∧ (5 : Nat) < (6 : Nat) ∧ (9 : Nat) = (9 : Nat) ∧ (1 : Nat) = (1 : Nat) ∧ (3 : Nat) = (3 : Nat) ∧ (∀ (i j : Nat), i < (3 : Nat) → j < (1 : Nat) → nth [CV.str [(97 : UInt8), (98 : UInt8), (111 : UInt8), (114 : UInt8), (116 : UInt8)], CV.str [(100 : UInt8), (101 : UInt8), (109 : UInt8), (111 : UInt8), (116 : UInt8), (101 : UInt8)], CV.str [(112 : UInt8), (111 : UInt8), (115 : UInt8), (116 : UInt8), (112 : UInt8), (111 : UInt8), (110 : UInt8), (101 : UInt8)]] (i * (1 : Nat) + j) = nth [CV.str [(97 : UInt8), (98 : UInt8), (111 : UInt8), (114 : UInt8), (116 : UInt8)], CV.str [(100 : UInt8), (101 : UInt8), (109 : UInt8), (111 : UInt8), (116 : UInt8), (101 : UInt8)], CV.str [(112 : UInt8), (111 : UInt8), (115 : UInt8), (116 : UInt8), (112 : UInt8), (111 : UInt8), (110 : UInt8), (101 : UInt8)]] (i * (1 : Nat) + j)) ∧ (3 : Nat) < (6 : Nat) ∧ (3 : TypeId) = (3 : TypeId) ∧ (1 : Nat) = (1 : Nat) ∧ (numsL a_3).length = (numsL a_3).length ∧ (∀ (i j : Nat), i < (numsL a_3).length → j < (1 : Nat) → CV.int IntKind.i64 ((numsL a_3).getD i (0 : Int)) = CV.int IntKind.i64 ((numsL a_3).getD i (0 : Int))) ∧ (1 : Nat) < (6 : Nat) ∧ (9 : TypeId) = (9 : TypeId) ∧ (1 : Nat) = (1 : Nat) ∧ (cutL (UInt8.ofNat (58 : Nat)) a).length = (cutL (UInt8.ofNat (58 : Nat)) a).length ∧ (∀ (i j : Nat), i < (cutL (UInt8.ofNat (58 : Nat)) a).length → j < (1 : Nat) → CV.str ((cutL (UInt8.ofNat (58 : Nat)) a).getD i []) = CV.str ((cutL (UInt8.ofNat (58 : Nat)) a).getD i [])) ∧ (0 : Nat) < (6 : Nat) ∧ (58 : Nat) = (58 : Nat) ∧ true = true ∧ (0 : Int) = (0 : Int) ∧ true = true ∧ (0 : Int) = (0 : Int) ∧ true = true ∧ (0 : Int) = (0 : Int) ∧ true = true ∧ (0 : Int) = (0 : Int) ∧ True else ∃ (x' : Nat), x' ≤ (3 : Nat) ∧ (3 : Nat) - x' < (3 : Nat) - x ∧ true = true ∧ true = true ∧ (↑x' : Int) = IntKind.i64.wrap ((↑x : Int) + (1 : Int)) ∧ (0 : Nat) < (6 : Nat) ∧ some (0 : Nat) = some (0 : Nat) ∧ (0 : Nat) = (0 : Nat) ∧ (1 : Nat) < (6 : Nat) ∧ some (1 : Nat) = some (1 : Nat) ∧ (1 : Nat) = (1 : Nat) ∧ (cutL (UInt8.ofNat (47 : Nat)) ((cutL (UInt8.ofNat (58 : Nat)) a).getD (0 : Nat) [])).length = (cutL (UInt8.ofNat (47 : Nat)) ((cutL (UInt8.ofNat (58 : Nat)) a).getD (0 : Nat) [])).length ∧ (∀ (i j : Nat), i < (cutL (UInt8.ofNat (47 : Nat)) ((cutL (UInt8.ofNat (58 : Nat)) a).getD (0 : Nat) [])).length → j < (1 : Nat) → CV.str ((cutL (UInt8.ofNat (47 : Nat)) ((cutL (UInt8.ofNat (58 : Nat)) a).getD (0 : Nat) [])).getD i []) = CV.str ((cutL (UInt8.ofNat (47 : Nat)) ((cutL (UInt8.ofNat (58 : Nat)) a).getD (0 : Nat) [])).getD i [])) ∧ (4 : Nat) < (6 : Nat) ∧ some (4 : Nat) = some (4 : Nat) ∧ (0 : Nat) = (0 : Nat) ∧ (5 : Nat) < (6 : Nat) ∧ some (5 : Nat) = some (5 : Nat) ∧ (4 : Nat) < (6 : Nat) ∧ (58 : TypeId) = (58 : TypeId) ∧ true = true ∧ valW ((headL a).getD (0 : Nat) []) = valW ((headL a).getD (0 : Nat) []) ∧ true = true ∧ valW ((headL a).getD (1 : Nat) []) = valW ((headL a).getD (1 : Nat) []) ∧ true = true ∧ valW ((headL a).getD (2 : Nat) []) = valW ((headL a).getD (2 : Nat) []) ∧ true = true ∧ polTo x' ((headL a).getD (3 : Nat) []) = polTo x ((headL a).getD (3 : Nat) []) ∧ (5 : Nat) < (6 : Nat) ∧ (9 : Nat) = (9 : Nat) ∧ (1 : Nat) = (1 : Nat) ∧ (3 : Nat) = (3 : Nat) ∧ (∀ (i j : Nat), i < (3 : Nat) → j < (1 : Nat) → nth [CV.str [(97 : UInt8), (98 : UInt8), (111 : UInt8), (114 : UInt8), (116 : UInt8)], CV.str [(100 : UInt8), (101 : UInt8), (109 : UInt8), (111 : UInt8), (116 : UInt8), (101 : UInt8)], CV.str [(112 : UInt8), (111 : UInt8), (115 : UInt8), (116 : UInt8), (112 : UInt8), (111 : UInt8), (110 : UInt8), (101 : UInt8)]] (i * (1 : Nat) + j) = nth [CV.str [(97 : UInt8), (98 : UInt8), (111 : UInt8), (114 : UInt8), (116 : UInt8)], CV.str [(100 : UInt8), (101 : UInt8), (109 : UInt8), (111 : UInt8), (116 : UInt8), (101 : UInt8)], CV.str [(112 : UInt8), (111 : UInt8), (115 : UInt8), (116 : UInt8), (112 : UInt8), (111 : UInt8), (110 : UInt8), (101 : UInt8)]] (i * (1 : Nat) + j)) ∧ (3 : Nat) < (6 : Nat) ∧ (3 : TypeId) = (3 : TypeId) ∧ (1 : Nat) = (1 : Nat) ∧ (numsL a_3).length = (numsL a_3).length ∧ (∀ (i j : Nat), i < (numsL a_3).length → j < (1 : Nat) → CV.int IntKind.i64 ((numsL a_3).getD i (0 : Int)) = CV.int IntKind.i64 ((numsL a_3).getD i (0 : Int))) ∧ (1 : Nat) < (6 : Nat) ∧ (9 : TypeId) = (9 : TypeId) ∧ (1 : Nat) = (1 : Nat) ∧ (cutL (UInt8.ofNat (58 : Nat)) a).length = (cutL (UInt8.ofNat (58 : Nat)) a).length ∧ (∀ (i j : Nat), i < (cutL (UInt8.ofNat (58 : Nat)) a).length → j < (1 : Nat) → CV.str ((cutL (UInt8.ofNat (58 : Nat)) a).getD i []) = CV.str ((cutL (UInt8.ofNat (58 : Nat)) a).getD i [])) ∧ (0 : Nat) < (6 : Nat) ∧ (58 : Nat) = (58 : Nat) ∧ true = true ∧ (0 : Int) = (0 : Int) ∧ true = true ∧ (0 : Int) = (0 : Int) ∧ true = true ∧ (0 : Int) = (0 : Int) ∧ true = true ∧ (0 : Int) = (0 : Int) ∧ True else (∃ (x_1 : Nat), (x_1 ≤ (cutL (58 : UInt8) a).length - (1 : Nat) ∧ ((List.take x_1 (cutL (58 : UInt8) a).tail).all fun (w : List UInt8) => (secOf w).isSome) = true) ∧ true = true ∧ true = true ∧ (↑x_1 : Int) + (1 : Int) = (1 : Int) ∧ (0 : Nat) < (7 : Nat) ∧ some (0 : Nat) = some (0 : Nat) ∧ (0 : Nat) = (0 : Nat) ∧ (1 : Nat) < (7 : Nat) ∧ some (1 : Nat) = some (1 : Nat) ∧ (4 : Nat) < (7 : Nat) ∧ some (4 : Nat) = some (4 : Nat) ∧ (0 : Nat) = (0 : Nat) ∧ (4 : Nat) < (7 : Nat) ∧ (58 : TypeId) = (58 : TypeId) ∧ true = true ∧ valW ((headL a).getD (0 : Nat) []) = valW ((headL a).getD (0 : Nat) []) ∧ true = true ∧ valW ((headL a).getD (1 : Nat) []) = valW ((headL a).getD (1 : Nat) []) ∧ true = true ∧ valW ((headL a).getD (2 : Nat) []) = valW ((headL a).getD (2 : Nat) []) ∧ (6 : Nat) < (7 : Nat) ∧ (none : Option Nat) = none ∧ true = true ∧ polOf ((headL a).getD (3 : Nat) []) = polTo x ((headL a).getD (3 : Nat) []) ∧ (6 : Nat) < (7 : Nat) ∧ x_1 = (0 : Nat) ∧ (5 : Nat) < (7 : Nat) ∧ (9 : Nat) = (9 : Nat) ∧ (1 : Nat) = (1 : Nat) ∧ (3 : Nat) = (3 : Nat) ∧ (∀ (i j : Nat), i < (3 : Nat) → j < (1 : Nat) → nth [CV.str [(97 : UInt8), (98 : UInt8), (111 : UInt8), (114 : UInt8), (116 : UInt8)], CV.str [(100 : UInt8), (101 : UInt8), (109 : UInt8), (111 : UInt8), (116 : UInt8), (101 : UInt8)], CV.str [(112 : UInt8), (111 : UInt8), (115 : UInt8), (116 : UInt8), (112 : UInt8), (111 : UInt8), (110 : UInt8), (101 : UInt8)]] (i * (1 : Nat) + j) = nth [CV.str [(97 : UInt8), (98 : UInt8), (111 : UInt8), (114 : UInt8), (116 : UInt8)], CV.str [(100 : UInt8), (101 : UInt8), (109 : UInt8), (111 : UInt8), (116 : UInt8), (101 : UInt8)], CV.str [(112 : UInt8), (111 : UInt8), (115 : UInt8), (116 : UInt8), (112 : UInt8), (111 : UInt8), (110 : UInt8), (101 : UInt8)]] (i * (1 : Nat) + j)) ∧ (3 : Nat) < (7 : Nat) ∧ (3 : TypeId) = (3 : TypeId) ∧ (1 : Nat) = (1 : Nat) ∧ (numsL a_3).length = (numsL a_3).length ∧ (∀ (i j : Nat), i < (numsL a_3).length → j < (1 : Nat) → CV.int IntKind.i64 ((numsL a_3).getD i (0 : Int)) = CV.int IntKind.i64 ((numsL a_3).getD i (0 : Int))) ∧ (1 : Nat) < (7 : Nat) ∧ (9 : TypeId) = (9 : TypeId) ∧ (1 : Nat) = (1 : Nat) ∧ (cutL (UInt8.ofNat (58 : Nat)) a).length = (cutL (UInt8.ofNat (58 : Nat)) a).length ∧ (∀ (i j : Nat), i < (cutL (UInt8.ofNat (58 : Nat)) a).length → j < (1 : Nat) → CV.str ((cutL (UInt8.ofNat (58 : Nat)) a).getD i []) = CV.str ((cutL (UInt8.ofNat (58 : Nat)) a).getD i [])) ∧ (0 : Nat) < (7 : Nat) ∧ (58 : Nat) = (58 : Nat) ∧ true = true ∧ (0 : Int) = (0 : Int) ∧ true = true ∧ (0 : Int) = (0 : Int) ∧ true = true ∧ (0 : Int) = (0 : Int) ∧ true = true ∧ (0 : Int) = (0 : Int) ∧ True) ∧ ∀ (x : Nat), x ≤ (cutL (58 : UInt8) a).length - (1 : Nat) ∧ ((List.take x (cutL (58 : UInt8) a).tail).all fun (w : List UInt8) => (secOf w).isSome) = true → bif decide ((↑x : Int) + (1 : Int) < (↑(cutL (UInt8.ofNat (58 : Nat)) a).length : Int)) then ((0 : Int) ≤ (↑x : Int) + (1 : Int) ∧ (↑x : Int) + (1 : Int) < (↑(cutL (UInt8.ofNat (58 : Nat)) a).length : Int)) ∧ ((↑x : Int) + (1 : Int)).toNat < (cutL (UInt8.ofNat (58 : Nat)) a).length ∧ (1 : Nat) = (1 : Nat) ∧ (1 : Nat) ≤ (1 : Nat) ∧ true = true ∧ ((cutL (UInt8.ofNat (58 : Nat)) a).getD ((↑x : Int) + (1 : Int)).toNat []).length < (4294967281 : Nat) ∧ (cutL (UInt8.ofNat (58 : Nat)) a).getD ((↑x : Int) + (1 : Int)).toNat [] = (cutL (UInt8.ofNat (58 : Nat)) a).getD ((↑x : Int) + (1 : Int)).toNat [] ∧ true = true ∧ (46 : Int) = (46 : Int) ∧ true = true ∧ ∀ (b : Unit), True → ∃ (a_8 : List (List UInt8)), a_8.length < (4294967290 : Nat) ∧ (1 : Nat) = (1 : Nat) ∧ a_8.length = (cutL (UInt8.ofNat (46 : Nat)) ((cutL (UInt8.ofNat (58 : Nat)) a).getD ((↑x : Int) + (1 : Int)).toNat [])).length ∧ (∀ (i j : Nat), i < a_8.length → j < (1 : Nat) → CV.str (a_8.getD i []) = CV.str ((cutL (UInt8.ofNat (46 : Nat)) ((cutL (UInt8.ofNat (58 : Nat)) a).getD ((↑x : Int) + (1 : Int)).toNat [])).getD i [])) ∧ true = true ∧ ∀ (b : Unit), True → ((!!a_8.all okW) = true → (!!a_8.all okW) = true) ∧ ((!!a_8.all okW) = true → (!!a_8.all okW) = true) ∧ ((!a_8.all okW) = false → (!!a_8.all okW) = true) ∧ bif bif !a_8.all okW then true else !decide ((↑(numsL a_8).length : Int) = (3 : Int)) then true = true ∧ (5 : Nat) = (5 : Nat) ∧ (5 : Nat) ≤ (5 : Nat) ∧ (5 : Nat) ≤ (5 : Nat) ∧ true = true ∧ true = true ∧ true = true ∧ true = true ∧ true = true ∧ ∃ (b : Tsk), (∀ (t : Tsk), taskOf a = some t → b = t) ∧ true = true ∧ true = true ∧ b.cost = (0 : Int) ∧ true = true ∧ b.period = (0 : Int) ∧ true = true ∧ b.dead = (0 : Int) ∧ b.secs.length = (0 : Nat) ∧ true = true ∧ b.pol = (0 : Int) ∧ (taskOf a).isSome = false ∧ True else (4 : Nat) ≤ (5 : Nat) ∧ true = true ∧ ((0 : Int) ≤ (0 : Int) ∧ (0 : Int) < (↑(numsL a_8).length : Int)) ∧ (0 : Nat) < (numsL a_8).length ∧ (1 : Nat) = (1 : Nat) ∧ (1 : Nat) ≤ (1 : Nat) ∧ true = true ∧ ((0 : Int) ≤ (1 : Int) ∧ (1 : Int) < (↑(numsL a_8).length : Int)) ∧ (1 : Nat) < (numsL a_8).length ∧ (1 : Nat) = (1 : Nat) ∧ (1 : Nat) ≤ (1 : Nat) ∧ true = true ∧ ((0 : Int) ≤ (2 : Int) ∧ (2 : Int) < (↑(numsL a_8).length : Int)) ∧ (2 : Nat) < (numsL a_8).length ∧ (1 : Nat) = (1 : Nat) ∧ (1 : Nat) ≤ (1 : Nat) ∧ true = true ∧ (3 : Nat) ≤ (16777216 : Nat) ∧ (0 : Nat) < (3 : Nat) ∧ true = true ∧ true = true ∧ true = true ∧ x + (1 : Nat) ≤ (9223372036854775807 : Nat) ∧ (x + (1 : Nat)) * (24 : Nat) ≤ (140737488355328 : Nat) ∧ (0 : Nat) < (1 : Nat) ∧ (0 : Nat) < (3 : Nat) ∧ true = true ∧ (1 : Nat) = (1 : Nat) ∧ (4 : Nat) ≤ (5 : Nat) ∧ ∃ (x' : Nat), (x' ≤ (cutL (58 : UInt8) a).length - (1 : Nat) ∧ ((List.take x' (cutL (58 : UInt8) a).tail).all fun (w : List UInt8) => (secOf w).isSome) = true) ∧ (cutL (58 : UInt8) a).length - x' < (cutL (58 : UInt8) a).length - x ∧ true = true ∧ true = true ∧ (↑x' : Int) + (1 : Int) = IntKind.i64.wrap ((↑x : Int) + (1 : Int) + (1 : Int)) ∧ (0 : Nat) < (7 : Nat) ∧ some (0 : Nat) = some (0 : Nat) ∧ (0 : Nat) = (0 : Nat) ∧ (1 : Nat) < (7 : Nat) ∧ some (1 : Nat) = some (1 : Nat) ∧ (4 : Nat) < (7 : Nat) ∧ some (4 : Nat) = some (4 : Nat) ∧ (0 : Nat) = (0 : Nat) ∧ (4 : Nat) < (7 : Nat) ∧ (58 : TypeId) = (58 : TypeId) ∧ true = true ∧ valW ((headL a).getD (0 : Nat) []) = valW ((headL a).getD (0 : Nat) []) ∧ true = true ∧ valW ((headL a).getD (1 : Nat) []) = valW ((headL a).getD (1 : Nat) []) ∧ true = true ∧ valW ((headL a).getD (2 : Nat) []) = valW ((headL a).getD (2 : Nat) []) ∧ (6 : Nat) < (7 : Nat) ∧ some (10 : Nat) = some (10 : Nat) ∧ true = true ∧ polOf ((headL a).getD (3 : Nat) []) = polOf ((headL a).getD (3 : Nat) []) ∧ (6 : Nat) < (7 : Nat) ∧ (76 : TypeId) = (76 : Nat) ∧ (3 : Nat) = (3 : Nat) ∧ x' = x + (1 : Nat) ∧ (∀ (i j : Nat), i < x' → j < (3 : Nat) → tabE sec0 secC (List.map (fun (w : List UInt8) => (secOf w).getD sec0) (List.take x' (cutL (58 : UInt8) a).tail)) i j = if i < x then tabE sec0 secC (List.map (fun (w : List UInt8) => (secOf w).getD sec0) (List.take x (cutL (58 : UInt8) a).tail)) i j else nth [CV.int IntKind.i64 ((numsL a_8).getD (0 : Nat) (0 : Int)), CV.int IntKind.i64 ((numsL a_8).getD (1 : Nat) (0 : Int)), CV.int IntKind.i64 ((numsL a_8).getD (2 : Nat) (0 : Int))] j) ∧ (5 : Nat) < (7 : Nat) ∧ (9 : Nat) = (9 : Nat) ∧ (1 : Nat) = (1 : Nat) ∧ (3 : Nat) = (3 : Nat) ∧ (∀ (i j : Nat), i < (3 : Nat) → j < (1 : Nat) → nth [CV.str [(97 : UInt8), (98 : UInt8), (111 : UInt8), (114 : UInt8), (116 : UInt8)], CV.str [(100 : UInt8), (101 : UInt8), (109 : UInt8), (111 : UInt8), (116 : UInt8), (101 : UInt8)], CV.str [(112 : UInt8), (111 : UInt8), (115 : UInt8), (116 : UInt8), (112 : UInt8), (111 : UInt8), (110 : UInt8), (101 : UInt8)]] (i * (1 : Nat) + j) = nth [CV.str [(97 : UInt8), (98 : UInt8), (111 : UInt8), (114 : UInt8), (116 : UInt8)], CV.str [(100 : UInt8), (101 : UInt8), (109 : UInt8), (111 : UInt8), (116 : UInt8), (101 : UInt8)], CV.str [(112 : UInt8), (111 : UInt8), (115 : UInt8), (116 : UInt8), (112 : UInt8), (111 : UInt8), (110 : UInt8), (101 : UInt8)]] (i * (1 : Nat) + j)) ∧ (3 : Nat) < (7 : Nat) ∧ (3 : TypeId) = (3 : TypeId) ∧ (1 : Nat) = (1 : Nat) ∧ (numsL a_3).length = (numsL a_3).length ∧ (∀ (i j : Nat), i < (numsL a_3).length → j < (1 : Nat) → CV.int IntKind.i64 ((numsL a_3).getD i (0 : Int)) = CV.int IntKind.i64 ((numsL a_3).getD i (0 : Int))) ∧ (1 : Nat) < (7 : Nat) ∧ (9 : TypeId) = (9 : TypeId) ∧ (1 : Nat) = (1 : Nat) ∧ (cutL (UInt8.ofNat (58 : Nat)) a).length = (cutL (UInt8.ofNat (58 : Nat)) a).length ∧ (∀ (i j : Nat), i < (cutL (UInt8.ofNat (58 : Nat)) a).length → j < (1 : Nat) → CV.str ((cutL (UInt8.ofNat (58 : Nat)) a).getD i []) = CV.str ((cutL (UInt8.ofNat (58 : Nat)) a).getD i [])) ∧ (0 : Nat) < (7 : Nat) ∧ (58 : Nat) = (58 : Nat) ∧ true = true ∧ (0 : Int) = (0 : Int) ∧ true = true ∧ (0 : Int) = (0 : Int) ∧ true = true ∧ (0 : Int) = (0 : Int) ∧ true = true ∧ (0 : Int) = (0 : Int) ∧ True else (5 : Nat) ≤ (5 : Nat) ∧ true = true ∧ true = true ∧ true = true ∧ true = true ∧ true = true ∧ ((5 : Nat) ≤ (5 : Nat) ∧ true = true ∧ true = true ∧ (5 : Nat) = (5 : Nat) ∧ (5 : Nat) ≤ (5 : Nat) ∧ (5 : Nat) ≤ (5 : Nat) ∧ true = true ∧ true = true ∧ true = true ∧ true = true ∧ true = true ∧ ∃ (b : Tsk), (∀ (t : Tsk), taskOf a = some t → b = t) ∧ true = true ∧ true = true ∧ b.cost = valW ((headL a).getD (0 : Nat) []) ∧ true = true ∧ b.period = valW ((headL a).getD (1 : Nat) []) ∧ true = true ∧ b.dead = valW ((headL a).getD (2 : Nat) []) ∧ (3 : Nat) = (3 : Nat) ∧ b.secs.length = x ∧ (∀ (i j : Nat), i < b.secs.length → j < (3 : Nat) → tabE sec0 secC b.secs i j = tabE sec0 secC (List.map (fun (w : List UInt8) => (secOf w).getD sec0) (List.take x (cutL (58 : UInt8) a).tail)) i j) ∧ true = true ∧ b.pol = polOf ((headL a).getD (3 : Nat) []) ∧ (taskOf a).isSome = decide ((0 : Int) ≤ polOf ((headL a).getD (3 : Nat) [])) ∧ True) ∧ true = true ∧ (5 : Nat) = (5 : Nat) ∧ (5 : Nat) ≤ (5 : Nat) ∧ (5 : Nat) ≤ (5 : Nat) ∧ true = true ∧ (5 : Nat) ≤ (5 : Nat) ∧ true = true ∧ true = true ∧ true = true ∧ true = true ∧ true = true ∧ ∃ (b : Tsk), (∀ (t : Tsk), taskOf a = some t → b = t) ∧ true = true ∧ true = true ∧ b.cost = valW ((headL a).getD (0 : Nat) []) ∧ true = true ∧ b.period = valW ((headL a).getD (1 : Nat) []) ∧ true = true ∧ b.dead = valW ((headL a).getD (2 : Nat) []) ∧ (3 : Nat) = (3 : Nat) ∧ b.secs.length = x ∧ (∀ (i j : Nat), i < b.secs.length → j < (3 : Nat) → tabE sec0 secC b.secs i j = tabE sec0 secC (List.map (fun (w : List UInt8) => (secOf w).getD sec0) (List.take x (cutL (58 : UInt8) a).tail)) i j) ∧ true = true ∧ b.pol = polOf ((headL a).getD (3 : Nat) []) ∧ (taskOf a).isSome = decide ((0 : Int) ≤ polOf ((headL a).getD (3 : Nat) [])) ∧ True) (by kernel_rfl) ?_
  try simp only [condP, eq_self, true_and, and_true, and_self, cond_or, cond_and, decide_true, decide_false, imp_self, implies_true, forall_const, exists_const, exists_prop, decide_eq_true_eq, decide_eq_false_iff_not, Bool.and_eq_true, Bool.or_eq_true, Bool.not_eq_true', Bool.not_eq_false', Bool.or_eq_false_iff, Bool.and_eq_false_imp, tdiv_u64, tmod_u64, Int.toNat_natCast, Int.toNat_zero, Int.reduceToNat, Int.reduceAdd, Int.reduceMod, Int.reduceSub, Int.reduceMul, Int.reduceNeg, Int.reduceLT, Int.reduceLE, Int.cast_ofNat_Int, Nat.reduceLT, Nat.reduceLeDiff, Nat.reduceEqDiff, Nat.reduceAdd, Nat.reduceMul, Nat.reduceSub, Nat.reducePow, Nat.le_refl, Int.le_refl, Nat.zero_add, Nat.add_zero, Nat.mul_one, Nat.zero_le, Bool.false_eq_true, Bool.true_eq_false, reduceCtorEq, not_false_eq_true, not_true_eq_false, false_implies, true_implies, Nat.lt_irrefl, Int.lt_irrefl, UInt8.reduceOfNat, UInt8.reduceToNat]
  have hp : a.length < 4294967281 := hp
  obtain ⟨p, ps, hc⟩ := cutL_cons 58 a
  have hlen := part_len 58 a
  have hcl := cutL_length 58 a
  rw [hc] at hlen hcl
  simp only [List.length_cons] at hcl
  have hpl : p.length ≤ a.length := hlen p (List.mem_cons_self ..)
  have hps : ∀ i, (ps.getD i []).length ≤ a.length := getD_len fun w hw => hlen w (List.mem_cons_of_mem _ hw)
  have hhd : headL a = cutL 47 p := by simp [headL, hc]
  have g0 : (cutL 58 a).getD 0 [] = p := by rw [hc]; rfl
  have g1 : (cutL 58 a).length = ps.length + 1 := by rw [hc]; rfl
  have g2 : (cutL 58 a).tail = ps := by rw [hc]; rfl
  have g3 : ∀ k : Nat, (cutL 58 a).getD (k + 1) [] = ps.getD k [] := fun k => by rw [hc]; rfl
  have hcp := cutL_length 47 p
  have hn : taskOf a = none → ∀ b : Tsk, (∀ t, taskOf a = some t → b = t) ∧ (taskOf a).isSome = false := fun h b => (by rw [h]; exact ⟨fun t ht => (by cases ht), rfl⟩)
  simp only [g0, g1, g2, hhd]
  by_cases h4 : (cutL 47 p).length = 4
  case neg =>
    have h := hn (taskOf_short hc h4) tsk0
    refine ⟨hp, by omega, by omega, by omega, fun _ => ⟨_, h.1, rfl, rfl, rfl, rfl, rfl, h.2⟩, fun h => absurd h (by omega)⟩
  case pos =>
    obtain ⟨x, y, z, q, hw⟩ : ∃ x y z q, cutL 47 p = [x, y, z, q] := by
      match h : cutL 47 p, h4 with
      | [x, y, z, q], _ => exact ⟨x, y, z, q, rfl⟩
    have hto := taskOf_cons hc hw
    have hno : (okW x = false ∨ okW y = false ∨ okW z = false ∨ polOf q < 0 ∨ ps.all (fun w => (secOf w).isSome) = false) → taskOf a = none := by
      intro h
      rw [hto, if_neg]
      intro hh
      simp only [Bool.and_eq_true, decide_eq_true_eq] at hh
      rcases h with h | h | h | h | h
      · rw [h] at hh; exact absurd hh.1.1.1.1 (by decide)
      · rw [h] at hh; exact absurd hh.1.1.1.2 (by decide)
      · rw [h] at hh; exact absurd hh.1.1.2 (by decide)
      · omega
      · rw [h] at hh; exact absurd hh.2 (by decide)
    simp only [hw]
    have n0 : [x, y, z, q].getD 0 [] = x := rfl
    have n1 : [x, y, z, q].getD 1 [] = y := rfl
    have n2 : [x, y, z, q].getD 2 [] = z := rfl
    have n3 : [x, y, z, q].getD 3 [] = q := rfl
    simp only [n0, n1, n2, n3, List.length_cons, List.length_nil]
    clear n0 n1 n2 n3 hlen hw hhd hc h4 g0 g1 g2 hcp
    (repeat' (first | (apply And.intro) | (intro _))) <;> (try simp (disch := omega) only [w64, wu64, wu8, Int.toNat_natCast, toNat_add_one, toNat_one_add] at *) <;> (try (first | (with_reducible rfl) | (with_reducible assumption) | exact True.intro | omega))
    refine ⟨[x, y, z], by show 3 < 4294967290; omega, rfl, fun i j hi _ => ?_, ?_⟩
    · match i, hi with
      | 0, _ => rfl
      | 1, _ => rfl
      | 2, _ => rfl
    have hall : [x, y, z].all okW = (okW x && (okW y && okW z)) := by simp
    have hnl : (okW x && (okW y && okW z)) = true → numsL [x, y, z] = [valW x, valW y, valW z] := fun h => by unfold numsL; rw [hall, if_pos h]; rfl
    rw [hall]
    constructor
    · intro h
      have hh := hn (hno (by
        cases hx : okW x
        · exact .inl rfl
        · cases hy : okW y
          · exact .inr (.inl rfl)
          · cases hz : okW z
            · exact .inr (.inr (.inl rfl))
            · rw [hx, hy, hz] at h; cases h)) tsk0
      exact ⟨_, hh.1, rfl, rfl, rfl, rfl, rfl, hh.2⟩
    · intro hok
      rw [hnl hok]
      have m0 : [valW x, valW y, valW z].getD 0 0 = valW x := rfl
      have m1 : [valW x, valW y, valW z].getD 1 0 = valW y := rfl
      have m2 : [valW x, valW y, valW z].getD 2 0 = valW z := rfl
      simp only [m0, m1, m2, List.length_cons, List.length_nil]
      clear m0 m1 m2 hnl hall
      have hnp : ∀ k : Nat, k < 3 → nth [CV.str [97, 98, 111, 114, 116], CV.str [100, 101, 109, 111, 116, 101], CV.str [112, 111, 115, 116, 112, 111, 110, 101]] k = CV.str (policyT k) := fun k hk => by
        match k, hk with
        | 0, _ => rfl
        | 1, _ => rfl
        | 2, _ => rfl
      (repeat' (first | (apply And.intro) | (intro _))) <;> (try simp (disch := omega) only [w64, wu64, wu8, Int.toNat_natCast, toNat_add_one, toNat_one_add] at *) <;> (try (first | (with_reducible rfl) | (with_reducible assumption) | exact True.intro | omega))
      · exact ⟨0, by omega, rfl, trivial, trivial, trivial, by simp [polTo]⟩
      · rename_i k h1 h2
        rw [hnp k (by omega)]
        rfl
      · rename_i k h1 h2 hq
        rw [hnp k (by omega)] at hq
        have hq : policyT k = q := hq
        rw [← hq]
        exact ⟨k + 1, by omega, by omega, by omega, polTo_hit (by omega)⟩
      · rename_i k h1 h2 hq
        rw [hnp k (by omega)] at hq
        exact ⟨k + 1, by omega, by omega, by omega, polTo_miss (by omega) hq⟩
      · rename_i k h1 h2
        have hk3 : k = 3 := by omega
        subst hk3
        exact ⟨0, ⟨Nat.zero_le _, rfl⟩, rfl, (polTo_three q).symm, rfl⟩
      · rename_i k h1 h2
        rw [g3]
        have := hps k
        omega
      · rename_i k h1 h2
        have hk : k < ps.length := by omega
        rw [g3]
        have hnum : (cutL 46 (ps.getD k [])).all okW = true → (numsL (cutL 46 (ps.getD k []))).length = (cutL 46 (ps.getD k [])).length := fun h => by
          unfold numsL
          rw [if_pos h, List.length_map]
        refine ⟨cutL 46 (ps.getD k []), by have := cutL_length 46 (ps.getD k []); have := hps k; omega, rfl, fun _ _ _ _ => rfl, fun h => ?_, fun h => ?_⟩
        · have hs : secOf (ps.getD k []) = none := secOf_none (by
            cases ha : (cutL 46 (ps.getD k [])).all okW
            · exact .inl rfl
            · rcases h with h | h
              · rw [ha] at h; cases h
              · rw [hnum ha] at h
                exact .inr (by omega))
          have hh := hn (hno (.inr (.inr (.inr (.inr (all_not [] hk (by rw [hs]; rfl))))))) tsk0
          exact ⟨_, hh.1, rfl, rfl, rfl, rfl, rfl, hh.2⟩
        · have hl3 := hnum h.1
          have hs := secOf_yes (s := ps.getD k []) h.1 (by omega)
          refine ⟨by omega, by omega, by omega, by omega, by omega, by omega, by omega, by omega, k + 1, ⟨by omega, ?_⟩, by omega, by omega, rfl, fun i j hi hj => ?_⟩
          · rw [take_all_succ [] hk h1.2, hs]
            rfl
          · rw [map_take_snoc ps [] _ hk, hs]
            exact tabE_snoc (by rw [List.length_map, List.length_take]; omega) hi
      · rename_i k h1 h2
        have hk : k = ps.length := by omega
        subst hk
        rw [List.take_length] at h1 ⊢
        by_cases hpq : 0 ≤ polOf q
        · have hyes : taskOf a = some ⟨valW x, valW y, valW z, ps.map (fun w => (secOf w).getD sec0), polOf q⟩ := by
            rw [hto, if_pos]
            simp only [Bool.and_eq_true, decide_eq_true_eq] at hok ⊢
            exact ⟨⟨⟨⟨hok.1, hok.2.1⟩, hok.2.2⟩, hpq⟩, h1.2⟩
          rw [hyes]
          exact ⟨_, fun t ht => Option.some.inj ht, rfl, rfl, rfl, by rw [List.length_map], fun _ _ _ _ => rfl, rfl, (decide_eq_true hpq).symm⟩
        · have hh := hn (hno (.inr (.inr (.inr (.inl (by omega)))))) ⟨valW x, valW y, valW z, ps.map (fun w => (secOf w).getD sec0), polOf q⟩
          exact ⟨_, hh.1, rfl, rfl, rfl, by rw [List.length_map], fun _ _ _ _ => rfl, rfl, by rw [hh.2]; exact (decide_eq_false hpq).symm⟩
end Go.Sx.Tryd
namespace Go.Sx.Tryd
open Go Go.Sx
def ordOf (w : List UInt8) : Option Int := if w = orderT 0 then some 0 else if w = orderT 1 then some 1 else none
def tskAt (w : List UInt8) : Tsk := (taskOf w).getD tsk0
def tskOk (w : List UInt8) : Bool := (taskOf w).isSome
def tasksOf (l : List (List UInt8)) : Option (Int × List Tsk) := match l with
  | [] => none
  | w :: ws => match ordOf w with
    | none => none
    | some o => if ws.all tskOk = true then some (o, ws.map tskAt) else none
def tasksSpec : Spec := {
  α := Int × List (List UInt8)
  args a := [.c (.ref 0 0), .c (.ro 1 a.2.length (strF a.2))]
  ins a := [(0, .cells 44 (lin1 a.1))]
  m := 2
  pre a := a.2.length < 4294967281 ∧ ∀ i, (a.2.getD i []).length < 4294967281
  β := Int × List Tsk
  post a b := ∀ t, tasksOf a.2 = some t → b = t
  res a _ := .r (.c (.bool (tasksOf a.2).isSome))
  outs a b := [(0, .cells 44 [.int .i64 a.1, .osl 1, .int .u64 0, .int .i64 0, .int .i64 0, .int .i64 0, .int .i64 0, .int .i64 0, .int .i64 b.1, .osl 2, .nils]), (2, .row 65 5 b.2.length (tabE tsk0 tskC b.2))]
  fresh := 1 }
theorem tskAt_of {w : List UInt8} {b : Tsk} (h : tskOk w = true) (hb : ∀ t, taskOf w = some t → b = t) : b = tskAt w := by
  unfold tskOk at h
  unfold tskAt
  match e : taskOf w with
  | none => rw [e] at h; cases h
  | some t => exact hb t e
structure RestB where
  word : Int
  call : Cal
  order : Int
  tasks : List Tsk
  code : List Ins
def rest0 : RestB := ⟨0, cal0, 0, [], []⟩
def insAt (w : List UInt8) : Ins := (instOf w).getD ins0
def insOk (w : List UInt8) : Bool := (instOf w).isSome
theorem insAt_of {w : List UInt8} {b : Ins} (h : insOk w = true) (hb : ∀ t, instOf w = some t → b = t) : b = insAt w := by
  unfold insOk at h
  unfold insAt
  match e : instOf w with
  | none => rw [e] at h; cases h
  | some t => exact hb t e
/-- What stands behind a line's numbers. -/
def restOf (k : Int) (l : List (List UInt8)) : Option RestB :=
  if k = 4 then (tasksOf l).map fun x => { rest0 with order := x.1, tasks := x.2 }
  else if k = 6 then if l.all insOk = true then some { rest0 with code := l.map insAt } else none
  else if k = 11 then (callOf l).map fun c => { rest0 with call := c }
  else if k = 12 then match l with
    | [w] => if (numAns w 18446744073709551615).2 then some { rest0 with word := (numAns w 18446744073709551615).1 } else none
    | _ => none
  else if l = [] then some rest0 else none
def restSpec : Spec := {
  α := Int × List (List UInt8)
  args a := [.c (.ref 0 0), .c (.ro 1 a.2.length (strF a.2))]
  ins a := [(0, .cells 44 (lin1 a.1))]
  m := 2
  pre a := a.2.length < 4294967281 ∧ ∀ i, (a.2.getD i []).length < 4294967281
  β := RestB
  post a b := ∀ t, restOf a.1 a.2 = some t → b = t
  res a _ := .r (.c (.bool (restOf a.1 a.2).isSome))
  outs a b := [(0, .cells 44 [.int .i64 a.1, .osl 1, .int .u64 b.word, .int .i64 b.call.op, .int .i64 b.call.a, .int .i64 b.call.b, .int .i64 b.call.c, .int .i64 b.call.d, .int .i64 b.order, .osl 2, .osl 3]), (2, .row 65 5 b.tasks.length (tabE tsk0 tskC b.tasks)), (3, .row 74 5 b.code.length (tabE ins0 insC b.code))]
  fresh := 2 }
end Go.Sx.Tryd
namespace Go.Sx.Tryd
open Go Go.Sx Go.Proofs
variable {mx : Int}
set_option linter.unusedSimpArgs false
set_option maxRecDepth 20000
set_option maxHeartbeats 4000000
def tasksInv (a : Int × List (List UInt8)) : Nat → Option Inv := fun id =>
  bif id == 10 then some { α := Nat, keep := [0, 28, 29], drop := [0], env := fun _ x => [(30, .r (.c (.int .i64 x)))], chunks := fun b x => [(0, .cells 44 [.int .i64 a.1, .osl 1, .int .u64 0, .int .i64 0, .int .i64 0, .int .i64 0, .int .i64 0, .int .i64 0, .int .i64 ((ordOf (a.2.getD 0 [])).getD 0), .osl b, .nils]), (b, .row 65 5 x (tabE tsk0 tskC ((a.2.tail.take x).map tskAt)))], fresh := 1, pre := fun x => x ≤ a.2.tail.length ∧ (a.2.tail.take x).all tskOk = true, μ := fun x => a.2.tail.length - x } else none
theorem readTasks_does : Does Tryd.prog (glS mx) 83 (tasksSpec) := by
  refine Does.of (fn := Tryd.f83) Tryd.func83 rfl ttok (spec := lookS [(41, fnI orderT), (98, taskSpec)]) ((Known.nil.cons callee98 task_does).cons callee41 orderI_does) (pc := fun _ => true) ((PureOk.nil.cons (s := taskSpec) (k := 98) (fun _ _ => rfl)).cons (s := fnI orderT) (k := 41) (fun _ _ => rfl)) mixed (tasksSpec) (fun a id _ => tasksInv a id) (ord83) 3000 (rs := [.tmp 4]) rfl (n := 52) rfl (by decide) (by kernel_rfl) ?_
  intro (a : Int × List (List UInt8)) hp
  refine ⟨of_decide_eq_true (by kernel_rfl), ?_⟩
  refine vc_of (Q := bif decide ((↑a.snd.length : Int) = (0 : Int)) then ∃ (b : Int × List Tsk), (∀ (t : Int × List Tsk), tasksOf a.snd = some t → b = t) ∧ true = true ∧ (tasksOf a.snd).isSome = false ∧ (0 : Nat) < (3 : Nat) ∧ (44 : TypeId) = (44 : TypeId) ∧ true = true ∧ a.fst = a.fst ∧ (1 : Nat) < (3 : Nat) ∧ some (1 : Nat) = some (1 : Nat) ∧ true = true ∧ (0 : Int) = (0 : Int) ∧ true = true ∧ (0 : Int) = (0 : Int) ∧ true = true ∧ (0 : Int) = (0 : Int) ∧ true = true ∧ (0 : Int) = (0 : Int) ∧ true = true ∧ (0 : Int) = (0 : Int) ∧ true = true ∧ (0 : Int) = (0 : Int) ∧ true = true ∧ b.fst = (0 : Int) ∧ (2 : Nat) < (3 : Nat) ∧ (none : Option Nat) = none ∧ (2 : Nat) < (3 : Nat) ∧ b.snd.length = (0 : Nat) ∧ True else ((0 : Int) ≤ (0 : Int) ∧ (0 : Int) < (↑a.snd.length : Int)) ∧ (0 : Nat) < a.snd.length ∧ (1 : Nat) ≤ (1 : Nat) ∧ true = true ∧ True ∧ true = true ∧ (0 : Int) = (0 : Int) ∧ true = true ∧ ∀ (b : Unit), True → bif decide (a.snd.getD (0 : Nat) [] = orderT (0 : Int)) then true = true ∧ (1 : Nat) = (1 : Nat) ∧ (9 : Nat) ≤ (11 : Nat) ∧ ((0 : Int) ≤ (1 : Int) ∧ (1 : Int) ≤ (↑a.snd.length : Int) ∧ (↑a.snd.length : Int) ≤ (↑a.snd.length : Int)) ∧ (∃ (x : Nat), (x ≤ a.snd.tail.length ∧ (List.take x a.snd.tail).all tskOk = true) ∧ true = true ∧ true = true ∧ (↑x : Int) = (0 : Int) ∧ (0 : Nat) < (3 : Nat) ∧ some (0 : Nat) = some (0 : Nat) ∧ (0 : Nat) = (0 : Nat) ∧ (1 : Nat) = (1 : Nat) ∧ (↑a.snd.length : Int).toNat - (1 : Nat) = (↑a.snd.length : Int).toNat - (1 : Nat) ∧ (∀ (i j : Nat), i < (↑a.snd.length : Int).toNat - (1 : Nat) → j < (1 : Nat) → CV.str (a.snd.getD ((1 : Nat) + i) []) = CV.str (a.snd.getD ((1 : Nat) + i) [])) ∧ true = true ∧ (↑((↑a.snd.length : Int).toNat - (1 : Nat)) : Int) = (↑((↑a.snd.length : Int).toNat - (1 : Nat)) : Int) ∧ (0 : Nat) < (3 : Nat) ∧ (44 : TypeId) = (44 : TypeId) ∧ true = true ∧ a.fst = a.fst ∧ (1 : Nat) < (3 : Nat) ∧ some (1 : Nat) = some (1 : Nat) ∧ true = true ∧ (0 : Int) = (0 : Int) ∧ true = true ∧ (0 : Int) = (0 : Int) ∧ true = true ∧ (0 : Int) = (0 : Int) ∧ true = true ∧ (0 : Int) = (0 : Int) ∧ true = true ∧ (0 : Int) = (0 : Int) ∧ true = true ∧ (0 : Int) = (0 : Int) ∧ true = true ∧ (ordOf (a.snd.getD (0 : Nat) [])).getD (0 : Int) = (0 : Int) ∧ (2 : Nat) < (3 : Nat) ∧ (none : Option Nat) = none ∧ (2 : Nat) < (3 : Nat) ∧ x = (0 : Nat) ∧ True) ∧ ∀ (x : Nat), x ≤ a.snd.tail.length ∧ (List.take x a.snd.tail).all tskOk = true → bif decide ((↑x : Int) < (↑((↑a.snd.length : Int).toNat - (1 : Nat)) : Int)) then ((0 : Int) ≤ (↑x : Int) ∧ (↑x : Int) < (↑((↑a.snd.length : Int).toNat - (1 : Nat)) : Int)) ∧ (↑x : Int).toNat < (↑a.snd.length : Int).toNat - (1 : Nat) ∧ (1 : Nat) ≤ (1 : Nat) ∧ true = true ∧ (a.snd.getD ((1 : Nat) + (↑x : Int).toNat) []).length < (4294967281 : Nat) ∧ a.snd.getD ((1 : Nat) + (↑x : Int).toNat) [] = a.snd.getD ((1 : Nat) + (↑x : Int).toNat) [] ∧ true = true ∧ ∀ (b : Tsk), (∀ (t : Tsk), taskOf (a.snd.getD ((1 : Nat) + (↑x : Int).toNat) []) = some t → b = t) → true = true ∧ (5 : Nat) = (5 : Nat) ∧ (5 : Nat) ≤ (5 : Nat) ∧ bif !(taskOf (a.snd.getD ((1 : Nat) + (↑x : Int).toNat) [])).isSome then ∃ (b : Int × List Tsk), (∀ (t : Int × List Tsk), tasksOf a.snd = some t → b = t) ∧ true = true ∧ (tasksOf a.snd).isSome = false ∧ (0 : Nat) < (3 : Nat) ∧ (44 : TypeId) = (44 : TypeId) ∧ true = true ∧ a.fst = a.fst ∧ (1 : Nat) < (3 : Nat) ∧ some (1 : Nat) = some (1 : Nat) ∧ true = true ∧ (0 : Int) = (0 : Int) ∧ true = true ∧ (0 : Int) = (0 : Int) ∧ true = true ∧ (0 : Int) = (0 : Int) ∧ true = true ∧ (0 : Int) = (0 : Int) ∧ true = true ∧ (0 : Int) = (0 : Int) ∧ true = true ∧ (0 : Int) = (0 : Int) ∧ true = true ∧ b.fst = (ordOf (a.snd.getD (0 : Nat) [])).getD (0 : Int) ∧ (2 : Nat) < (3 : Nat) ∧ some (2 : Nat) = some (2 : Nat) ∧ (2 : Nat) < (3 : Nat) ∧ (65 : TypeId) = (65 : TypeId) ∧ (5 : Nat) = (5 : Nat) ∧ b.snd.length = x ∧ (∀ (i j : Nat), i < b.snd.length → j < (5 : Nat) → tabE tsk0 tskC b.snd i j = tabE tsk0 tskC (List.map tskAt (List.take x a.snd.tail)) i j) ∧ True else (10 : Nat) ≤ (11 : Nat) ∧ true = true ∧ (5 : Nat) ≤ (5 : Nat) ∧ true = true ∧ true = true ∧ true = true ∧ true = true ∧ true = true ∧ (5 : Nat) ≤ (16777216 : Nat) ∧ (0 : Nat) < (5 : Nat) ∧ true = true ∧ true = true ∧ true = true ∧ true = true ∧ true = true ∧ x + (1 : Nat) ≤ (9223372036854775807 : Nat) ∧ (x + (1 : Nat)) * (56 : Nat) ≤ (140737488355328 : Nat) ∧ (0 : Nat) < (1 : Nat) ∧ (0 : Nat) < (5 : Nat) ∧ true = true ∧ (1 : Nat) = (1 : Nat) ∧ (10 : Nat) ≤ (11 : Nat) ∧ ∃ (x' : Nat), (x' ≤ a.snd.tail.length ∧ (List.take x' a.snd.tail).all tskOk = true) ∧ a.snd.tail.length - x' < a.snd.tail.length - x ∧ true = true ∧ true = true ∧ (↑x' : Int) = IntKind.i64.wrap ((↑x : Int) + (1 : Int)) ∧ (0 : Nat) < (3 : Nat) ∧ some (0 : Nat) = some (0 : Nat) ∧ (0 : Nat) = (0 : Nat) ∧ (1 : Nat) = (1 : Nat) ∧ (↑a.snd.length : Int).toNat - (1 : Nat) = (↑a.snd.length : Int).toNat - (1 : Nat) ∧ (∀ (i j : Nat), i < (↑a.snd.length : Int).toNat - (1 : Nat) → j < (1 : Nat) → CV.str (a.snd.getD ((1 : Nat) + i) []) = CV.str (a.snd.getD ((1 : Nat) + i) [])) ∧ true = true ∧ (↑((↑a.snd.length : Int).toNat - (1 : Nat)) : Int) = (↑((↑a.snd.length : Int).toNat - (1 : Nat)) : Int) ∧ (0 : Nat) < (3 : Nat) ∧ (44 : TypeId) = (44 : TypeId) ∧ true = true ∧ a.fst = a.fst ∧ (1 : Nat) < (3 : Nat) ∧ some (1 : Nat) = some (1 : Nat) ∧ true = true ∧ (0 : Int) = (0 : Int) ∧ true = true ∧ (0 : Int) = (0 : Int) ∧ true = true ∧ (0 : Int) = (0 : Int) ∧ true = true ∧ (0 : Int) = (0 : Int) ∧ true = true ∧ (0 : Int) = (0 : Int) ∧ true = true ∧ (0 : Int) = (0 : Int) ∧ true = true ∧ (ordOf (a.snd.getD (0 : Nat) [])).getD (0 : Int) = (ordOf (a.snd.getD (0 : Nat) [])).getD (0 : Int) ∧ (2 : Nat) < (3 : Nat) ∧ some (5 : Nat) = some (5 : Nat) ∧ (2 : Nat) < (3 : Nat) ∧ (65 : TypeId) = (65 : Nat) ∧ (5 : Nat) = (5 : Nat) ∧ x' = x + (1 : Nat) ∧ (∀ (i j : Nat), i < x' → j < (5 : Nat) → tabE tsk0 tskC (List.map tskAt (List.take x' a.snd.tail)) i j = if i < x then tabE tsk0 tskC (List.map tskAt (List.take x a.snd.tail)) i j else nth [CV.int IntKind.i64 b.cost, CV.int IntKind.i64 b.period, CV.int IntKind.i64 b.dead, CV.ro (3 : Nat) b.secs.length (tabE sec0 secC b.secs), CV.int IntKind.i64 b.pol] j) ∧ True else ∃ (b : Int × List Tsk), (∀ (t : Int × List Tsk), tasksOf a.snd = some t → b = t) ∧ true = true ∧ (tasksOf a.snd).isSome = true ∧ (0 : Nat) < (3 : Nat) ∧ (44 : TypeId) = (44 : TypeId) ∧ true = true ∧ a.fst = a.fst ∧ (1 : Nat) < (3 : Nat) ∧ some (1 : Nat) = some (1 : Nat) ∧ true = true ∧ (0 : Int) = (0 : Int) ∧ true = true ∧ (0 : Int) = (0 : Int) ∧ true = true ∧ (0 : Int) = (0 : Int) ∧ true = true ∧ (0 : Int) = (0 : Int) ∧ true = true ∧ (0 : Int) = (0 : Int) ∧ true = true ∧ (0 : Int) = (0 : Int) ∧ true = true ∧ b.fst = (ordOf (a.snd.getD (0 : Nat) [])).getD (0 : Int) ∧ (2 : Nat) < (3 : Nat) ∧ some (2 : Nat) = some (2 : Nat) ∧ (2 : Nat) < (3 : Nat) ∧ (65 : TypeId) = (65 : TypeId) ∧ (5 : Nat) = (5 : Nat) ∧ b.snd.length = x ∧ (∀ (i j : Nat), i < b.snd.length → j < (5 : Nat) → tabE tsk0 tskC b.snd i j = tabE tsk0 tskC (List.map tskAt (List.take x a.snd.tail)) i j) ∧ True else True ∧ true = true ∧ (1 : Int) = (1 : Int) ∧ true = true ∧ ∀ (b : Unit), True → bif decide (a.snd.getD (0 : Nat) [] = orderT (1 : Int)) then true = true ∧ (1 : Nat) = (1 : Nat) ∧ (9 : Nat) ≤ (11 : Nat) ∧ ((0 : Int) ≤ (1 : Int) ∧ (1 : Int) ≤ (↑a.snd.length : Int) ∧ (↑a.snd.length : Int) ≤ (↑a.snd.length : Int)) ∧ (∃ (x : Nat), (x ≤ a.snd.tail.length ∧ (List.take x a.snd.tail).all tskOk = true) ∧ true = true ∧ true = true ∧ (↑x : Int) = (0 : Int) ∧ (0 : Nat) < (3 : Nat) ∧ some (0 : Nat) = some (0 : Nat) ∧ (0 : Nat) = (0 : Nat) ∧ (1 : Nat) = (1 : Nat) ∧ (↑a.snd.length : Int).toNat - (1 : Nat) = (↑a.snd.length : Int).toNat - (1 : Nat) ∧ (∀ (i j : Nat), i < (↑a.snd.length : Int).toNat - (1 : Nat) → j < (1 : Nat) → CV.str (a.snd.getD ((1 : Nat) + i) []) = CV.str (a.snd.getD ((1 : Nat) + i) [])) ∧ true = true ∧ (↑((↑a.snd.length : Int).toNat - (1 : Nat)) : Int) = (↑((↑a.snd.length : Int).toNat - (1 : Nat)) : Int) ∧ (0 : Nat) < (3 : Nat) ∧ (44 : TypeId) = (44 : TypeId) ∧ true = true ∧ a.fst = a.fst ∧ (1 : Nat) < (3 : Nat) ∧ some (1 : Nat) = some (1 : Nat) ∧ true = true ∧ (0 : Int) = (0 : Int) ∧ true = true ∧ (0 : Int) = (0 : Int) ∧ true = true ∧ (0 : Int) = (0 : Int) ∧ true = true ∧ (0 : Int) = (0 : Int) ∧ true = true ∧ (0 : Int) = (0 : Int) ∧ true = true ∧ (0 : Int) = (0 : Int) ∧ true = true ∧ (ordOf (a.snd.getD (0 : Nat) [])).getD (0 : Int) = (1 : Int) ∧ (2 : Nat) < (3 : Nat) ∧ (none : Option Nat) = none ∧ (2 : Nat) < (3 : Nat) ∧ x = (0 : Nat) ∧ True) ∧ ∀ (x : Nat), x ≤ a.snd.tail.length ∧ (List.take x a.snd.tail).all tskOk = true → bif decide ((↑x : Int) < (↑((↑a.snd.length : Int).toNat - (1 : Nat)) : Int)) then ((0 : Int) ≤ (↑x : Int) ∧ (↑x : Int) < (↑((↑a.snd.length : Int).toNat - (1 : Nat)) : Int)) ∧ (↑x : Int).toNat < (↑a.snd.length : Int).toNat - (1 : Nat) ∧ (1 : Nat) ≤ (1 : Nat) ∧ true = true ∧ (a.snd.getD ((1 : Nat) + (↑x : Int).toNat) []).length < (4294967281 : Nat) ∧ a.snd.getD ((1 : Nat) + (↑x : Int).toNat) [] = a.snd.getD ((1 : Nat) + (↑x : Int).toNat) [] ∧ true = true ∧ ∀ (b : Tsk), (∀ (t : Tsk), taskOf (a.snd.getD ((1 : Nat) + (↑x : Int).toNat) []) = some t → b = t) → true = true ∧ (5 : Nat) = (5 : Nat) ∧ (5 : Nat) ≤ (5 : Nat) ∧ bif !(taskOf (a.snd.getD ((1 : Nat) + (↑x : Int).toNat) [])).isSome then ∃ (b : Int × List Tsk), (∀ (t : Int × List Tsk), tasksOf a.snd = some t → b = t) ∧ true = true ∧ (tasksOf a.snd).isSome = false ∧ (0 : Nat) < (3 : Nat) ∧ (44 : TypeId) = (44 : TypeId) ∧ true = true ∧ a.fst = a.fst ∧ (1 : Nat) < (3 : Nat) ∧ some (1 : Nat) = some (1 : Nat) ∧ true = true ∧ (0 : Int) = (0 : Int) ∧ true = true ∧ (0 : Int) = (0 : Int) ∧ true = true ∧ (0 : Int) = (0 : Int) ∧ true = true ∧ (0 : Int) = (0 : Int) ∧ true = true ∧ (0 : Int) = (0 : Int) ∧ true = true ∧ (0 : Int) = (0 : Int) ∧ true = true ∧ b.fst = (ordOf (a.snd.getD (0 : Nat) [])).getD (0 : Int) ∧ (2 : Nat) < (3 : Nat) ∧ some (2 : Nat) = some (2 : Nat) ∧ (2 : Nat) < (3 : Nat) ∧ (65 : TypeId) = (65 : TypeId) ∧ (5 : Nat) = (5 : Nat) ∧ b.snd.length = x ∧ (∀ (i j : Nat), i < b.snd.length → j < (5 : Nat) → tabE tsk0 tskC b.snd i j = tabE tsk0 tskC (List.map tskAt (List.take x a.snd.tail)) i j) ∧ True else (10 : Nat) ≤ (11 : Nat) ∧ true = true ∧ (5 : Nat) ≤ (5 : Nat) ∧ true = true ∧ true = true ∧ true = true ∧ true = true ∧ true = true ∧ (5 : Nat) ≤ (16777216 : Nat) ∧ (0 : Nat) < (5 : Nat) ∧ true = true ∧ true = true ∧ true = true ∧ true = true ∧ true = true ∧ x + (1 : Nat) ≤ (9223372036854775807 : Nat) ∧ (x + (1 : Nat)) * (56 : Nat) ≤ (140737488355328 : Nat) ∧ (0 : Nat) < (1 : Nat) ∧ (0 : Nat) < (5 : Nat) ∧ true = true ∧ (1 : Nat) = (1 : Nat) ∧ (10 : Nat) ≤ (11 : Nat) ∧ ∃ (x' : Nat), (x' ≤ a.snd.tail.length ∧ (List.take x' a.snd.tail).all tskOk = true) ∧ a.snd.tail.length - x' < a.snd.tail.length - x ∧ true = true ∧ true = true ∧ (↑x' : Int) = IntKind.i64.wrap ((↑x : Int) + (1 : Int)) ∧ (0 : Nat) < (3 : Nat) ∧ some (0 : Nat) = some (0 : Nat) ∧ (0 : Nat) = (0 : Nat) ∧ (1 : Nat) = (1 : Nat) ∧ (↑a.snd.length : Int).toNat - (1 : Nat) = (↑a.snd.length : Int).toNat - (1 : Nat) ∧ (∀ (i j : Nat), i < (↑a.snd.length : Int).toNat - (1 : Nat) → j < (1 : Nat) → CV.str (a.snd.getD ((1 : Nat) + i) []) = CV.str (a.snd.getD ((1 : Nat) + i) [])) ∧ true = true ∧ (↑((↑a.snd.length : Int).toNat - (1 : Nat)) : Int) = (↑((↑a.snd.length : Int).toNat - (1 : Nat)) : Int) ∧ (0 : Nat) < (3 : Nat) ∧ (44 : TypeId) = (44 : TypeId) ∧ true = true ∧ a.fst = a.fst ∧ (1 : Nat) < (3 : Nat) ∧ some (1 : Nat) = some (1 : Nat) ∧ true = true ∧ (0 : Int) = (0 : Int) ∧ true = true ∧ (0 : Int) = (0 : Int) ∧ true = true ∧ (0 : Int) = (0 : Int) ∧ true = true ∧ (0 : Int) = (0 : Int) ∧ true = true ∧ (0 : Int) = (0 : Int) ∧ true = true ∧ (0 : Int) = (0 : Int) ∧ true = true ∧ (ordOf (a.snd.getD (0 : Nat) [])).getD (0 : Int) = (ordOf (a.snd.getD (0 : Nat) [])).getD (0 : Int) ∧ (2 : Nat) < (3 : Nat) ∧ some (5 : Nat) = some (5 : Nat) ∧ (2 : Nat) < (3 : Nat) ∧ (65 : TypeId) = (65 : Nat) ∧ (5 : Nat) = (5 : Nat) ∧ x' = x + (1 : Nat) ∧ (∀ (i j : Nat), i < x' → j < (5 : Nat) → tabE tsk0 tskC (List.map tskAt (List.take x' a.snd.tail)) i j = if i < x then tabE tsk0 tskC (List.map tskAt (List.take x a.snd.tail)) i j else nth [CV.int IntKind.i64 b.cost, CV.int IntKind.i64 b.period, CV.int IntKind.i64 b.dead, CV.ro (3 : Nat) b.secs.length (tabE sec0 secC b.secs), CV.int IntKind.i64 b.pol] j) ∧ True else ∃ (b : Int × List Tsk), (∀ (t : Int × List Tsk), tasksOf a.snd = some t → b = t) ∧ true = true ∧ (tasksOf a.snd).isSome = true ∧ (0 : Nat) < (3 : Nat) ∧ (44 : TypeId) = (44 : TypeId) ∧ true = true ∧ a.fst = a.fst ∧ (1 : Nat) < (3 : Nat) ∧ some (1 : Nat) = some (1 : Nat) ∧ true = true ∧ (0 : Int) = (0 : Int) ∧ true = true ∧ (0 : Int) = (0 : Int) ∧ true = true ∧ (0 : Int) = (0 : Int) ∧ true = true ∧ (0 : Int) = (0 : Int) ∧ true = true ∧ (0 : Int) = (0 : Int) ∧ true = true ∧ (0 : Int) = (0 : Int) ∧ true = true ∧ b.fst = (ordOf (a.snd.getD (0 : Nat) [])).getD (0 : Int) ∧ (2 : Nat) < (3 : Nat) ∧ some (2 : Nat) = some (2 : Nat) ∧ (2 : Nat) < (3 : Nat) ∧ (65 : TypeId) = (65 : TypeId) ∧ (5 : Nat) = (5 : Nat) ∧ b.snd.length = x ∧ (∀ (i j : Nat), i < b.snd.length → j < (5 : Nat) → tabE tsk0 tskC b.snd i j = tabE tsk0 tskC (List.map tskAt (List.take x a.snd.tail)) i j) ∧ True else ∃ (b : Int × List Tsk), (∀ (t : Int × List Tsk), tasksOf a.snd = some t → b = t) ∧ true = true ∧ (tasksOf a.snd).isSome = false ∧ (0 : Nat) < (3 : Nat) ∧ (44 : TypeId) = (44 : TypeId) ∧ true = true ∧ a.fst = a.fst ∧ (1 : Nat) < (3 : Nat) ∧ some (1 : Nat) = some (1 : Nat) ∧ true = true ∧ (0 : Int) = (0 : Int) ∧ true = true ∧ (0 : Int) = (0 : Int) ∧ true = true ∧ (0 : Int) = (0 : Int) ∧ true = true ∧ (0 : Int) = (0 : Int) ∧ true = true ∧ (0 : Int) = (0 : Int) ∧ true = true ∧ (0 : Int) = (0 : Int) ∧ true = true ∧ b.fst = (0 : Int) ∧ (2 : Nat) < (3 : Nat) ∧ (none : Option Nat) = none ∧ (2 : Nat) < (3 : Nat) ∧ b.snd.length = (0 : Nat) ∧ True) (by kernel_rfl) ?_
  try simp only [condP, eq_self, true_and, and_true, and_self, cond_or, cond_and, decide_true, decide_false, imp_self, implies_true, forall_const, exists_const, exists_prop, decide_eq_true_eq, decide_eq_false_iff_not, Bool.and_eq_true, Bool.or_eq_true, Bool.not_eq_true', Bool.not_eq_false', Bool.or_eq_false_iff, Bool.and_eq_false_imp, tdiv_u64, tmod_u64, Int.toNat_natCast, Int.toNat_zero, Int.reduceToNat, Int.reduceAdd, Int.reduceMod, Int.reduceSub, Int.reduceMul, Int.reduceNeg, Int.reduceLT, Int.reduceLE, Int.cast_ofNat_Int, Nat.reduceLT, Nat.reduceLeDiff, Nat.reduceEqDiff, Nat.reduceAdd, Nat.reduceMul, Nat.reduceSub, Nat.reducePow, Nat.le_refl, Int.le_refl, Nat.zero_add, Nat.add_zero, Nat.mul_one, Nat.zero_le, Bool.false_eq_true, Bool.true_eq_false, reduceCtorEq, not_false_eq_true, not_true_eq_false, false_implies, true_implies, Nat.lt_irrefl, Int.lt_irrefl, UInt8.reduceOfNat, UInt8.reduceToNat]
  obtain ⟨kd, l⟩ := a
  have hp : l.length < 4294967281 ∧ ∀ i, (l.getD i []).length < 4294967281 := hp
  match l, hp with
  | [], _ =>
    simp [tasksOf]
  | w :: ws, hp =>
  have hw0 : (w :: ws).getD 0 [] = w := rfl
  have hws : (w :: ws).tail = ws := rfl
  have hle : (w :: ws).length = ws.length + 1 := rfl
  have hat : ∀ i, (w :: ws).getD (1 + i) [] = ws.getD i [] := fun i => by rw [Nat.add_comm]; rfl
  have hps : ∀ i, (ws.getD i []).length < 4294967281 := fun i => by rw [← hat]; exact hp.2 _
  have hp := hp.1
  rw [hle] at hp
  simp only [hw0, hws, hle, hat]
  have hto : tasksOf (w :: ws) = match ordOf w with
    | none => none
    | some o => if ws.all tskOk = true then some (o, ws.map tskAt) else none := rfl
  generalize w :: ws = L at *
  clear hw0 hws hle hat
  have hn : tasksOf L = none → ∀ b : Int × List Tsk, (∀ t, tasksOf L = some t → b = t) ∧ (tasksOf L).isSome = false := fun h b => (by rw [h]; exact ⟨fun t ht => (by cases ht), rfl⟩)
  have hbad : ws.all tskOk = false → tasksOf L = none := fun h => by
    rw [hto]
    split
    · rfl
    · rw [if_neg (by rw [h]; decide)]
  have hgood : ∀ o, ordOf w = some o → ws.all tskOk = true → tasksOf L = some (o, ws.map tskAt) := fun o ho h => by
    rw [hto, ho]
    exact if_pos h
  (repeat' (first | (apply And.intro) | (intro _))) <;> (try simp (disch := omega) only [w64, wu64, wu8, Int.toNat_natCast, toNat_add_one, toNat_one_add] at *) <;> (try (first | (with_reducible rfl) | (with_reducible assumption) | exact True.intro | omega))
  · rename_i he
    have ho : ordOf w = some 0 := by unfold ordOf; rw [if_pos he]
    exact ⟨0, ⟨Nat.zero_le _, rfl⟩, rfl, by rw [ho]; rfl, rfl⟩
  · rename_i x h1 h2
    exact hps x
  · rename_i he x h1 h2 b hb hf
    have ho : ordOf w = some 0 := by unfold ordOf; rw [if_pos he]
    have hx : x < ws.length := by omega
    have h := hn (hbad (all_not [] hx hf)) ((ordOf w).getD 0, (ws.take x).map tskAt)
    exact ⟨_, h.1, h.2, rfl, by rw [List.length_map, List.length_take]; omega, fun _ _ _ _ => rfl⟩
  · rename_i he x h1 h2 b hb hf
    have hx : x < ws.length := by omega
    have hbt := tskAt_of hf hb
    refine ⟨x + 1, ⟨by omega, by rw [take_all_succ [] hx h1.2]; exact hf⟩, by omega, by omega, rfl, fun i j hi hj => ?_⟩
    rw [map_take_snoc ws [] _ hx, ← hbt]
    exact tabE_snoc (by rw [List.length_map, List.length_take]; omega) hi
  · rename_i he x h1 h2
    have ho : ordOf w = some 0 := by unfold ordOf; rw [if_pos he]
    have hx : x = ws.length := by omega
    subst hx
    rw [List.take_length] at h1 ⊢
    have hy := hgood _ ho h1.2
    rw [hy]
    exact ⟨_, fun t ht => Option.some.inj ht, rfl, by rw [ho]; rfl, by rw [List.length_map], fun _ _ _ _ => rfl⟩
  · rename_i hne he
    have ho : ordOf w = some 1 := by unfold ordOf; rw [if_neg hne, if_pos he]
    exact ⟨0, ⟨Nat.zero_le _, rfl⟩, rfl, by rw [ho]; rfl, rfl⟩
  · rename_i x h1 h2
    exact hps x
  · rename_i hne he x h1 h2 b hb hf
    have ho : ordOf w = some 1 := by unfold ordOf; rw [if_neg hne, if_pos he]
    have hx : x < ws.length := by omega
    have h := hn (hbad (all_not [] hx hf)) ((ordOf w).getD 0, (ws.take x).map tskAt)
    exact ⟨_, h.1, h.2, rfl, by rw [List.length_map, List.length_take]; omega, fun _ _ _ _ => rfl⟩
  · rename_i hne he x h1 h2 b hb hf
    have hx : x < ws.length := by omega
    have hbt := tskAt_of hf hb
    refine ⟨x + 1, ⟨by omega, by rw [take_all_succ [] hx h1.2]; exact hf⟩, by omega, by omega, rfl, fun i j hi hj => ?_⟩
    rw [map_take_snoc ws [] _ hx, ← hbt]
    exact tabE_snoc (by rw [List.length_map, List.length_take]; omega) hi
  · rename_i hne he x h1 h2
    have ho : ordOf w = some 1 := by unfold ordOf; rw [if_neg hne, if_pos he]
    have hx : x = ws.length := by omega
    subst hx
    rw [List.take_length] at h1 ⊢
    have hy := hgood _ ho h1.2
    rw [hy]
    exact ⟨_, fun t ht => Option.some.inj ht, rfl, by rw [ho]; rfl, by rw [List.length_map], fun _ _ _ _ => rfl⟩
  · rename_i hne hne'
    have ho : ordOf w = none := by unfold ordOf; rw [if_neg hne, if_neg hne']
    have h := hn (by rw [hto, ho]) (0, [])
    exact ⟨_, h.1, h.2, rfl, rfl⟩
end Go.Sx.Tryd
namespace Go.Sx.Tryd
open Go Go.Sx Go.Proofs
variable {mx : Int}
set_option linter.unusedSimpArgs false
set_option maxRecDepth 20000
set_option maxHeartbeats 4000000
def restInv (a : Int × List (List UInt8)) : Nat → Option Inv := fun id =>
  bif id == 6 then some { α := Nat, keep := [0, 22, 23], drop := [0], env := fun _ x => [(24, .r (.c (.int .i64 x)))], chunks := fun b x => [(0, .cells 44 [.int .i64 a.1, .osl 1, .int .u64 0, .int .i64 0, .int .i64 0, .int .i64 0, .int .i64 0, .int .i64 0, .int .i64 0, .nils, .osl b]), (b, .row 74 5 x (tabE ins0 insC ((a.2.take x).map insAt)))], fresh := 1, pre := fun x => x ≤ a.2.length ∧ (a.2.take x).all insOk = true, μ := fun x => a.2.length - x } else none
theorem rest_does : Does Tryd.prog (glS mx) 61 (restSpec) := by
  refine Does.of (fn := Tryd.f61) Tryd.func61 rfl ttok (spec := lookS [(83, tasksSpec), (84, instSpec), (85, callSpec), (7, numI)]) ((((Known.nil.cons callee7 numI_does).cons callee85 readCall_does).cons callee84 readInst_does).cons callee83 readTasks_does) (pc := fun k => !(k == 83 || k == 85)) ((((PureOk.nil.cons (s := numI) (k := 7) (fun _ _ => rfl)).cons (s := callSpec) (k := 85) (fun h => by cases h)).cons (s := instSpec) (k := 84) (fun _ _ => rfl)).cons (s := tasksSpec) (k := 83) (fun h => by cases h)) mixed (restSpec) (fun a id _ => restInv a id) (ord61) 3000 (rs := [.tmp 4]) rfl (n := 71) rfl (by decide) (by kernel_rfl) ?_
  intro (a : Int × List (List UInt8)) hp
  refine ⟨of_decide_eq_true (by kernel_rfl), ?_⟩
  refine vc_of (Q := (1 : Nat) ≤ (11 : Nat) ∧ true = true ∧ bif decide (a.fst = (4 : Int)) then ∃ (a_1 : Int × List (List UInt8)), (a_1.snd.length < (4294967281 : Nat) ∧ ∀ (i : Nat), (a_1.snd.getD i []).length < (4294967281 : Nat)) ∧ (0 : Nat) < (2 : Nat) ∧ some (0 : Nat) = some (0 : Nat) ∧ (0 : Nat) = (0 : Nat) ∧ (1 : Nat) = (1 : Nat) ∧ a_1.snd.length = a.snd.length ∧ (∀ (i j : Nat), i < a_1.snd.length → j < (1 : Nat) → CV.str (a_1.snd.getD i []) = CV.str (a.snd.getD i [])) ∧ true = true ∧ (0 : Nat) < (2 : Nat) ∧ (44 : TypeId) = (44 : TypeId) ∧ true = true ∧ a_1.fst = a.fst ∧ (1 : Nat) < (2 : Nat) ∧ some (1 : Nat) = some (1 : Nat) ∧ true = true ∧ (0 : Int) = (0 : Int) ∧ true = true ∧ (0 : Int) = (0 : Int) ∧ true = true ∧ (0 : Int) = (0 : Int) ∧ true = true ∧ (0 : Int) = (0 : Int) ∧ true = true ∧ (0 : Int) = (0 : Int) ∧ true = true ∧ (0 : Int) = (0 : Int) ∧ true = true ∧ (0 : Int) = (0 : Int) ∧ ∀ (b : Int × List Tsk), (∀ (t : Int × List Tsk), tasksOf a_1.snd = some t → b = t) → ∃ (b_1 : RestB), (∀ (t : RestB), restOf a.fst a.snd = some t → b_1 = t) ∧ true = true ∧ (restOf a.fst a.snd).isSome = (tasksOf a_1.snd).isSome ∧ (0 : Nat) < (4 : Nat) ∧ (44 : TypeId) = (44 : TypeId) ∧ true = true ∧ a.fst = a_1.fst ∧ (1 : Nat) < (4 : Nat) ∧ some (1 : Nat) = some (1 : Nat) ∧ true = true ∧ b_1.word = (0 : Int) ∧ true = true ∧ b_1.call.op = (0 : Int) ∧ true = true ∧ b_1.call.a = (0 : Int) ∧ true = true ∧ b_1.call.b = (0 : Int) ∧ true = true ∧ b_1.call.c = (0 : Int) ∧ true = true ∧ b_1.call.d = (0 : Int) ∧ true = true ∧ b_1.order = b.fst ∧ (2 : Nat) < (4 : Nat) ∧ some (2 : Nat) = some (2 : Nat) ∧ (3 : Nat) < (4 : Nat) ∧ (none : Option Nat) = none ∧ (2 : Nat) < (4 : Nat) ∧ (65 : TypeId) = (65 : TypeId) ∧ (5 : Nat) = (5 : Nat) ∧ b_1.tasks.length = b.snd.length ∧ (∀ (i j : Nat), i < b_1.tasks.length → j < (5 : Nat) → tabE tsk0 tskC b_1.tasks i j = tabE tsk0 tskC b.snd i j) ∧ (3 : Nat) < (4 : Nat) ∧ b_1.code.length = (0 : Nat) ∧ True else bif decide (a.fst = (6 : Int)) then (∃ (x : Nat), (x ≤ a.snd.length ∧ (List.take x a.snd).all insOk = true) ∧ true = true ∧ true = true ∧ (↑x : Int) = (0 : Int) ∧ (0 : Nat) < (3 : Nat) ∧ some (0 : Nat) = some (0 : Nat) ∧ (0 : Nat) = (0 : Nat) ∧ (1 : Nat) = (1 : Nat) ∧ a.snd.length = a.snd.length ∧ (∀ (i j : Nat), i < a.snd.length → j < (1 : Nat) → CV.str (a.snd.getD i []) = CV.str (a.snd.getD i [])) ∧ true = true ∧ (↑a.snd.length : Int) = (↑a.snd.length : Int) ∧ (0 : Nat) < (3 : Nat) ∧ (44 : TypeId) = (44 : TypeId) ∧ true = true ∧ a.fst = a.fst ∧ (1 : Nat) < (3 : Nat) ∧ some (1 : Nat) = some (1 : Nat) ∧ true = true ∧ (0 : Int) = (0 : Int) ∧ true = true ∧ (0 : Int) = (0 : Int) ∧ true = true ∧ (0 : Int) = (0 : Int) ∧ true = true ∧ (0 : Int) = (0 : Int) ∧ true = true ∧ (0 : Int) = (0 : Int) ∧ true = true ∧ (0 : Int) = (0 : Int) ∧ true = true ∧ (0 : Int) = (0 : Int) ∧ (2 : Nat) < (3 : Nat) ∧ (none : Option Nat) = none ∧ (2 : Nat) < (3 : Nat) ∧ x = (0 : Nat) ∧ True) ∧ ∀ (x : Nat), x ≤ a.snd.length ∧ (List.take x a.snd).all insOk = true → bif decide ((↑x : Int) < (↑a.snd.length : Int)) then ((0 : Int) ≤ (↑x : Int) ∧ (↑x : Int) < (↑a.snd.length : Int)) ∧ (↑x : Int).toNat < a.snd.length ∧ (1 : Nat) ≤ (1 : Nat) ∧ true = true ∧ (a.snd.getD (↑x : Int).toNat []).length < (4294967281 : Nat) ∧ a.snd.getD (↑x : Int).toNat [] = a.snd.getD (↑x : Int).toNat [] ∧ true = true ∧ ∀ (b : Ins), (∀ (t : Ins), instOf (a.snd.getD (↑x : Int).toNat []) = some t → b = t) → true = true ∧ (5 : Nat) = (5 : Nat) ∧ (5 : Nat) ≤ (5 : Nat) ∧ bif !(instOf (a.snd.getD (↑x : Int).toNat [])).isSome then ∃ (b : RestB), (∀ (t : RestB), restOf a.fst a.snd = some t → b = t) ∧ true = true ∧ (restOf a.fst a.snd).isSome = false ∧ (0 : Nat) < (4 : Nat) ∧ (44 : TypeId) = (44 : TypeId) ∧ true = true ∧ a.fst = a.fst ∧ (1 : Nat) < (4 : Nat) ∧ some (1 : Nat) = some (1 : Nat) ∧ true = true ∧ b.word = (0 : Int) ∧ true = true ∧ b.call.op = (0 : Int) ∧ true = true ∧ b.call.a = (0 : Int) ∧ true = true ∧ b.call.b = (0 : Int) ∧ true = true ∧ b.call.c = (0 : Int) ∧ true = true ∧ b.call.d = (0 : Int) ∧ true = true ∧ b.order = (0 : Int) ∧ (2 : Nat) < (4 : Nat) ∧ (none : Option Nat) = none ∧ (3 : Nat) < (4 : Nat) ∧ some (2 : Nat) = some (2 : Nat) ∧ (2 : Nat) < (4 : Nat) ∧ b.tasks.length = (0 : Nat) ∧ (3 : Nat) < (4 : Nat) ∧ (74 : TypeId) = (74 : TypeId) ∧ (5 : Nat) = (5 : Nat) ∧ b.code.length = x ∧ (∀ (i j : Nat), i < b.code.length → j < (5 : Nat) → tabE ins0 insC b.code i j = tabE ins0 insC (List.map insAt (List.take x a.snd)) i j) ∧ True else (11 : Nat) ≤ (11 : Nat) ∧ true = true ∧ (5 : Nat) ≤ (5 : Nat) ∧ true = true ∧ true = true ∧ true = true ∧ true = true ∧ true = true ∧ (5 : Nat) ≤ (16777216 : Nat) ∧ (0 : Nat) < (5 : Nat) ∧ true = true ∧ true = true ∧ true = true ∧ true = true ∧ true = true ∧ x + (1 : Nat) ≤ (9223372036854775807 : Nat) ∧ (x + (1 : Nat)) * (40 : Nat) ≤ (140737488355328 : Nat) ∧ (0 : Nat) < (1 : Nat) ∧ (0 : Nat) < (5 : Nat) ∧ true = true ∧ (1 : Nat) = (1 : Nat) ∧ (11 : Nat) ≤ (11 : Nat) ∧ ∃ (x' : Nat), (x' ≤ a.snd.length ∧ (List.take x' a.snd).all insOk = true) ∧ a.snd.length - x' < a.snd.length - x ∧ true = true ∧ true = true ∧ (↑x' : Int) = IntKind.i64.wrap ((↑x : Int) + (1 : Int)) ∧ (0 : Nat) < (3 : Nat) ∧ some (0 : Nat) = some (0 : Nat) ∧ (0 : Nat) = (0 : Nat) ∧ (1 : Nat) = (1 : Nat) ∧ a.snd.length = a.snd.length ∧ (∀ (i j : Nat), i < a.snd.length → j < (1 : Nat) → CV.str (a.snd.getD i []) = CV.str (a.snd.getD i [])) ∧ true = true ∧ (↑a.snd.length : Int) = (↑a.snd.length : Int) ∧ (0 : Nat) < (3 : Nat) ∧ (44 : TypeId) = (44 : TypeId) ∧ true = true ∧ a.fst = a.fst ∧ (1 : Nat) < (3 : Nat) ∧ some (1 : Nat) = some (1 : Nat) ∧ true = true ∧ (0 : Int) = (0 : Int) ∧ true = true ∧ (0 : Int) = (0 : Int) ∧ true = true ∧ (0 : Int) = (0 : Int) ∧ true = true ∧ (0 : Int) = (0 : Int) ∧ true = true ∧ (0 : Int) = (0 : Int) ∧ true = true ∧ (0 : Int) = (0 : Int) ∧ true = true ∧ (0 : Int) = (0 : Int) ∧ (2 : Nat) < (3 : Nat) ∧ some (5 : Nat) = some (5 : Nat) ∧ (2 : Nat) < (3 : Nat) ∧ (74 : TypeId) = (74 : Nat) ∧ (5 : Nat) = (5 : Nat) ∧ x' = x + (1 : Nat) ∧ (∀ (i j : Nat), i < x' → j < (5 : Nat) → tabE ins0 insC (List.map insAt (List.take x' a.snd)) i j = if i < x then tabE ins0 insC (List.map insAt (List.take x a.snd)) i j else nth [CV.int IntKind.i64 b.op, CV.int IntKind.i64 b.a, CV.int IntKind.i64 b.b, CV.int IntKind.i64 b.c, CV.int IntKind.u64 b.n] j) ∧ True else ∃ (b : RestB), (∀ (t : RestB), restOf a.fst a.snd = some t → b = t) ∧ true = true ∧ (restOf a.fst a.snd).isSome = true ∧ (0 : Nat) < (4 : Nat) ∧ (44 : TypeId) = (44 : TypeId) ∧ true = true ∧ a.fst = a.fst ∧ (1 : Nat) < (4 : Nat) ∧ some (1 : Nat) = some (1 : Nat) ∧ true = true ∧ b.word = (0 : Int) ∧ true = true ∧ b.call.op = (0 : Int) ∧ true = true ∧ b.call.a = (0 : Int) ∧ true = true ∧ b.call.b = (0 : Int) ∧ true = true ∧ b.call.c = (0 : Int) ∧ true = true ∧ b.call.d = (0 : Int) ∧ true = true ∧ b.order = (0 : Int) ∧ (2 : Nat) < (4 : Nat) ∧ (none : Option Nat) = none ∧ (3 : Nat) < (4 : Nat) ∧ some (2 : Nat) = some (2 : Nat) ∧ (2 : Nat) < (4 : Nat) ∧ b.tasks.length = (0 : Nat) ∧ (3 : Nat) < (4 : Nat) ∧ (74 : TypeId) = (74 : TypeId) ∧ (5 : Nat) = (5 : Nat) ∧ b.code.length = x ∧ (∀ (i j : Nat), i < b.code.length → j < (5 : Nat) → tabE ins0 insC b.code i j = tabE ins0 insC (List.map insAt (List.take x a.snd)) i j) ∧ True else bif decide (a.fst = (11 : Int)) then ∃ (a_1 : Int × List (List UInt8)), a_1.snd.length < (4294967281 : Nat) ∧ (0 : Nat) < (2 : Nat) ∧ some (0 : Nat) = some (0 : Nat) ∧ (0 : Nat) = (0 : Nat) ∧ (1 : Nat) = (1 : Nat) ∧ a_1.snd.length = a.snd.length ∧ (∀ (i j : Nat), i < a_1.snd.length → j < (1 : Nat) → CV.str (a_1.snd.getD i []) = CV.str (a.snd.getD i [])) ∧ true = true ∧ (0 : Nat) < (2 : Nat) ∧ (44 : TypeId) = (44 : TypeId) ∧ true = true ∧ a_1.fst = a.fst ∧ (1 : Nat) < (2 : Nat) ∧ some (1 : Nat) = some (1 : Nat) ∧ true = true ∧ (0 : Int) = (0 : Int) ∧ true = true ∧ (0 : Int) = (0 : Int) ∧ true = true ∧ (0 : Int) = (0 : Int) ∧ true = true ∧ (0 : Int) = (0 : Int) ∧ true = true ∧ (0 : Int) = (0 : Int) ∧ true = true ∧ (0 : Int) = (0 : Int) ∧ true = true ∧ (0 : Int) = (0 : Int) ∧ ∀ (b : Cal), (∀ (t : Cal), callOf a_1.snd = some t → b = t) → ∃ (b_1 : RestB), (∀ (t : RestB), restOf a.fst a.snd = some t → b_1 = t) ∧ true = true ∧ (restOf a.fst a.snd).isSome = (callOf a_1.snd).isSome ∧ (0 : Nat) < (4 : Nat) ∧ (44 : TypeId) = (44 : TypeId) ∧ true = true ∧ a.fst = a_1.fst ∧ (1 : Nat) < (4 : Nat) ∧ some (1 : Nat) = some (1 : Nat) ∧ true = true ∧ b_1.word = (0 : Int) ∧ true = true ∧ b_1.call.op = b.op ∧ true = true ∧ b_1.call.a = b.a ∧ true = true ∧ b_1.call.b = b.b ∧ true = true ∧ b_1.call.c = b.c ∧ true = true ∧ b_1.call.d = b.d ∧ true = true ∧ b_1.order = (0 : Int) ∧ (2 : Nat) < (4 : Nat) ∧ (none : Option Nat) = none ∧ (3 : Nat) < (4 : Nat) ∧ (none : Option Nat) = none ∧ (2 : Nat) < (4 : Nat) ∧ b_1.tasks.length = (0 : Nat) ∧ (3 : Nat) < (4 : Nat) ∧ b_1.code.length = (0 : Nat) ∧ True else bif decide (a.fst = (12 : Int)) then bif !decide ((↑a.snd.length : Int) = (1 : Int)) then ∃ (b : RestB), (∀ (t : RestB), restOf a.fst a.snd = some t → b = t) ∧ true = true ∧ (restOf a.fst a.snd).isSome = false ∧ (0 : Nat) < (4 : Nat) ∧ (44 : TypeId) = (44 : TypeId) ∧ true = true ∧ a.fst = a.fst ∧ (1 : Nat) < (4 : Nat) ∧ some (1 : Nat) = some (1 : Nat) ∧ true = true ∧ b.word = (0 : Int) ∧ true = true ∧ b.call.op = (0 : Int) ∧ true = true ∧ b.call.a = (0 : Int) ∧ true = true ∧ b.call.b = (0 : Int) ∧ true = true ∧ b.call.c = (0 : Int) ∧ true = true ∧ b.call.d = (0 : Int) ∧ true = true ∧ b.order = (0 : Int) ∧ (2 : Nat) < (4 : Nat) ∧ (none : Option Nat) = none ∧ (3 : Nat) < (4 : Nat) ∧ (none : Option Nat) = none ∧ (2 : Nat) < (4 : Nat) ∧ b.tasks.length = (0 : Nat) ∧ (3 : Nat) < (4 : Nat) ∧ b.code.length = (0 : Nat) ∧ True else ((0 : Int) ≤ (0 : Int) ∧ (0 : Int) < (↑a.snd.length : Int)) ∧ (0 : Nat) < a.snd.length ∧ (1 : Nat) ≤ (1 : Nat) ∧ true = true ∧ ((0 : Int) ≤ (18446744073709551615 : Int) ∧ (18446744073709551615 : Int) < (18446744073709551616 : Int)) ∧ a.snd.getD (0 : Nat) [] = a.snd.getD (0 : Nat) [] ∧ true = true ∧ (18446744073709551615 : Int) = (18446744073709551615 : Int) ∧ true = true ∧ ∀ (b : Unit), True → true = true ∧ (1 : Nat) = (1 : Nat) ∧ (3 : Nat) ≤ (11 : Nat) ∧ ∃ (b : RestB), (∀ (t : RestB), restOf a.fst a.snd = some t → b = t) ∧ true = true ∧ (restOf a.fst a.snd).isSome = (numAns (a.snd.getD (0 : Nat) []) (18446744073709551615 : Int)).snd ∧ (0 : Nat) < (4 : Nat) ∧ (44 : TypeId) = (44 : TypeId) ∧ true = true ∧ a.fst = a.fst ∧ (1 : Nat) < (4 : Nat) ∧ some (1 : Nat) = some (1 : Nat) ∧ true = true ∧ b.word = (numAns (a.snd.getD (0 : Nat) []) (18446744073709551615 : Int)).fst ∧ true = true ∧ b.call.op = (0 : Int) ∧ true = true ∧ b.call.a = (0 : Int) ∧ true = true ∧ b.call.b = (0 : Int) ∧ true = true ∧ b.call.c = (0 : Int) ∧ true = true ∧ b.call.d = (0 : Int) ∧ true = true ∧ b.order = (0 : Int) ∧ (2 : Nat) < (4 : Nat) ∧ (none : Option Nat) = none ∧ (3 : Nat) < (4 : Nat) ∧ (none : Option Nat) = none ∧ (2 : Nat) < (4 : Nat) ∧ b.tasks.length = (0 : Nat) ∧ (3 : Nat) < (4 : Nat) ∧ b.code.length = (0 : Nat) ∧ True else ∃ (b : RestB), (∀ (t : RestB), restOf a.fst a.snd = some t → b = t) ∧ true = true ∧ (restOf a.fst a.snd).isSome = decide ((↑a.snd.length : Int) = (0 : Int)) ∧ (0 : Nat) < (4 : Nat) ∧ (44 : TypeId) = (44 : TypeId) ∧ true = true ∧ a.fst = a.fst ∧ (1 : Nat) < (4 : Nat) ∧ some (1 : Nat) = some (1 : Nat) ∧ true = true ∧ b.word = (0 : Int) ∧ true = true ∧ b.call.op = (0 : Int) ∧ true = true ∧ b.call.a = (0 : Int) ∧ true = true ∧ b.call.b = (0 : Int) ∧ true = true ∧ b.call.c = (0 : Int) ∧ true = true ∧ b.call.d = (0 : Int) ∧ true = true ∧ b.order = (0 : Int) ∧ (2 : Nat) < (4 : Nat) ∧ (none : Option Nat) = none ∧ (3 : Nat) < (4 : Nat) ∧ (none : Option Nat) = none ∧ (2 : Nat) < (4 : Nat) ∧ b.tasks.length = (0 : Nat) ∧ (3 : Nat) < (4 : Nat) ∧ b.code.length = (0 : Nat) ∧ True) (by kernel_rfl) ?_
  try simp only [condP, eq_self, true_and, and_true, and_self, cond_or, cond_and, decide_true, decide_false, imp_self, implies_true, forall_const, exists_const, exists_prop, decide_eq_true_eq, decide_eq_false_iff_not, Bool.and_eq_true, Bool.or_eq_true, Bool.not_eq_true', Bool.not_eq_false', Bool.or_eq_false_iff, Bool.and_eq_false_imp, tdiv_u64, tmod_u64, Int.toNat_natCast, Int.toNat_zero, Int.reduceToNat, Int.reduceAdd, Int.reduceMod, Int.reduceSub, Int.reduceMul, Int.reduceNeg, Int.reduceLT, Int.reduceLE, Int.cast_ofNat_Int, Nat.reduceLT, Nat.reduceLeDiff, Nat.reduceEqDiff, Nat.reduceAdd, Nat.reduceMul, Nat.reduceSub, Nat.reducePow, Nat.le_refl, Int.le_refl, Nat.zero_add, Nat.add_zero, Nat.mul_one, Nat.zero_le, Bool.false_eq_true, Bool.true_eq_false, reduceCtorEq, not_false_eq_true, not_true_eq_false, false_implies, true_implies, Nat.lt_irrefl, Int.lt_irrefl, UInt8.reduceOfNat, UInt8.reduceToNat]
  obtain ⟨kd, l⟩ := a
  have hp : l.length < 4294967281 ∧ ∀ i, (l.getD i []).length < 4294967281 := hp
  obtain ⟨hp, hps⟩ := hp
  have hn : restOf kd l = none → ∀ b : RestB, (∀ t, restOf kd l = some t → b = t) ∧ (restOf kd l).isSome = false := fun h b => (by rw [h]; exact ⟨fun t ht => (by cases ht), rfl⟩)
  have r4 : kd = 4 → restOf kd l = (tasksOf l).map fun x => { rest0 with order := x.1, tasks := x.2 } := fun h => by unfold restOf; rw [if_pos h]
  have r6 : kd = 6 → restOf kd l = if l.all insOk = true then some { rest0 with code := l.map insAt } else none := fun h => by subst h; rfl
  have r11 : kd = 11 → restOf kd l = (callOf l).map fun c => { rest0 with call := c } := fun h => by subst h; rfl
  have r12 : kd = 12 → restOf kd l = match l with
    | [w] => if (numAns w 18446744073709551615).2 then some { rest0 with word := (numAns w 18446744073709551615).1 } else none
    | _ => none := fun h => by subst h; rfl
  have r0 : ¬ kd = 4 → ¬ kd = 6 → ¬ kd = 11 → ¬ kd = 12 → restOf kd l = if l = [] then some rest0 else none := fun h1 h2 h3 h4 => by unfold restOf; rw [if_neg h1, if_neg h2, if_neg h3, if_neg h4]
  simp only
  (repeat' (first | (apply And.intro) | (intro _))) <;> (try simp (disch := omega) only [w64, wu64, wu8, Int.toNat_natCast, toNat_add_one, toNat_one_add] at *) <;> (try (first | (with_reducible rfl) | (with_reducible assumption) | exact True.intro | omega))
  · rename_i h
    refine ⟨(kd, l), ⟨hp, hps⟩, rfl, fun _ _ _ _ => rfl, rfl, fun b hb => ?_⟩
    rw [r4 h]
    refine ⟨{ rest0 with order := b.1, tasks := b.2 }, fun t ht => ?_, ?_, rfl, rfl, rfl, rfl, rfl, rfl, rfl, rfl, rfl, fun _ _ _ _ => rfl, rfl⟩
    · cases e : tasksOf l with
      | none => rw [e] at ht; cases ht
      | some x =>
        rw [e] at ht
        have := hb x e
        subst this
        exact Option.some.inj ht
    · cases tasksOf l <;> rfl
  · exact ⟨0, ⟨Nat.zero_le _, rfl⟩, rfl, rfl⟩
  · rename_i x h1 h2
    exact hps x
  · rename_i h4 h6 x h1 h2 b hb hf
    have hx : x < l.length := by omega
    have h := hn (by rw [r6 h6, if_neg (by rw [all_not (f := insOk) [] hx hf]; decide)]) { rest0 with code := (l.take x).map insAt }
    exact ⟨_, h.1, h.2, rfl, rfl, rfl, rfl, rfl, rfl, rfl, rfl, by rw [List.length_map, List.length_take]; omega, fun _ _ _ _ => rfl⟩
  · rename_i h4 h6 x h1 h2 b hb hf
    have hx : x < l.length := by omega
    have hbt := insAt_of hf hb
    refine ⟨x + 1, ⟨by omega, by rw [take_all_succ [] hx h1.2]; exact hf⟩, by omega, by omega, rfl, fun i j hi hj => ?_⟩
    rw [map_take_snoc l [] _ hx, ← hbt]
    exact tabE_snoc (by rw [List.length_map, List.length_take]; omega) hi
  · rename_i h4 h6 x h1 h2
    have hx : x = l.length := by omega
    subst hx
    rw [List.take_length] at h1 ⊢
    rw [r6 h6, if_pos h1.2]
    exact ⟨_, fun t ht => Option.some.inj ht, rfl, rfl, rfl, rfl, rfl, rfl, rfl, rfl, rfl, by rw [List.length_map], fun _ _ _ _ => rfl⟩
  · rename_i h4 h6 h
    refine ⟨(kd, l), hp, rfl, fun _ _ _ _ => rfl, rfl, fun b hb => ?_⟩
    rw [r11 h]
    refine ⟨{ rest0 with call := b }, fun t ht => ?_, ?_, rfl, rfl, rfl, rfl, rfl, rfl, rfl, rfl, rfl, rfl⟩
    · cases e : callOf l with
      | none => rw [e] at ht; cases ht
      | some x =>
        rw [e] at ht
        have := hb x e
        subst this
        exact Option.some.inj ht
    · cases callOf l <;> rfl
  · rename_i h4 h6 h11 h12 hl
    have h := hn (by
      rw [r12 h12]
      split
      · exact absurd rfl hl
      · rfl) rest0
    exact ⟨_, h.1, h.2, rfl, rfl, rfl, rfl, rfl, rfl, rfl, rfl, rfl⟩
  · rename_i h4 h6 h11 h12 hl
    obtain ⟨w, hw⟩ : ∃ w, l = [w] := by
      match l, hl with
      | [w], _ => exact ⟨w, rfl⟩
      | [], hl => exact absurd hl (by decide)
      | _ :: _ :: _, hl => simp only [List.length_cons] at hl; omega
    subst hw
    rw [r12 h12]
    have hg : [w].getD 0 [] = w := rfl
    rw [hg]
    simp only
    refine ⟨{ rest0 with word := (numAns w 18446744073709551615).1 }, fun t ht => ?_, ?_, rfl, rfl, rfl, rfl, rfl, rfl, rfl, rfl, rfl⟩
    · split at ht
      · exact Option.some.inj ht
      · cases ht
    · cases (numAns w 18446744073709551615).2 <;> rfl
  · rename_i h4 h6 h11 h12
    rw [r0 h4 h6 h11 h12]
    refine ⟨rest0, fun t ht => ?_, ?_, rfl, rfl, rfl, rfl, rfl, rfl, rfl, rfl, rfl⟩
    · split at ht
      · exact Option.some.inj ht
      · cases ht
    · cases l with
      | nil => rfl
      | cons w ws =>
        rw [if_neg (by simp)]
        symm
        exact decide_eq_false (by simp only [List.length_cons]; omega)
end Go.Sx.Tryd
namespace Go.Sx.Tryd
open Go Go.Sx
/-- The kind that a word names, among those below some; 0: none. -/
def knd (x : Nat) (w : List UInt8) : Int := match opIx kindL w with
  | some i => if 0 < i ∧ i < x then i else 0
  | none => 0
theorem knd_one (w : List UInt8) : knd 1 w = 0 := by
  unfold knd
  split
  · rw [if_neg (by omega)]
  · rfl
theorem knd_hit {x : Nat} {w : List UInt8} (h0 : 0 < x) (hx : x < 18) (h : nameAt kindL x = w) : knd (x + 1) w = x := by
  have hl : kindL.length = 18 := rfl
  rw [nameAt_in (by omega), Int.toNat_natCast] at h
  unfold knd
  rw [opIx_of_at kindL_nodup (by omega) h]
  simp [h0]
theorem knd_miss {x : Nat} {w : List UInt8} (hx : x < 18) (h : ¬ nameAt kindL x = w) : knd (x + 1) w = knd x w := by
  have hl : kindL.length = 18 := rfl
  rw [nameAt_in (by omega), Int.toNat_natCast] at h
  unfold knd
  split
  · rename_i i e
    obtain ⟨h1, h2, h3⟩ := opIx_some e
    have : i ≠ x := fun e => h (e ▸ h2)
    by_cases hi : 0 < i ∧ i < x
    · rw [if_pos (by omega), if_pos hi]
    · rw [if_neg (by omega), if_neg hi]
  · rfl
theorem knd_le (x : Nat) (w : List UInt8) : 0 ≤ knd x w ∧ knd x w < 18 := by
  have hl : kindL.length = 18 := rfl
  unfold knd
  split
  · rename_i i e
    obtain ⟨h1, h2, h3⟩ := opIx_some e
    split <;> omega
  · omega
theorem countT_le (k : Int) : 1 ≤ countT k ∧ countT k ≤ 4 := by
  unfold countT
  repeat' split
  all_goals omega
/-- A line's words. -/
def lineOf (l : List (List UInt8)) : Option Lin := match l with
  | [] => none
  | w :: ws =>
    if knd 18 w = 0 ∨ (ws.length : Int) < countT (knd 18 w) then none
    else if (ws.take (countT (knd 18 w)).toNat).all okW = true then
      (restOf (knd 18 w) (ws.drop (countT (knd 18 w)).toNat)).map fun r => ⟨knd 18 w, (ws.take (countT (knd 18 w)).toNat).map valW, r.word, r.call, r.order, r.tasks, r.code⟩
    else none
def readSpec : Spec := {
  α := List (List UInt8)
  args a := [.c (.ro 1 a.length (strF a))]
  ins _ := []
  m := 0
  pre a := a.length < 4294967281 ∧ ∀ i, (a.getD i []).length < 4294967281
  β := Lin
  post a b := ∀ t, lineOf a = some t → b = t
  res a b := .tup [.agg (linC b), .c (.bool (lineOf a).isSome)]
  outs _ _ := []
  fresh := 0
  ro := [0] }
end Go.Sx.Tryd
namespace Go.Sx.Tryd
open Go Go.Sx
theorem getD_drop {α : Type} (l : List α) (n i : Nat) (d : α) : (l.drop n).getD i d = l.getD (n + i) d := by
  simp [List.getD_eq_getElem?_getD, List.getElem?_drop]
theorem all_take_not {α : Type} {l : List α} {f : α → Bool} (d : α) {k n : Nat} (hk : k < l.length) (hn : k < n) (h : f (l.getD k d) = false) : (l.take n).all f = false := by
  refine all_not d (x := k) (by rw [List.length_take]; omega) ?_
  rw [List.getD_eq_getElem?_getD, List.getElem?_take_of_lt hn, ← List.getD_eq_getElem?_getD]
  exact h
end Go.Sx.Tryd
namespace Go.Sx.Tryd
open Go Go.Sx Go.Proofs
variable {mx : Int}
set_option linter.unusedSimpArgs false
set_option maxRecDepth 20000
set_option maxHeartbeats 4000000
def readInv (a : List (List UInt8)) : Nat → Option Inv := fun id =>
  bif id == 5 then some { α := Nat, keep := [0, 2, 4], drop := [1], env := fun _ x => [(5, .r (.c (.int .i64 (x + 1))))], chunks := fun _ x => [(1, .cells 44 [.int .i64 (knd (x + 1) (a.getD 0 [])), .nils, .int .u64 0, .int .i64 0, .int .i64 0, .int .i64 0, .int .i64 0, .int .i64 0, .int .i64 0, .nils, .nils])], fresh := 0, pre := fun x => x ≤ 17, μ := fun x => 17 - x } else
  bif id == 13 then some { α := Nat, keep := [0, 2, 4, 6, 44, 45], drop := [1], env := fun _ x => [(46, .r (.c (.int .i64 x)))], chunks := fun b x => [(1, .cells 44 [.int .i64 (knd 18 (a.getD 0 [])), .osl b, .int .u64 0, .int .i64 0, .int .i64 0, .int .i64 0, .int .i64 0, .int .i64 0, .int .i64 0, .nils, .nils]), (b, .row 3 1 x (intF ((a.tail.take x).map valW)))], fresh := 1, pre := fun x => x ≤ (countT (knd 18 (a.getD 0 []))).toNat ∧ (a.tail.take x).all okW = true, μ := fun x => (countT (knd 18 (a.getD 0 []))).toNat - x } else none
theorem read_does : Does Tryd.prog (glS mx) 35 (readSpec) := by
  refine Does.of (fn := Tryd.f35) Tryd.func35 rfl ttok (spec := lookS [(11, nameI kindL), (53, fiI countT), (60, smallI), (61, restSpec)]) ((((Known.nil.cons callee61 rest_does).cons callee60 smallI_does).cons callee53 countI_does).cons callee11 nameI_does) (pc := fun k => !(k == 61)) ((((PureOk.nil.cons (s := restSpec) (k := 61) (fun h => by cases h)).cons (s := smallI) (k := 60) (fun _ _ => rfl)).cons (s := fiI countT) (k := 53) (fun _ _ => rfl)).cons (s := nameI kindL) (k := 11) (fun _ _ => rfl)) mixed (readSpec) (fun a id _ => readInv a id) (ord35) 3000 (rs := [.cell 2 44, .tmp 3]) rfl (n := 73) rfl (by decide) (by kernel_rfl) ?_
  intro (a : List (List UInt8)) hp
  refine ⟨of_decide_eq_true (by kernel_rfl), ?_⟩
  refine vc_of (Q := bif decide ((↑a.length : Int) = (0 : Int)) then true = true ∧ (11 : Nat) = (11 : Nat) ∧ (11 : Nat) ≤ (11 : Nat) ∧ (11 : Nat) ≤ (11 : Nat) ∧ true = true ∧ true = true ∧ true = true ∧ true = true ∧ true = true ∧ true = true ∧ true = true ∧ true = true ∧ true = true ∧ true = true ∧ true = true ∧ ∃ (b : Lin), (∀ (t : Lin), lineOf a = some t → b = t) ∧ true = true ∧ true = true ∧ b.kind = (0 : Int) ∧ b.n.length = (0 : Nat) ∧ true = true ∧ b.word = (0 : Int) ∧ true = true ∧ b.call.op = (0 : Int) ∧ true = true ∧ b.call.a = (0 : Int) ∧ true = true ∧ b.call.b = (0 : Int) ∧ true = true ∧ b.call.c = (0 : Int) ∧ true = true ∧ b.call.d = (0 : Int) ∧ true = true ∧ b.order = (0 : Int) ∧ b.tasks.length = (0 : Nat) ∧ b.code.length = (0 : Nat) ∧ (lineOf a).isSome = false ∧ True else (∃ (x : Nat), x ≤ (17 : Nat) ∧ true = true ∧ true = true ∧ (↑x : Int) + (1 : Int) = (1 : Int) ∧ (1 : Nat) = (1 : Nat) ∧ a.length = a.length ∧ (∀ (i j : Nat), i < a.length → j < (1 : Nat) → CV.str (a.getD i []) = CV.str (a.getD i [])) ∧ (0 : Nat) < (2 : Nat) ∧ some (0 : Nat) = some (0 : Nat) ∧ (0 : Nat) = (0 : Nat) ∧ (1 : Nat) < (2 : Nat) ∧ some (1 : Nat) = some (1 : Nat) ∧ (0 : Nat) = (0 : Nat) ∧ (1 : Nat) < (2 : Nat) ∧ (44 : TypeId) = (44 : Nat) ∧ true = true ∧ knd (x + (1 : Nat)) (a.getD (0 : Nat) []) = (0 : Int) ∧ true = true ∧ (0 : Int) = (0 : Int) ∧ true = true ∧ (0 : Int) = (0 : Int) ∧ true = true ∧ (0 : Int) = (0 : Int) ∧ true = true ∧ (0 : Int) = (0 : Int) ∧ true = true ∧ (0 : Int) = (0 : Int) ∧ true = true ∧ (0 : Int) = (0 : Int) ∧ true = true ∧ (0 : Int) = (0 : Int) ∧ (0 : Nat) < (2 : Nat) ∧ (44 : Nat) = (44 : Nat) ∧ true = true ∧ (0 : Int) = (0 : Int) ∧ true = true ∧ (0 : Int) = (0 : Int) ∧ true = true ∧ (0 : Int) = (0 : Int) ∧ true = true ∧ (0 : Int) = (0 : Int) ∧ true = true ∧ (0 : Int) = (0 : Int) ∧ true = true ∧ (0 : Int) = (0 : Int) ∧ true = true ∧ (0 : Int) = (0 : Int) ∧ true = true ∧ (0 : Int) = (0 : Int) ∧ True) ∧ ∀ (x : Nat), x ≤ (17 : Nat) → bif decide ((↑x : Int) + (1 : Int) ≤ (17 : Int)) then ((0 : Int) ≤ (0 : Int) ∧ (0 : Int) < (↑a.length : Int)) ∧ (0 : Nat) < a.length ∧ (1 : Nat) ≤ (1 : Nat) ∧ true = true ∧ True ∧ true = true ∧ (↑x : Int) + (1 : Int) = (↑x : Int) + (1 : Int) ∧ true = true ∧ ∀ (b : Unit), True → bif decide (nameAt kindL ((↑x : Int) + (1 : Int)) = a.getD (0 : Nat) []) then true = true ∧ (1 : Nat) = (1 : Nat) ∧ (1 : Nat) ≤ (11 : Nat) ∧ ∃ (x' : Nat), x' ≤ (17 : Nat) ∧ (17 : Nat) - x' < (17 : Nat) - x ∧ true = true ∧ true = true ∧ (↑x' : Int) + (1 : Int) = IntKind.i64.wrap ((↑x : Int) + (1 : Int) + (1 : Int)) ∧ (1 : Nat) = (1 : Nat) ∧ a.length = a.length ∧ (∀ (i j : Nat), i < a.length → j < (1 : Nat) → CV.str (a.getD i []) = CV.str (a.getD i [])) ∧ (0 : Nat) < (2 : Nat) ∧ some (0 : Nat) = some (0 : Nat) ∧ (0 : Nat) = (0 : Nat) ∧ (1 : Nat) < (2 : Nat) ∧ some (1 : Nat) = some (1 : Nat) ∧ (0 : Nat) = (0 : Nat) ∧ (1 : Nat) < (2 : Nat) ∧ (44 : TypeId) = (44 : TypeId) ∧ true = true ∧ knd (x' + (1 : Nat)) (a.getD (0 : Nat) []) = (↑x : Int) + (1 : Int) ∧ true = true ∧ (0 : Int) = (0 : Int) ∧ true = true ∧ (0 : Int) = (0 : Int) ∧ true = true ∧ (0 : Int) = (0 : Int) ∧ true = true ∧ (0 : Int) = (0 : Int) ∧ true = true ∧ (0 : Int) = (0 : Int) ∧ true = true ∧ (0 : Int) = (0 : Int) ∧ true = true ∧ (0 : Int) = (0 : Int) ∧ (0 : Nat) < (2 : Nat) ∧ (44 : Nat) = (44 : Nat) ∧ true = true ∧ (0 : Int) = (0 : Int) ∧ true = true ∧ (0 : Int) = (0 : Int) ∧ true = true ∧ (0 : Int) = (0 : Int) ∧ true = true ∧ (0 : Int) = (0 : Int) ∧ true = true ∧ (0 : Int) = (0 : Int) ∧ true = true ∧ (0 : Int) = (0 : Int) ∧ true = true ∧ (0 : Int) = (0 : Int) ∧ true = true ∧ (0 : Int) = (0 : Int) ∧ True else ∃ (x' : Nat), x' ≤ (17 : Nat) ∧ (17 : Nat) - x' < (17 : Nat) - x ∧ true = true ∧ true = true ∧ (↑x' : Int) + (1 : Int) = IntKind.i64.wrap ((↑x : Int) + (1 : Int) + (1 : Int)) ∧ (1 : Nat) = (1 : Nat) ∧ a.length = a.length ∧ (∀ (i j : Nat), i < a.length → j < (1 : Nat) → CV.str (a.getD i []) = CV.str (a.getD i [])) ∧ (0 : Nat) < (2 : Nat) ∧ some (0 : Nat) = some (0 : Nat) ∧ (0 : Nat) = (0 : Nat) ∧ (1 : Nat) < (2 : Nat) ∧ some (1 : Nat) = some (1 : Nat) ∧ (0 : Nat) = (0 : Nat) ∧ (1 : Nat) < (2 : Nat) ∧ (44 : TypeId) = (44 : TypeId) ∧ true = true ∧ knd (x' + (1 : Nat)) (a.getD (0 : Nat) []) = knd (x + (1 : Nat)) (a.getD (0 : Nat) []) ∧ true = true ∧ (0 : Int) = (0 : Int) ∧ true = true ∧ (0 : Int) = (0 : Int) ∧ true = true ∧ (0 : Int) = (0 : Int) ∧ true = true ∧ (0 : Int) = (0 : Int) ∧ true = true ∧ (0 : Int) = (0 : Int) ∧ true = true ∧ (0 : Int) = (0 : Int) ∧ true = true ∧ (0 : Int) = (0 : Int) ∧ (0 : Nat) < (2 : Nat) ∧ (44 : Nat) = (44 : Nat) ∧ true = true ∧ (0 : Int) = (0 : Int) ∧ true = true ∧ (0 : Int) = (0 : Int) ∧ true = true ∧ (0 : Int) = (0 : Int) ∧ true = true ∧ (0 : Int) = (0 : Int) ∧ true = true ∧ (0 : Int) = (0 : Int) ∧ true = true ∧ (0 : Int) = (0 : Int) ∧ true = true ∧ (0 : Int) = (0 : Int) ∧ true = true ∧ (0 : Int) = (0 : Int) ∧ True else (1 : Nat) ≤ (11 : Nat) ∧ true = true ∧ True ∧ true = true ∧ knd (x + (1 : Nat)) (a.getD (0 : Nat) []) = knd (x + (1 : Nat)) (a.getD (0 : Nat) []) ∧ true = true ∧ ∀ (b : Unit), True → (1 : Nat) ≤ (11 : Nat) ∧ true = true ∧ ((!decide (knd (x + (1 : Nat)) (a.getD (0 : Nat) []) = (0 : Int))) = true → (!decide (knd (x + (1 : Nat)) (a.getD (0 : Nat) []) = (0 : Int))) = true) ∧ ((!decide (knd (x + (1 : Nat)) (a.getD (0 : Nat) []) = (0 : Int))) = true → (!decide (knd (x + (1 : Nat)) (a.getD (0 : Nat) []) = (0 : Int))) = true) ∧ ((!decide (knd (x + (1 : Nat)) (a.getD (0 : Nat) []) = (0 : Int))) = true → (!decide (knd (x + (1 : Nat)) (a.getD (0 : Nat) []) = (0 : Int))) = true) ∧ ((!decide (knd (x + (1 : Nat)) (a.getD (0 : Nat) []) = (0 : Int))) = true → (!decide (knd (x + (1 : Nat)) (a.getD (0 : Nat) []) = (0 : Int))) = true) ∧ (decide (knd (x + (1 : Nat)) (a.getD (0 : Nat) []) = (0 : Int)) = false → (!decide (knd (x + (1 : Nat)) (a.getD (0 : Nat) []) = (0 : Int))) = true) ∧ bif bif decide (knd (x + (1 : Nat)) (a.getD (0 : Nat) []) = (0 : Int)) then true else decide ((↑a.length : Int) < IntKind.i64.wrap ((1 : Int) + countT (knd (x + (1 : Nat)) (a.getD (0 : Nat) [])))) then true = true ∧ (11 : Nat) = (11 : Nat) ∧ (11 : Nat) ≤ (11 : Nat) ∧ (11 : Nat) ≤ (11 : Nat) ∧ true = true ∧ true = true ∧ true = true ∧ true = true ∧ true = true ∧ true = true ∧ true = true ∧ true = true ∧ true = true ∧ true = true ∧ true = true ∧ ∃ (b : Lin), (∀ (t : Lin), lineOf a = some t → b = t) ∧ true = true ∧ true = true ∧ b.kind = (0 : Int) ∧ b.n.length = (0 : Nat) ∧ true = true ∧ b.word = (0 : Int) ∧ true = true ∧ b.call.op = (0 : Int) ∧ true = true ∧ b.call.a = (0 : Int) ∧ true = true ∧ b.call.b = (0 : Int) ∧ true = true ∧ b.call.c = (0 : Int) ∧ true = true ∧ b.call.d = (0 : Int) ∧ true = true ∧ b.order = (0 : Int) ∧ b.tasks.length = (0 : Nat) ∧ b.code.length = (0 : Nat) ∧ (lineOf a).isSome = false ∧ True else ((0 : Int) ≤ (1 : Int) ∧ (1 : Int) ≤ IntKind.i64.wrap ((1 : Int) + countT (knd (x + (1 : Nat)) (a.getD (0 : Nat) []))) ∧ IntKind.i64.wrap ((1 : Int) + countT (knd (x + (1 : Nat)) (a.getD (0 : Nat) []))) ≤ (↑a.length : Int)) ∧ (∃ (x_1 : Nat), (x_1 ≤ (countT (knd (18 : Nat) (a.getD (0 : Nat) []))).toNat ∧ (List.take x_1 a.tail).all okW = true) ∧ true = true ∧ true = true ∧ (↑x_1 : Int) = (0 : Int) ∧ (1 : Nat) = (1 : Nat) ∧ a.length = a.length ∧ (∀ (i j : Nat), i < a.length → j < (1 : Nat) → CV.str (a.getD i []) = CV.str (a.getD i [])) ∧ (0 : Nat) < (3 : Nat) ∧ some (0 : Nat) = some (0 : Nat) ∧ (0 : Nat) = (0 : Nat) ∧ (1 : Nat) < (3 : Nat) ∧ some (1 : Nat) = some (1 : Nat) ∧ (0 : Nat) = (0 : Nat) ∧ true = true ∧ countT (knd (x + (1 : Nat)) (a.getD (0 : Nat) [])) = countT (knd (x + (1 : Nat)) (a.getD (0 : Nat) [])) ∧ (1 : Nat) = (1 : Nat) ∧ (IntKind.i64.wrap ((1 : Int) + countT (knd (x + (1 : Nat)) (a.getD (0 : Nat) [])))).toNat - (1 : Nat) = (IntKind.i64.wrap ((1 : Int) + countT (knd (x + (1 : Nat)) (a.getD (0 : Nat) [])))).toNat - (1 : Nat) ∧ (∀ (i j : Nat), i < (IntKind.i64.wrap ((1 : Int) + countT (knd (x + (1 : Nat)) (a.getD (0 : Nat) [])))).toNat - (1 : Nat) → j < (1 : Nat) → CV.str (a.getD ((1 : Nat) + i) []) = CV.str (a.getD ((1 : Nat) + i) [])) ∧ true = true ∧ (↑((IntKind.i64.wrap ((1 : Int) + countT (knd (x + (1 : Nat)) (a.getD (0 : Nat) [])))).toNat - (1 : Nat)) : Int) = (↑((IntKind.i64.wrap ((1 : Int) + countT (knd (x + (1 : Nat)) (a.getD (0 : Nat) [])))).toNat - (1 : Nat)) : Int) ∧ (1 : Nat) < (3 : Nat) ∧ (44 : TypeId) = (44 : TypeId) ∧ true = true ∧ knd (18 : Nat) (a.getD (0 : Nat) []) = knd (x + (1 : Nat)) (a.getD (0 : Nat) []) ∧ (2 : Nat) < (3 : Nat) ∧ (none : Option Nat) = none ∧ true = true ∧ (0 : Int) = (0 : Int) ∧ true = true ∧ (0 : Int) = (0 : Int) ∧ true = true ∧ (0 : Int) = (0 : Int) ∧ true = true ∧ (0 : Int) = (0 : Int) ∧ true = true ∧ (0 : Int) = (0 : Int) ∧ true = true ∧ (0 : Int) = (0 : Int) ∧ true = true ∧ (0 : Int) = (0 : Int) ∧ (2 : Nat) < (3 : Nat) ∧ x_1 = (0 : Nat) ∧ (0 : Nat) < (3 : Nat) ∧ (44 : Nat) = (44 : Nat) ∧ true = true ∧ (0 : Int) = (0 : Int) ∧ true = true ∧ (0 : Int) = (0 : Int) ∧ true = true ∧ (0 : Int) = (0 : Int) ∧ true = true ∧ (0 : Int) = (0 : Int) ∧ true = true ∧ (0 : Int) = (0 : Int) ∧ true = true ∧ (0 : Int) = (0 : Int) ∧ true = true ∧ (0 : Int) = (0 : Int) ∧ true = true ∧ (0 : Int) = (0 : Int) ∧ True) ∧ ∀ (x_1 : Nat), x_1 ≤ (countT (knd (18 : Nat) (a.getD (0 : Nat) []))).toNat ∧ (List.take x_1 a.tail).all okW = true → bif decide ((↑x_1 : Int) < (↑((IntKind.i64.wrap ((1 : Int) + countT (knd (x + (1 : Nat)) (a.getD (0 : Nat) [])))).toNat - (1 : Nat)) : Int)) then ((0 : Int) ≤ (↑x_1 : Int) ∧ (↑x_1 : Int) < (↑((IntKind.i64.wrap ((1 : Int) + countT (knd (x + (1 : Nat)) (a.getD (0 : Nat) [])))).toNat - (1 : Nat)) : Int)) ∧ (↑x_1 : Int).toNat < (IntKind.i64.wrap ((1 : Int) + countT (knd (x + (1 : Nat)) (a.getD (0 : Nat) [])))).toNat - (1 : Nat) ∧ (1 : Nat) ≤ (1 : Nat) ∧ true = true ∧ True ∧ a.getD ((1 : Nat) + (↑x_1 : Int).toNat) [] = a.getD ((1 : Nat) + (↑x_1 : Int).toNat) [] ∧ true = true ∧ ∀ (b : Unit), True → bif !(numAns (a.getD ((1 : Nat) + (↑x_1 : Int).toNat) []) (1099511627776 : Int)).snd then true = true ∧ (11 : Nat) = (11 : Nat) ∧ (11 : Nat) ≤ (11 : Nat) ∧ (11 : Nat) ≤ (11 : Nat) ∧ true = true ∧ true = true ∧ true = true ∧ true = true ∧ true = true ∧ true = true ∧ true = true ∧ true = true ∧ true = true ∧ true = true ∧ true = true ∧ ∃ (b : Lin), (∀ (t : Lin), lineOf a = some t → b = t) ∧ true = true ∧ true = true ∧ b.kind = (0 : Int) ∧ b.n.length = (0 : Nat) ∧ true = true ∧ b.word = (0 : Int) ∧ true = true ∧ b.call.op = (0 : Int) ∧ true = true ∧ b.call.a = (0 : Int) ∧ true = true ∧ b.call.b = (0 : Int) ∧ true = true ∧ b.call.c = (0 : Int) ∧ true = true ∧ b.call.d = (0 : Int) ∧ true = true ∧ b.order = (0 : Int) ∧ b.tasks.length = (0 : Nat) ∧ b.code.length = (0 : Nat) ∧ (lineOf a).isSome = false ∧ True else (2 : Nat) ≤ (11 : Nat) ∧ true = true ∧ (1 : Nat) ≤ (16777216 : Nat) ∧ (0 : Nat) < (1 : Nat) ∧ true = true ∧ x_1 + (1 : Nat) ≤ (9223372036854775807 : Nat) ∧ (x_1 + (1 : Nat)) * (8 : Nat) ≤ (140737488355328 : Nat) ∧ (0 : Nat) < (1 : Nat) ∧ (0 : Nat) < (1 : Nat) ∧ true = true ∧ (1 : Nat) = (1 : Nat) ∧ (2 : Nat) ≤ (11 : Nat) ∧ ∃ (x' : Nat), (x' ≤ (countT (knd (18 : Nat) (a.getD (0 : Nat) []))).toNat ∧ (List.take x' a.tail).all okW = true) ∧ (countT (knd (18 : Nat) (a.getD (0 : Nat) []))).toNat - x' < (countT (knd (18 : Nat) (a.getD (0 : Nat) []))).toNat - x_1 ∧ true = true ∧ true = true ∧ (↑x' : Int) = IntKind.i64.wrap ((↑x_1 : Int) + (1 : Int)) ∧ (1 : Nat) = (1 : Nat) ∧ a.length = a.length ∧ (∀ (i j : Nat), i < a.length → j < (1 : Nat) → CV.str (a.getD i []) = CV.str (a.getD i [])) ∧ (0 : Nat) < (3 : Nat) ∧ some (0 : Nat) = some (0 : Nat) ∧ (0 : Nat) = (0 : Nat) ∧ (1 : Nat) < (3 : Nat) ∧ some (1 : Nat) = some (1 : Nat) ∧ (0 : Nat) = (0 : Nat) ∧ true = true ∧ countT (knd (x + (1 : Nat)) (a.getD (0 : Nat) [])) = countT (knd (x + (1 : Nat)) (a.getD (0 : Nat) [])) ∧ (1 : Nat) = (1 : Nat) ∧ (IntKind.i64.wrap ((1 : Int) + countT (knd (x + (1 : Nat)) (a.getD (0 : Nat) [])))).toNat - (1 : Nat) = (IntKind.i64.wrap ((1 : Int) + countT (knd (x + (1 : Nat)) (a.getD (0 : Nat) [])))).toNat - (1 : Nat) ∧ (∀ (i j : Nat), i < (IntKind.i64.wrap ((1 : Int) + countT (knd (x + (1 : Nat)) (a.getD (0 : Nat) [])))).toNat - (1 : Nat) → j < (1 : Nat) → CV.str (a.getD ((1 : Nat) + i) []) = CV.str (a.getD ((1 : Nat) + i) [])) ∧ true = true ∧ (↑((IntKind.i64.wrap ((1 : Int) + countT (knd (x + (1 : Nat)) (a.getD (0 : Nat) [])))).toNat - (1 : Nat)) : Int) = (↑((IntKind.i64.wrap ((1 : Int) + countT (knd (x + (1 : Nat)) (a.getD (0 : Nat) [])))).toNat - (1 : Nat)) : Int) ∧ (1 : Nat) < (3 : Nat) ∧ (44 : TypeId) = (44 : TypeId) ∧ true = true ∧ knd (18 : Nat) (a.getD (0 : Nat) []) = knd (18 : Nat) (a.getD (0 : Nat) []) ∧ (2 : Nat) < (3 : Nat) ∧ some (4 : Nat) = some (4 : Nat) ∧ true = true ∧ (0 : Int) = (0 : Int) ∧ true = true ∧ (0 : Int) = (0 : Int) ∧ true = true ∧ (0 : Int) = (0 : Int) ∧ true = true ∧ (0 : Int) = (0 : Int) ∧ true = true ∧ (0 : Int) = (0 : Int) ∧ true = true ∧ (0 : Int) = (0 : Int) ∧ true = true ∧ (0 : Int) = (0 : Int) ∧ (2 : Nat) < (3 : Nat) ∧ (3 : TypeId) = (3 : Nat) ∧ (1 : Nat) = (1 : Nat) ∧ x' = x_1 + (1 : Nat) ∧ (∀ (i j : Nat), i < x' → j < (1 : Nat) → CV.int IntKind.i64 ((List.map valW (List.take x' a.tail)).getD i (0 : Int)) = if i < x_1 then CV.int IntKind.i64 ((List.map valW (List.take x_1 a.tail)).getD i (0 : Int)) else nth [CV.int IntKind.i64 (numAns (a.getD ((1 : Nat) + (↑x_1 : Int).toNat) []) (1099511627776 : Int)).fst] j) ∧ (0 : Nat) < (3 : Nat) ∧ (44 : Nat) = (44 : Nat) ∧ true = true ∧ (0 : Int) = (0 : Int) ∧ true = true ∧ (0 : Int) = (0 : Int) ∧ true = true ∧ (0 : Int) = (0 : Int) ∧ true = true ∧ (0 : Int) = (0 : Int) ∧ true = true ∧ (0 : Int) = (0 : Int) ∧ true = true ∧ (0 : Int) = (0 : Int) ∧ true = true ∧ (0 : Int) = (0 : Int) ∧ true = true ∧ (0 : Int) = (0 : Int) ∧ True else ((0 : Int) ≤ IntKind.i64.wrap ((1 : Int) + countT (knd (x + (1 : Nat)) (a.getD (0 : Nat) []))) ∧ IntKind.i64.wrap ((1 : Int) + countT (knd (x + (1 : Nat)) (a.getD (0 : Nat) []))) ≤ (↑a.length : Int) ∧ (↑a.length : Int) ≤ (↑a.length : Int)) ∧ ∃ (a_4 : Int × List (List UInt8)), (a_4.snd.length < (4294967281 : Nat) ∧ ∀ (i : Nat), (a_4.snd.getD i []).length < (4294967281 : Nat)) ∧ (0 : Nat) < (2 : Nat) ∧ some (1 : Nat) = some (1 : Nat) ∧ (0 : Nat) = (0 : Nat) ∧ (1 : Nat) = (1 : Nat) ∧ a_4.snd.length = (↑a.length : Int).toNat - (IntKind.i64.wrap ((1 : Int) + countT (knd (x + (1 : Nat)) (a.getD (0 : Nat) [])))).toNat ∧ (∀ (i j : Nat), i < a_4.snd.length → j < (1 : Nat) → CV.str (a_4.snd.getD i []) = CV.str (a.getD ((IntKind.i64.wrap ((1 : Int) + countT (knd (x + (1 : Nat)) (a.getD (0 : Nat) [])))).toNat + i) [])) ∧ true = true ∧ (0 : Nat) < (2 : Nat) ∧ (44 : TypeId) = (44 : TypeId) ∧ true = true ∧ a_4.fst = knd (18 : Nat) (a.getD (0 : Nat) []) ∧ (1 : Nat) < (2 : Nat) ∧ some (2 : Nat) = some (2 : Nat) ∧ true = true ∧ (0 : Int) = (0 : Int) ∧ true = true ∧ (0 : Int) = (0 : Int) ∧ true = true ∧ (0 : Int) = (0 : Int) ∧ true = true ∧ (0 : Int) = (0 : Int) ∧ true = true ∧ (0 : Int) = (0 : Int) ∧ true = true ∧ (0 : Int) = (0 : Int) ∧ true = true ∧ (0 : Int) = (0 : Int) ∧ ∀ (b : RestB), (∀ (t : RestB), restOf a_4.fst a_4.snd = some t → b = t) → bif !(restOf a_4.fst a_4.snd).isSome then true = true ∧ (11 : Nat) = (11 : Nat) ∧ (11 : Nat) ≤ (11 : Nat) ∧ (11 : Nat) ≤ (11 : Nat) ∧ true = true ∧ true = true ∧ true = true ∧ true = true ∧ true = true ∧ true = true ∧ true = true ∧ true = true ∧ true = true ∧ true = true ∧ true = true ∧ ∃ (b : Lin), (∀ (t : Lin), lineOf a = some t → b = t) ∧ true = true ∧ true = true ∧ b.kind = (0 : Int) ∧ b.n.length = (0 : Nat) ∧ true = true ∧ b.word = (0 : Int) ∧ true = true ∧ b.call.op = (0 : Int) ∧ true = true ∧ b.call.a = (0 : Int) ∧ true = true ∧ b.call.b = (0 : Int) ∧ true = true ∧ b.call.c = (0 : Int) ∧ true = true ∧ b.call.d = (0 : Int) ∧ true = true ∧ b.order = (0 : Int) ∧ b.tasks.length = (0 : Nat) ∧ b.code.length = (0 : Nat) ∧ (lineOf a).isSome = false ∧ True else (11 : Nat) ≤ (11 : Nat) ∧ true = true ∧ true = true ∧ true = true ∧ true = true ∧ true = true ∧ true = true ∧ true = true ∧ true = true ∧ true = true ∧ true = true ∧ true = true ∧ true = true ∧ (11 : Nat) = (11 : Nat) ∧ (11 : Nat) ≤ (11 : Nat) ∧ (11 : Nat) ≤ (11 : Nat) ∧ true = true ∧ true = true ∧ true = true ∧ true = true ∧ true = true ∧ true = true ∧ true = true ∧ true = true ∧ true = true ∧ true = true ∧ true = true ∧ ∃ (b_1 : Lin), (∀ (t : Lin), lineOf a = some t → b_1 = t) ∧ true = true ∧ true = true ∧ b_1.kind = a_4.fst ∧ (1 : Nat) = (1 : Nat) ∧ b_1.n.length = x_1 ∧ (∀ (i j : Nat), i < b_1.n.length → j < (1 : Nat) → CV.int IntKind.i64 (b_1.n.getD i (0 : Int)) = CV.int IntKind.i64 ((List.map valW (List.take x_1 a.tail)).getD i (0 : Int))) ∧ true = true ∧ b_1.word = b.word ∧ true = true ∧ b_1.call.op = b.call.op ∧ true = true ∧ b_1.call.a = b.call.a ∧ true = true ∧ b_1.call.b = b.call.b ∧ true = true ∧ b_1.call.c = b.call.c ∧ true = true ∧ b_1.call.d = b.call.d ∧ true = true ∧ b_1.order = b.order ∧ (5 : Nat) = (5 : Nat) ∧ b_1.tasks.length = b.tasks.length ∧ (∀ (i j : Nat), i < b_1.tasks.length → j < (5 : Nat) → tabE tsk0 tskC b_1.tasks i j = tabE tsk0 tskC b.tasks i j) ∧ (5 : Nat) = (5 : Nat) ∧ b_1.code.length = b.code.length ∧ (∀ (i j : Nat), i < b_1.code.length → j < (5 : Nat) → tabE ins0 insC b_1.code i j = tabE ins0 insC b.code i j) ∧ (lineOf a).isSome = true ∧ True) (by kernel_rfl) ?_
  try simp only [condP, eq_self, true_and, and_true, and_self, cond_or, cond_and, decide_true, decide_false, imp_self, implies_true, forall_const, exists_const, exists_prop, decide_eq_true_eq, decide_eq_false_iff_not, Bool.and_eq_true, Bool.or_eq_true, Bool.not_eq_true', Bool.not_eq_false', Bool.or_eq_false_iff, Bool.and_eq_false_imp, tdiv_u64, tmod_u64, Int.toNat_natCast, Int.toNat_zero, Int.reduceToNat, Int.reduceAdd, Int.reduceMod, Int.reduceSub, Int.reduceMul, Int.reduceNeg, Int.reduceLT, Int.reduceLE, Int.cast_ofNat_Int, Nat.reduceLT, Nat.reduceLeDiff, Nat.reduceEqDiff, Nat.reduceAdd, Nat.reduceMul, Nat.reduceSub, Nat.reducePow, Nat.le_refl, Int.le_refl, Nat.zero_add, Nat.add_zero, Nat.mul_one, Nat.zero_le, Bool.false_eq_true, Bool.true_eq_false, reduceCtorEq, not_false_eq_true, not_true_eq_false, false_implies, true_implies, Nat.lt_irrefl, Int.lt_irrefl, UInt8.reduceOfNat, UInt8.reduceToNat]
  have hp : a.length < 4294967281 ∧ ∀ i, (a.getD i []).length < 4294967281 := hp
  obtain ⟨hp, hps⟩ := hp
  have hn : lineOf a = none → ∀ b : Lin, (∀ t, lineOf a = some t → b = t) ∧ (lineOf a).isSome = false := fun h b => (by rw [h]; exact ⟨fun t ht => (by cases ht), rfl⟩)
  match a, hp, hps with
  | [], _, _ =>
    have h := hn rfl lin0
    simp only [List.length_nil]
    refine ⟨fun _ => ⟨_, h.1, ?_⟩, fun h => absurd rfl h⟩
    exact ⟨rfl, rfl, rfl, rfl, rfl, rfl, rfl, rfl, rfl, rfl, rfl, h.2⟩
  | w :: ws, hp, hps =>
  have hw0 : (w :: ws).getD 0 [] = w := rfl
  have hws : (w :: ws).tail = ws := rfl
  have hle : (w :: ws).length = ws.length + 1 := rfl
  have hat : ∀ i, (w :: ws).getD (1 + i) [] = ws.getD i [] := fun i => by rw [Nat.add_comm]; rfl
  have hps' : ∀ i, (ws.getD i []).length < 4294967281 := fun i => by rw [← hat]; exact hps _
  rw [hle] at hp
  have hk := knd_le 18 w
  have hc := countT_le (knd 18 w)
  simp only [hw0, hws, hle, hat, okW_def, valW_def]
  have hto : lineOf (w :: ws) = if knd 18 w = 0 ∨ (ws.length : Int) < countT (knd 18 w) then none
    else if (ws.take (countT (knd 18 w)).toNat).all okW = true then
      (restOf (knd 18 w) (ws.drop (countT (knd 18 w)).toNat)).map fun r => ⟨knd 18 w, (ws.take (countT (knd 18 w)).toNat).map valW, r.word, r.call, r.order, r.tasks, r.code⟩
    else none := rfl
  generalize w :: ws = L at *
  clear hw0 hws hle hps
  (repeat' (first | (apply And.intro) | (intro _))) <;> (try simp (disch := omega) only [w64, wu64, wu8, Int.toNat_natCast, toNat_add_one, toNat_one_add] at *) <;> (try (first | (with_reducible rfl) | (with_reducible assumption) | exact True.intro | omega))
  · exact ⟨0, by omega, rfl, knd_one w⟩
  · rename_i x h1 h2 h3
    have h3' : nameAt kindL ((x + 1 : Nat) : Int) = w := by rw [Int.natCast_add]; exact h3
    exact ⟨x + 1, by omega, by omega, by omega, (knd_hit (by omega) (by omega) h3').trans (by omega)⟩
  · rename_i x h1 h2 h3
    have h3' : ¬ nameAt kindL ((x + 1 : Nat) : Int) = w := by rw [Int.natCast_add]; exact h3
    exact ⟨x + 1, by omega, by omega, by omega, knd_miss (by omega) h3'⟩
  · rename_i x h1 h2 h3
    have hx : x = 17 := by omega
    subst hx
    simp only [Nat.reduceAdd, w64 (n := 1 + countT (knd 18 w)) (by omega) (by omega)] at h3
    have h := hn (by rw [hto, if_pos (by omega)]) lin0
    exact ⟨_, h.1, rfl, rfl, rfl, rfl, rfl, rfl, rfl, rfl, rfl, rfl, rfl, h.2⟩
  · rename_i x h1 h2 h3
    have hx : x = 17 := by omega
    subst hx
    simp only [Nat.reduceAdd, w64 (n := 1 + countT (knd 18 w)) (by omega) (by omega)] at h3 ⊢
    omega
  · rename_i x h1 h2 h3
    have hx : x = 17 := by omega
    subst hx
    exact ⟨0, ⟨Nat.zero_le _, rfl⟩, rfl, rfl, rfl⟩
  · rename_i x h1 h2 h3 k h5 h6 h7
    have hx : x = 17 := by omega
    subst hx
    simp only [Nat.reduceAdd, w64 (n := 1 + countT (knd 18 w)) (by omega) (by omega)] at h3 h6
    have hk' : k < ws.length := by omega
    have h := hn (by rw [hto, if_neg (by omega), if_neg (by rw [all_take_not [] hk' (by omega) h7]; decide)]) lin0
    exact ⟨_, h.1, rfl, rfl, rfl, rfl, rfl, rfl, rfl, rfl, rfl, rfl, rfl, h.2⟩
  · rename_i x h1 h2 h3 k h5 h6 h7
    have hx : x = 17 := by omega
    subst hx
    simp only [Nat.reduceAdd, w64 (n := 1 + countT (knd 18 w)) (by omega) (by omega)] at h3 h6
    have hk' : k < ws.length := by omega
    refine ⟨k + 1, ⟨by omega, by rw [take_all_succ [] hk' h5.2]; exact h7⟩, by omega, by omega, rfl, fun i j hi hj => ?_⟩
    rw [map_take_snoc ws [] _ hk']
    have hl : ((ws.take k).map valW).length = k := by rw [List.length_map, List.length_take]; omega
    have := intF_snoc (M := (ws.take k).map valW) (v := valW (ws.getD k [])) (i := i) (j := j) (by rw [hl]; exact hi) hj
    rw [hl] at this
    exact this
  · rename_i x h1 h2 h3 k h5 h6
    have hx : x = 17 := by omega
    subst hx
    simp only [Nat.reduceAdd, w64 (n := 1 + countT (knd 18 w)) (by omega) (by omega)] at h3 h6 ⊢
    omega
  · rename_i x h1 h2 h3 k h5 h6
    have hx : x = 17 := by omega
    subst hx
    simp only [Nat.reduceAdd, w64 (n := 1 + countT (knd 18 w)) (by omega) (by omega)] at h3 h6 ⊢
    have hke : k = (countT (knd 18 w)).toNat := by omega
    have hto' : (ws.take (countT (knd 18 w)).toNat).all okW = true := by rw [← hke]; exact h5.2
    rw [if_neg (by omega), if_pos hto'] at hto
    refine ⟨(knd 18 w, ws.drop (countT (knd 18 w)).toNat), ⟨by simp only [List.length_drop]; omega, fun i => by simp only [getD_drop]; exact hps' _⟩, by simp only [List.length_drop]; omega, fun i j hi hj => ?_, rfl, fun b hb => ⟨fun h => ?_, fun h => ?_⟩⟩
    · simp only [getD_drop]
      rw [show (1 + countT (knd 18 w)).toNat + i = 1 + ((countT (knd 18 w)).toNat + i) by omega, hat]
    · have h0 : restOf (knd 18 w) (ws.drop (countT (knd 18 w)).toNat) = none := by
        cases e : restOf (knd 18 w) (ws.drop (countT (knd 18 w)).toNat) with
        | none => rfl
        | some r => simp only [e] at h; cases h
      have h := hn (by rw [hto, h0]; rfl) lin0
      exact ⟨_, h.1, rfl, rfl, rfl, rfl, rfl, rfl, rfl, rfl, rfl, rfl, rfl, h.2⟩
    · cases e : restOf (knd 18 w) (ws.drop (countT (knd 18 w)).toNat) with
      | none => simp only [e] at h; cases h
      | some r =>
        have hbr := hb r e
        subst hbr
        rw [hto, e]
        refine ⟨_, fun t ht => Option.some.inj ht, rfl, ?_, fun i j _ _ => by rw [hke], rfl, rfl, rfl, rfl, rfl, rfl, rfl, rfl, fun _ _ _ _ => rfl, rfl, fun _ _ _ _ => rfl, rfl⟩
        rw [List.length_map, List.length_take]
        omega
end Go.Sx.Tryd
