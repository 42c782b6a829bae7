/- The tables that the compiler is told of this program (methods, compared types) are the program's own. No condition. -/
import Derived.Test.YtkcjeopdenhafaaGreatKe
import Derived.Test.YtkcjeopdenhafaaGreatProg
import Derived.KernelRfl
namespace Go.Proofs.YtkcjeopdenhafaaGreat
open Go.K
noncomputable section Tables
def eqsL : List (Nat × List K.ETy) := [(319, [.int, .int])]
def inv0 : String × List (TypeId × Nat) := ("Busy", [(58, 35), (106, 99), (155, 268), (158, 336), (161, 372), (164, 410)])
def inv1 : String × List (TypeId × Nat) := ("Heads", [(58, 25), (106, 100), (158, 340), (164, 414)])
def inv2 : String × List (TypeId × Nat) := ("Done", [(106, 267), (155, 269), (158, 338), (161, 373), (164, 412)])
def inv3 : String × List (TypeId × Nat) := ("Offer", [(155, 271), (161, 375)])
def inv4 : String × List (TypeId × Nat) := ("Reclaim", [(155, 273), (161, 377)])
def inv5 : String × List (TypeId × Nat) := ("Step", [(106, 98), (155, 274), (158, 343), (161, 378), (164, 417)])
def inv6 : String × List (TypeId × Nat) := ("Poll", [(106, 97), (158, 341), (164, 415)])
def inv7 : String × List (TypeId × Nat) := ("Err", [(155, 270), (158, 339), (161, 374), (164, 413)])
def inv8 : String × List (TypeId × Nat) := ("Return", [(106, 105), (158, 342), (164, 416)])
def inv9 : String × List (TypeId × Nat) := ("Chain", [(106, 101), (158, 337), (164, 411)])
def inv10 : String × List (TypeId × Nat) := ("dumbwaiter/build.made", [(429, 443), (526, 444)])
def invL : List (Nat × (String × List (TypeId × Nat))) := [(98315, inv0), (98325, inv0), (102410, inv1), (114704, inv2), (114712, inv2), (143371, inv0), (143376, inv0), (180297, inv3), (184334, inv4), (188437, inv5), (188448, inv2), (237583, inv5), (237591, inv2), (241679, inv5), (241687, inv2), (278547, inv3), (282635, inv4), (286731, inv6), (290829, inv7), (290838, inv0), (290844, inv1), (290869, inv8), (397365, inv6), (401438, inv5), (401443, inv2), (405517, inv0), (409612, inv1), (413712, inv9), (430108, inv8), (442397, inv0), (1093645, inv2), (1216541, inv10), (1650717, inv10)]
def cx : Cx := ⟨tyTab Tryz.prog, mkAssoc eqsL, mkAssoc invL⟩
def fnT : Tr Func := mkTr Tryz.prog.funcs.toList .z .nil
def tab : Nat → Option KFunc := fnTab cx fnT
end Tables
theorem inv0_ok : tabOk Tryz.prog inv0 = true := by kernel_rfl
theorem inv1_ok : tabOk Tryz.prog inv1 = true := by kernel_rfl
theorem inv2_ok : tabOk Tryz.prog inv2 = true := by kernel_rfl
theorem inv3_ok : tabOk Tryz.prog inv3 = true := by kernel_rfl
theorem inv4_ok : tabOk Tryz.prog inv4 = true := by kernel_rfl
theorem inv5_ok : tabOk Tryz.prog inv5 = true := by kernel_rfl
theorem inv6_ok : tabOk Tryz.prog inv6 = true := by kernel_rfl
theorem inv7_ok : tabOk Tryz.prog inv7 = true := by kernel_rfl
theorem inv8_ok : tabOk Tryz.prog inv8 = true := by kernel_rfl
theorem inv9_ok : tabOk Tryz.prog inv9 = true := by kernel_rfl
theorem inv10_ok : tabOk Tryz.prog inv10 = true := by kernel_rfl
theorem eqs_ok : eqsL.all (fun p => eqChk Tryz.prog ⟨tyTab Tryz.prog, mkAssoc eqsL, mkAssoc invL⟩ p.1 p.2) = true := by kernel_rfl
theorem inv_all : ∀ p ∈ invL, tabOk Tryz.prog p.2 = true :=
  List.forall_mem_cons.2 ⟨inv0_ok, List.forall_mem_cons.2 ⟨inv0_ok, List.forall_mem_cons.2 ⟨inv1_ok, List.forall_mem_cons.2 ⟨inv2_ok, List.forall_mem_cons.2 ⟨inv2_ok, List.forall_mem_cons.2 ⟨inv0_ok, List.forall_mem_cons.2 ⟨inv0_ok, List.forall_mem_cons.2 ⟨inv3_ok, List.forall_mem_cons.2 ⟨inv4_ok, List.forall_mem_cons.2 ⟨inv5_ok, List.forall_mem_cons.2 ⟨inv2_ok, List.forall_mem_cons.2 ⟨inv5_ok, List.forall_mem_cons.2 ⟨inv2_ok, List.forall_mem_cons.2 ⟨inv5_ok, List.forall_mem_cons.2 ⟨inv2_ok, List.forall_mem_cons.2 ⟨inv3_ok, List.forall_mem_cons.2 ⟨inv4_ok, List.forall_mem_cons.2 ⟨inv6_ok, List.forall_mem_cons.2 ⟨inv7_ok, List.forall_mem_cons.2 ⟨inv0_ok, List.forall_mem_cons.2 ⟨inv1_ok, List.forall_mem_cons.2 ⟨inv8_ok, List.forall_mem_cons.2 ⟨inv6_ok, List.forall_mem_cons.2 ⟨inv5_ok, List.forall_mem_cons.2 ⟨inv2_ok, List.forall_mem_cons.2 ⟨inv0_ok, List.forall_mem_cons.2 ⟨inv1_ok, List.forall_mem_cons.2 ⟨inv9_ok, List.forall_mem_cons.2 ⟨inv8_ok, List.forall_mem_cons.2 ⟨inv0_ok, List.forall_mem_cons.2 ⟨inv2_ok, List.forall_mem_cons.2 ⟨inv10_ok, List.forall_mem_cons.2 ⟨inv10_ok, fun _ h => nomatch h⟩⟩⟩⟩⟩⟩⟩⟩⟩⟩⟩⟩⟩⟩⟩⟩⟩⟩⟩⟩⟩⟩⟩⟩⟩⟩⟩⟩⟩⟩⟩⟩⟩
theorem cx_is : CxI Tryz.prog cx := cx_ok (fun p hp => List.all_eq_true.1 eqs_ok p hp) inv_all
theorem mixed : Tryz.prog.follows .mixedOrders = true := by kernel_rfl
theorem names : Tryz.prog.funcs.all (fun g => !(g.name == "runtime.NumGoroutine")) = true := by kernel_rfl
theorem tab_is : TabOk cx Tryz.prog tab := tab_ok funcs_ok fun f g h e => by
  have h1 := Array.all_eq_true.1 names f (Array.getElem?_eq_some_iff.1 h).1
  rw [(Array.getElem?_eq_some_iff.1 h).2, e] at h1
  exact absurd h1 (by decide)
end Go.Proofs.YtkcjeopdenhafaaGreat
