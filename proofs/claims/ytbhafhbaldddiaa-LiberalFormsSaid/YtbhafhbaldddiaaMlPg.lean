/- Plain laws on letters' dates: the document's way to write one. No program in sight. -/
import Derived.Test.YtbhafhbaldddiaaMlPf
namespace Ml
open Sm
theorem dy_ext_all : ((List.range 7).all fun n => decide ((⟨#[77, 111, 110, 84, 117, 101, 87, 101, 100, 84, 104, 117, 70, 114, 105, 83, 97, 116, 83, 117, 110]⟩ : ByteArray).extract (3 * n) (3 * n + 3) = dyN (n : Int))) = true := by kernel_rfl
theorem dy_ext (n : Nat) (hn : n ≤ 6) : (⟨#[77, 111, 110, 84, 117, 101, 87, 101, 100, 84, 104, 117, 70, 114, 105, 83, 97, 116, 83, 117, 110]⟩ : ByteArray).extract (3 * n) (3 * n + 3) = dyN (n : Int) := of_decide_eq_true (List.all_eq_true.1 dy_ext_all n (List.mem_range.2 (by omega)))
theorem mo_ext_all : ((List.range 12).all fun n => decide ((⟨#[74, 97, 110, 70, 101, 98, 77, 97, 114, 65, 112, 114, 77, 97, 121, 74, 117, 110, 74, 117, 108, 65, 117, 103, 83, 101, 112, 79, 99, 116, 78, 111, 118, 68, 101, 99]⟩ : ByteArray).extract (3 * n) (3 * n + 3) = moN ((n : Int) + 1))) = true := by kernel_rfl
theorem mo_ext (n : Nat) (hn : n ≤ 11) : (⟨#[74, 97, 110, 70, 101, 98, 77, 97, 114, 65, 112, 114, 77, 97, 121, 74, 117, 110, 74, 117, 108, 65, 117, 103, 83, 101, 112, 79, 99, 116, 78, 111, 118, 68, 101, 99]⟩ : ByteArray).extract (3 * n) (3 * n + 3) = moN ((n : Int) + 1) := of_decide_eq_true (List.all_eq_true.1 mo_ext_all n (List.mem_range.2 (by omega)))
theorem two_mod (y : Int) : two (y % 100) = two y := by
  unfold two c
  rw [show y % 100 / 10 % 10 = y / 10 % 10 by omega, show y % 100 % 10 = y % 10 by omega]
def rtx (n j : Nat) (y d h mi s : Int) : ByteArray := (⟨#[77, 111, 110, 84, 117, 101, 87, 101, 100, 84, 104, 117, 70, 114, 105, 83, 97, 116, 83, 117, 110]⟩ : ByteArray).extract (3 * n) (3 * n + 3) ++ ⟨#[44, 32]⟩ ++ two d ++ ⟨#[32]⟩ ++ (⟨#[74, 97, 110, 70, 101, 98, 77, 97, 114, 65, 112, 114, 77, 97, 121, 74, 117, 110, 74, 117, 108, 65, 117, 103, 83, 101, 112, 79, 99, 116, 78, 111, 118, 68, 101, 99]⟩ : ByteArray).extract (3 * j) (3 * j + 3) ++ ⟨#[32]⟩ ++ two (y / 100) ++ two (y % 100) ++ ⟨#[32]⟩ ++ two h ++ ⟨#[58]⟩ ++ two mi ++ ⟨#[58]⟩ ++ two s ++ ⟨#[32, 71, 77, 84]⟩
theorem rtx_is (n j : Nat) (hn : n ≤ 6) (hj : j ≤ 11) (y d h mi s : Int) (hw : Cv.wday (Cv.num y (j + 1) d) = n) : rtx n j y d h mi s = txB y (j + 1) d h mi s := by
  have e : txB y (j + 1) d h mi s = mk (txL y (j + 1) d h mi s) := by
    unfold txB
    rw [tx_join]
    rfl
  rw [e]
  apply of_list
  unfold rtx txL
  rw [dy_ext n hn, mo_ext j hj, two_mod, hw]
  simp only [len_app]
  simp [two, tw]
end Ml
