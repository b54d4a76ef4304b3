/- Plain laws on letters' dates: how a date is written. No program in sight. -/
import Derived.Test.YtbhafhbaldddiaaMlPb
import Derived.Test.YtbhafhbaldddiaaSmF
import Derived.Lib.Join
namespace Ml
open Sm
def tw (n : Int) : List UInt8 := [Sm.c (n / 10), Sm.c n]
def two (n : Int) : ByteArray := ⟨#[Sm.c (n / 10), Sm.c n]⟩
def dyN (k : Int) : ByteArray := (dys[k.toNat]?).getD ⟨#[]⟩
def moN (k : Int) : ByteArray := (mths[(k - 1).toNat]?).getD ⟨#[]⟩
theorem dy_all : ((List.range 7).all fun k => decide (dayF (dyN (k : Int)) = some (k : Int)) && (dyN (k : Int)).size == 3) = true := by kernel_rfl
theorem mo_all : ((List.range 13).all fun k => k == 0 || decide (monF (moN (k : Int)) = some (k : Int)) && (moN (k : Int)).size == 3) = true := by kernel_rfl
theorem dy_is {k : Int} (h0 : 0 ≤ k) (h1 : k ≤ 6) : dayF (dyN k) = some k ∧ (dyN k).size = 3 := by
  obtain ⟨n, rfl⟩ := Int.eq_ofNat_of_zero_le h0
  have := List.all_eq_true.1 dy_all n (List.mem_range.2 (by omega))
  rw [Bool.and_eq_true, decide_eq_true_iff, beq_iff_eq] at this
  exact this
theorem mo_is {k : Int} (h0 : 1 ≤ k) (h1 : k ≤ 12) : monF (moN k) = some k ∧ (moN k).size = 3 := by
  obtain ⟨n, rfl⟩ := Int.eq_ofNat_of_zero_le (show 0 ≤ k by omega)
  have := List.all_eq_true.1 mo_all n (List.mem_range.2 (by omega))
  rw [Bool.or_eq_true, Bool.and_eq_true, decide_eq_true_iff, beq_iff_eq, beq_iff_eq] at this
  rcases this with h | h
  · omega
  · exact h
theorem dy_one {s : ByteArray} {k : Int} (h : dayF s = some k) : s = dyN k := by
  obtain ⟨_, n, e, h2⟩ := nm_mem h
  unfold dyN
  have : k.toNat = n := by omega
  rw [this, h2]
  rfl
theorem mo_one {s : ByteArray} {k : Int} (h : monF s = some k) : s = moN k := by
  obtain ⟨_, n, e, h2⟩ := nm_mem h
  unfold moN
  have : (k - 1).toNat = n := by omega
  rw [this, h2]
  rfl
/-- A date's text. -/
def txS (y m d h mi s : Int) : List ByteArray := [dyN (Cv.wday (Cv.num y m d)) ++ ⟨#[44]⟩, two d, moN m, two (y / 100) ++ two y, two h ++ ⟨#[58]⟩ ++ two mi ++ ⟨#[58]⟩ ++ two s, ⟨#[71, 77, 84]⟩]
def txB (y m d h mi s : Int) : ByteArray := ⟨(Go.Lib.join ((txS y m d h mi s).map (·.data.toList)) [32]).toArray⟩
theorem len_app (a b : ByteArray) : (a ++ b).data.toList = a.data.toList ++ b.data.toList := by simp
/-- The text's bytes. -/
def txL (y m d h mi s : Int) : List UInt8 := (dyN (Cv.wday (Cv.num y m d))).data.toList ++ ([44, 32] ++ (tw d ++ ([32] ++ ((moN m).data.toList ++ ([32] ++ (tw (y / 100) ++ (tw y ++ ([32] ++ (tw h ++ ([58] ++ (tw mi ++ ([58] ++ (tw s ++ [32, 71, 77, 84])))))))))))))
theorem tx_join (y m d h mi s : Int) : Go.Lib.join ((txS y m d h mi s).map (·.data.toList)) [32] = txL y m d h mi s := by
  unfold txS txL Go.Lib.join two
  simp only [List.map_cons, List.map_nil, len_app]
  simp [List.intercalate, tw]
theorem tx_len (y m d h mi s : Int) (h0 : 0 ≤ Cv.wday (Cv.num y m d)) (h1 : Cv.wday (Cv.num y m d) ≤ 6) (h2 : 1 ≤ m) (h3 : m ≤ 12) : (Go.Lib.join ((txS y m d h mi s).map (·.data.toList)) [32]).length = 29 := by
  rw [tx_join]
  unfold txL
  have e1 := (dy_is h0 h1).2
  have e2 := (mo_is h2 h3).2
  have e3 : (dyN (Cv.wday (Cv.num y m d))).data.toList.length = 3 := by simpa using e1
  have e4 : (moN m).data.toList.length = 3 := by simpa using e2
  simp only [List.length_append, e3, e4, tw, List.length_cons, List.length_nil]
end Ml
