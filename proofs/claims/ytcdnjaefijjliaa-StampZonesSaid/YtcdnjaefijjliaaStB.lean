/- The walks of the library's search for one byte, and of its Cut at 'T'. -/
import Derived.Test.YtcdnjaefijjliaaStA
import Derived.Lib.Bytealg
import Derived.BigRegion
namespace Go.Proofs.Ytcdnjaefijjliaa
open Go.RowKit
open Go
set_option linter.unusedVariables false
/-- Where a byte stands first, or -1. -/
def FirstAt (s : ByteArray) (c : Nat) (k : Int) : Prop := (∃ n : Nat, k = n ∧ n < s.size ∧ Sm.B s n = c ∧ ∀ i, i < n → Sm.B s i ≠ c) ∨ (k = -1 ∧ ∀ i, i < s.size → Sm.B s i ≠ c)
theorem idx_hit (c : UInt8) : ∀ (l : List UInt8) (k : Nat), l[k]? = some c → (∀ i, i < k → l[i]? ≠ some c) → Lib.indexByte l c = k := by
  intro l
  induction l with
  | nil => intro k h; simp at h
  | cons b l ih =>
    intro k h hn
    unfold Lib.indexByte
    cases k with
    | zero =>
      simp at h
      rw [h]; simp
    | succ k =>
      have h0 := hn 0 (by omega)
      simp at h0
      have : (b == c) = false := by simpa using h0
      rw [this]
      have e := ih k (by simpa using h) (fun i hi => by have := hn (i + 1) (by omega); simpa using this)
      rw [e]
      have e2 : ((k : Int) == -1) = false := by
        rw [beq_eq_false_iff_ne]; omega
      rw [e2]
      simp
theorem idx_miss (c : UInt8) : ∀ (l : List UInt8), (∀ i : Nat, l[i]? ≠ some c) → Lib.indexByte l c = -1 := by
  intro l
  induction l with
  | nil => intro _; rfl
  | cons b l ih =>
    intro hn
    unfold Lib.indexByte
    have h0 := hn 0
    simp at h0
    have : (b == c) = false := by simpa using h0
    rw [this, ih (fun i => by have := hn (i + 1); simpa using this)]
    simp
theorem at_list (s : ByteArray) (i : Nat) (h : i < s.size) : s.data.toList[i]? = some (s[i]'h) := by
  simp [ByteArray.getElem_eq_getElem_data]
theorem idx_first {s : ByteArray} {c : Nat} {k : Int} (hc : c < 256) (h : FirstAt s c k) : Lib.indexByte s.data.toList ((c : Int)).toNat.toUInt8 = k := by
  have hcc : ((c : Int).toNat.toUInt8).toNat = c := by
    show (UInt8.ofNat c).toNat = c
    rw [UInt8.toNat_ofNat']
    omega
  have key : ∀ i, s.data.toList[i]? = some ((c : Int).toNat.toUInt8) ↔ i < s.size ∧ Sm.B s i = c := by
    intro i
    constructor
    · intro e
      have hi : i < s.size := by
        have := (List.getElem?_eq_some_iff.1 e).1
        simpa using this
      rw [at_list s i hi] at e
      refine ⟨hi, ?_⟩
      rw [← Sm.B_at s i hi, Option.some.inj e, hcc]
    · rintro ⟨hi, e⟩
      rw [at_list s i hi]
      congr 1
      apply UInt8.toNat_inj.1
      rw [hcc, Sm.B_at s i hi, e]
  rcases h with ⟨n, rfl, hn, h1, h2⟩ | ⟨rfl, h2⟩
  · exact idx_hit _ _ n ((key n).2 ⟨hn, h1⟩) (fun i hi e => h2 i hi ((key i).1 e).2)
  · exact idx_miss _ _ (fun i e => h2 i ((key i).1 e).1 ((key i).1 e).2)
set_option maxHeartbeats 400000 in
theorem indexByte_any (s : ByteArray) (c : Nat) (hc : c < 256) (k : Int) (h : FirstAt s c k) (w : World) : Calls Try.prog 50 #[.string s, .int .u8 c] w (fun e w' => e = .returned (.int .i64 k) ∧ w = w') := by
  go_enter Try.func50, Try.ntmps50
  go_wp2
  rw [run_callFunc_extern Try.func54 (by kernel_rfl) (by kernel_rfl) (by kernel_rfl) (e := Extern.BytealgIndexByte.indexByte) (by kernel_rfl), Lib.run_indexByteString, idx_first hc h]
  simp only [Result.andThen]
  rw [Oper.upon_value]
  go_wp2
  go_ret
  exact ⟨rfl, rfl⟩
set_option maxHeartbeats 400000 in
theorem indexT_any (s : ByteArray) (k : Int) (h : FirstAt s 84 k) (hs : s.size ≤ 1000000) (w : World) : Calls Try.prog 47 #[.string s, .string ⟨#[84]⟩] w (fun e w' => e = .returned (.int .i64 k) ∧ w = w') := by
  have C := fun w => indexByte_any s 84 (by omega) k h w
  cases he : ([84] == s.toList)
  · go_enter Try.func47, Try.ntmps47
    go_wp2_with fail
    refine (C _).mono ?_
    rintro e w1 ⟨rfl, rfl⟩
    go_wp2
    go_ret
    exact ⟨rfl, rfl⟩
  · have hk : k = 0 := by
      have e : s.toList = [84] := by
        have := beq_iff_eq.1 he
        exact this.symm
      have e2 : s.data.toList = [84] := by rw [← ByteArray.toList_eq]; exact e
      have hsz : s.size = 1 := by
        have : s.data.toList.length = 1 := by rw [e2]; rfl
        simpa using this
      have hb : Sm.B s 0 = 84 := by
        rw [← Sm.B_at s 0 (by omega)]
        have := at_list s 0 (by omega)
        rw [e2] at this
        have := Option.some.inj this
        rw [← this]; rfl
      rcases h with ⟨n, rfl, hn, h1, h2⟩ | ⟨rfl, h2⟩
      · omega
      · exact absurd hb (h2 0 (by omega))
    subst hk
    go_enter Try.func47, Try.ntmps47
    go_wp2_with fail
    go_ret
    exact ⟨rfl, rfl⟩
/-- What Cut at 'T' gives. -/
def cutT (s : ByteArray) (k : Int) : Value := if k = -1 then .tuple #[.string s, .string ⟨#[]⟩, .bool false] else .tuple #[.string (s.extract 0 k.toNat), .string (s.extract (k.toNat + 1) s.size), .bool true]
set_option maxHeartbeats 400000 in
theorem lcut_any (s : ByteArray) (k : Int) (h : FirstAt s 84 k) (hs : s.size ≤ 1000000) (w : World) : Calls Try.prog 42 #[.string s, .string ⟨#[84]⟩] w (fun e w' => e = .returned (cutT s k) ∧ Below w.heap.size w w') := by
  have C := fun w => indexT_any s k h hs w
  rcases h with ⟨n, rfl, hn, _, _⟩ | ⟨rfl, _⟩
  · have : cutT s n = .tuple #[.string (s.extract 0 n), .string (s.extract (n + 1) s.size), .bool true] := by
      unfold cutT; rw [if_neg (by omega)]; rfl
    rw [this]
    go_enter Try.func42, Try.ntmps42
    go_wp2_with fail
    refine (C _).mono ?_
    rintro e w1 ⟨rfl, rfl⟩
    clear C
    have c1 : (0 : Int) ≤ ↑n := by omega
    have c2 : (↑n : Int) ≤ ↑s.size := by omega
    have c3 : (0 : Int) ≤ ↑n + 1 := by omega
    have c4 : (↑n + 1 : Int) ≤ ↑s.size := by omega
    go_wp2_with fail
    go_region
    go_wp2
    go_ret3
    exact ⟨rfl, (Below.refl _ _).drew⟩
  · go_enter Try.func42, Try.ntmps42
    go_wp2_with fail
    refine (C _).mono ?_
    rintro e w1 ⟨rfl, rfl⟩
    go_wp2
    go_ret3
    exact ⟨rfl, Below.refl _ _⟩
set_option maxHeartbeats 400000 in
theorem cut_any (s : ByteArray) (k : Int) (h : FirstAt s 84 k) (hs : s.size ≤ 1000000) (w : World) : Calls Try.prog 34 #[.string s, .string ⟨#[84]⟩] w (fun e w' => e = .returned (cutT s k) ∧ Below w.heap.size w w') := by
  have C := fun w => lcut_any s k h hs w
  unfold cutT at C ⊢
  split
  all_goals (
    rename_i hk
    simp only [hk, if_true, if_false] at C
    go_enter Try.func34, Try.ntmps34
    go_wp2_with fail
    refine (C _).mono ?_
    rintro e w1 ⟨rfl, hb⟩
    clear C
    go_wp2
    go_ret3
    exact ⟨rfl, hb⟩)
end Go.Proofs.Ytcdnjaefijjliaa
