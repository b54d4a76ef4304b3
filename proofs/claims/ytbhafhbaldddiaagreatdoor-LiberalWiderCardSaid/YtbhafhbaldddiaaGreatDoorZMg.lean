/- The walks of the document's find, Month, Day, number, day. The walks of the document's zone, clock and day. -/
import Derived.Test.YtbhafhbaldddiaaGreatDoorZMf
import Derived.Deep.RegionHeld3
namespace Go.Proofs.YtbhafhbaldddiaaGreatDoor
open Go.RowKit
open Go
set_option linter.unusedVariables false
def fndF (N : List ByteArray) (s : ByteArray) : Int := match N.findIdx? fun x => decide (x = s) with | some k => (k : Int) | none => -1
theorem fnd_no {N : List ByteArray} {s : ByteArray} (h : ∀ j, j < N.length → N[j]? ≠ some s) : fndF N s = -1 := by
  unfold fndF
  have : (N.findIdx? fun x => decide (x = s)) = none := by
    rw [List.findIdx?_eq_none_iff]
    intro x hx
    obtain ⟨i, hi, e⟩ := List.mem_iff_getElem.1 hx
    have := h i hi
    rw [List.getElem?_eq_getElem hi, e] at this
    simpa using fun k => this (by rw [k])
  rw [this]
theorem fnd_at {N : List ByteArray} {s : ByteArray} {j : Nat} (h : ∀ i, i < j → N[i]? ≠ some s) (hj : N[j]? = some s) : fndF N s = j := by
  unfold fndF
  have hlt : j < N.length := (List.getElem?_eq_some_iff.1 hj).1
  have : (N.findIdx? fun x => decide (x = s)) = some j := by
    rw [List.findIdx?_eq_some_iff_getElem]
    refine ⟨hlt, ?_, ?_⟩
    · rw [List.getElem?_eq_getElem hlt] at hj
      simpa using Option.some.inj hj
    · intro i hi
      have := h i hi
      rw [List.getElem?_eq_getElem (by omega)] at this
      simpa using fun k => this (by rw [k])
  rw [this]
def FndR (N : List ByteArray) (s : ByteArray) (a : Nat) : Prop := ∃ j : Nat, a = 3 * j ∧ j ≤ N.length ∧ ∀ i', i' < j → N[i']? ≠ some s
theorem str_ne {a b : ByteArray} (h : ¬ a = b) : (a.toList == b.toList) = false := by
  rw [beq_eq_false_iff_ne]
  intro e
  apply h
  rw [Go.Lib.toList_data, Go.Lib.toList_data] at e
  rw [Ml.of_list (s := a) rfl, Ml.of_list (s := b) rfl, e]
set_option maxHeartbeats 1000000 in
theorem find_any (A : ByteArray) (N : List ByteArray) (hA : A.size = 3 * N.length) (hN : N.length ≤ 20) (hE : ∀ i nm, N[i]? = some nm → A.extract (3 * i) (3 * i + 3) = nm) (hS : ∀ nm ∈ N, nm.size = 3) (s : ByteArray) (hs : s.size ≤ 1000000) (w : World) :
    Calls Tryz.prog 95 #[.string A, .string s] w fun e w' => e = .returned (.int .i64 (fndF N s)) ∧ w = w' := by
  obtain ⟨o, ho⟩ : ∃ o, fndF N s = o := ⟨_, rfl⟩
  rw [ho]
  have HO := Lib.hid ho
  clear ho
  by_cases h3 : s.size = 3
  · have e3 : ((s.size : Int) == 3) = true := by simp [h3]
    have H3 := Lib.hid h3
    have HE := Lib.hid hE
    clear h3 hE hS
    go_enter Tryz.func95, Tryz.ntmps95
    go_wp2
    go_loop [5] (fun i => ∃ a : Nat, i = .int .i64 a ∧ FndR N s a) (fun i => A.size - (intOf i).toNat)
    case atStart => exact ⟨0, rfl, 0, rfl, by omega, fun i hi => absurd hi (by omega)⟩
    case round =>
      obtain ⟨a, rfl, j, ha, hj, hno⟩ := hrel
      have HN := Lib.hid hno
      clear hno
      by_cases hlt : j < N.length
      · obtain ⟨nm, hnm⟩ : ∃ nm, N[j]? = some nm := ⟨_, List.getElem?_eq_getElem hlt⟩
        have hx := HE.out j nm hnm
        rw [← ha] at hx
        have l1 : (a : Int) < (A.size : Int) := by omega
        have l2 : (a : Int) + 3 ≤ (A.size : Int) := by omega
        have td : (a : Int).tdiv 3 = (j : Int) := by rw [Int.tdiv_eq_ediv_of_nonneg (by omega)]; omega
        have HAJ := Lib.hid ha
        have HNM := Lib.hid hnm
        by_cases he : nm = s
        · subst he
          have hoj : (j : Int) = o := by rw [← HO.out]; exact (fnd_at HN.out HNM.out).symm
          clear hnm ha hlt
          go_wp2
          go_ret
          exact ⟨rfl, rfl⟩
        · have hne := str_ne he
          have HNE := Lib.hid he
          have hj1 : j + 1 ≤ N.length := by omega
          clear hnm ha hlt he
          go_wp2
          go_round
          case rel =>
            refine ⟨a + 3, by go_num, j + 1, by have := HAJ.out; omega, hj1, fun i' hi' => ?_⟩
            by_cases hij : i' = j
            · subst hij
              rw [HNM.out]
              exact fun e => HNE.out (Option.some.inj e)
            · exact HN.out i' (by omega)
          case measure => simp [intOf]; omega
      · have hj2 : j = N.length := by omega
        have l1 : ¬ ((a : Int) < 3 * (N.length : Int)) := by omega
        have l1' : 3 * (N.length : Int) ≤ (a : Int) := by omega
        have hoj : (-1 : Int) = o := by rw [← HO.out]; exact (fnd_no (fun i hi => HN.out i (by omega))).symm
        clear hlt
        go_wp2
        go_ret
        exact ⟨rfl, rfl⟩
  · have e3 : ((s.size : Int) == 3) = false := by simp; omega
    have hoj : (-1 : Int) = o := by
      rw [← HO.out]
      refine (fnd_no fun j hj e => ?_).symm
      exact h3 (hS s (List.mem_of_getElem? e))
    clear h3
    go_enter Tryz.func95, Tryz.ntmps95
    go_wp2
    go_loop [5] (fun i => i = .int .i64 0) (fun i => 0)
    case atStart => rfl
    case round =>
      subst hrel
      go_wp2
      all_goals
        go_ret
        exact ⟨rfl, rfl⟩
theorem dys_get : ((List.range 7).all fun n => decide (Ml.dys[n]? = some (Ml.dyN (n : Int)))) = true := by kernel_rfl
theorem mths_get : ((List.range 12).all fun n => decide (Ml.mths[n]? = some (Ml.moN ((n : Int) + 1)))) = true := by kernel_rfl
theorem dys_three : (Ml.dys.all fun x => x.size == 3) = true := by kernel_rfl
theorem mths_three : (Ml.mths.all fun x => x.size == 3) = true := by kernel_rfl
theorem dfind_any (s : ByteArray) (hs : s.size ≤ 1000000) (w : World) : Calls Tryz.prog 95 #[.string ⟨#[77, 111, 110, 84, 117, 101, 87, 101, 100, 84, 104, 117, 70, 114, 105, 83, 97, 116, 83, 117, 110]⟩, .string s] w fun e w' => e = .returned (.int .i64 (fndF Ml.dys s)) ∧ w = w' :=
  find_any _ Ml.dys rfl (by decide) (fun i nm h => by
    have hi : i < 7 := (List.getElem?_eq_some_iff.1 h).1
    have h2 := of_decide_eq_true (List.all_eq_true.1 dys_get i (List.mem_range.2 hi))
    rw [h] at h2
    rw [Ml.dy_ext i (by omega)]
    exact (Option.some.inj h2).symm) (fun nm h => by simpa using List.all_eq_true.1 dys_three nm h) s hs w
theorem mfind_any (s : ByteArray) (hs : s.size ≤ 1000000) (w : World) : Calls Tryz.prog 95 #[.string ⟨#[74, 97, 110, 70, 101, 98, 77, 97, 114, 65, 112, 114, 77, 97, 121, 74, 117, 110, 74, 117, 108, 65, 117, 103, 83, 101, 112, 79, 99, 116, 78, 111, 118, 68, 101, 99]⟩, .string s] w fun e w' => e = .returned (.int .i64 (fndF Ml.mths s)) ∧ w = w' :=
  find_any _ Ml.mths rfl (by decide) (fun i nm h => by
    have hi : i < 12 := (List.getElem?_eq_some_iff.1 h).1
    have h2 := of_decide_eq_true (List.all_eq_true.1 mths_get i (List.mem_range.2 hi))
    rw [h] at h2
    rw [Ml.mo_ext i (by omega)]
    exact (Option.some.inj h2).symm) (fun nm h => by simpa using List.all_eq_true.1 mths_three nm h) s hs w
def SamePost (v : Value) (w : World) (e : Ending) (w' : World) : Prop := e = .returned v ∧ w = w'
set_option maxHeartbeats 1000000 in
theorem rday_any (s : ByteArray) (hs : s.size ≤ 1000000) (w : World) : Calls Tryz.prog 44 #[.string s] w (SamePost (.tuple #[.int .i64 ((Ml.dayF s).getD 0), .bool (Ml.dayF s).isSome]) w) := by
  have F := dfind_any s hs
  unfold Ml.dayF Ml.nmF
  unfold fndF at F
  cases hf : Ml.dys.findIdx? (fun x => decide (x = s)) with
  | none =>
    rw [hf] at F
    clear hf
    go_enter Tryz.func44, Tryz.ntmps44
    go_wp2_with fail
    refine (F _).mono ?_
    rintro e w' ⟨rfl, rfl⟩
    go_wp2_with fail
    go_ret2
    exact ⟨rfl, rfl⟩
  | some k =>
    rw [hf] at F
    have hk : k < 7 := (List.findIdx?_eq_some_iff_getElem.1 hf).1
    clear hf
    go_enter Tryz.func44, Tryz.ntmps44
    go_wp2_with fail
    refine (F _).mono ?_
    rintro e w' ⟨rfl, rfl⟩
    go_wp2_with fail
    go_ret2
    exact ⟨by simp, rfl⟩
set_option maxHeartbeats 1000000 in
theorem rmonth_any (s : ByteArray) (hs : s.size ≤ 1000000) (w : World) : Calls Tryz.prog 46 #[.string s] w (SamePost (.tuple #[.int .i64 ((Ml.monF s).getD 0), .bool (Ml.monF s).isSome]) w) := by
  have F := mfind_any s hs
  unfold Ml.monF Ml.nmF
  unfold fndF at F
  cases hf : Ml.mths.findIdx? (fun x => decide (x = s)) with
  | none =>
    rw [hf] at F
    clear hf
    go_enter Tryz.func46, Tryz.ntmps46
    go_wp2_with fail
    refine (F _).mono ?_
    rintro e w' ⟨rfl, rfl⟩
    go_wp2_with fail
    go_ret2
    exact ⟨rfl, rfl⟩
  | some k =>
    rw [hf] at F
    have hk : k < 12 := (List.findIdx?_eq_some_iff_getElem.1 hf).1
    clear hf
    go_enter Tryz.func46, Tryz.ntmps46
    go_wp2_with fail
    refine (F _).mono ?_
    rintro e w' ⟨rfl, rfl⟩
    go_wp2_with fail
    go_ret2
    exact ⟨by simp; omega, rfl⟩
/-! number. -/
def allD (s : ByteArray) : Prop := ∀ i, i < s.size → Sm.dig s i = true
open Classical in
noncomputable def numV (s : ByteArray) : Int := if allD s ∧ s.size ≤ 6 then Sm.numA s 0 s.size else 0
theorem numV_is {s : ByteArray} {n : Nat} (hn : n ≤ 4) (h : Ml.digO s n = true) : numV s = Ml.digV s n := by
  obtain ⟨h1, h2⟩ := (Ml.digO_iff s n).1 h
  subst h1
  unfold numV Ml.digV
  rw [if_pos ⟨h2, by omega⟩, if_pos h]
theorem numV_no {s : ByteArray} (h : ¬ (allD s ∧ s.size ≤ 6)) : numV s = 0 := by unfold numV; rw [if_neg h]
theorem numV_yes {s : ByteArray} (h : allD s) (h6 : s.size ≤ 6) : numV s = Sm.numA s 0 s.size := by unfold numV; rw [if_pos ⟨h, h6⟩]
theorem pow6 : ∀ {i : Nat}, i ≤ 6 → (10 : Int) ^ i ≤ 1000000
  | 0, _ => by decide
  | 1, _ => by decide
  | 2, _ => by decide
  | 3, _ => by decide
  | 4, _ => by decide
  | 5, _ => by decide
  | 6, _ => by decide
theorem numV_bd (s : ByteArray) : 0 ≤ numV s ∧ numV s ≤ 1000000 := by
  unfold numV
  split
  · rename_i h
    obtain ⟨h1, h2⟩ := h
    have := Sm.numA_bd s 0 s.size (fun i hi => by rw [Nat.zero_add]; exact h1 i hi)
    have h3 := pow6 h2
    omega
  · omega
theorem rdig_no {s : ByteArray} {n : Nat} (hn : n ≤ 4) (h : ¬ (allD s ∧ s.size ≤ 6)) : Ml.digO s n = false := dig_false (fun k => h ⟨by rw [allD, k.1]; exact k.2, by omega⟩)
set_option maxHeartbeats 1000000 in
theorem number_any (s : ByteArray) (n : Nat) (hn : n ≤ 4) (hs : s.size ≤ 100000) (w : World) : Calls Tryz.prog 47 #[.string s, .int .i64 n] w (SamePost (.tuple #[.int .i64 (numV s), .bool (Ml.digO s n)]) w) := by
  obtain ⟨v, hv⟩ : ∃ v, numV s = v := ⟨_, rfl⟩
  obtain ⟨o, ho⟩ : ∃ o, Ml.digO s n = o := ⟨_, rfl⟩
  unfold SamePost
  rw [hv, ho]
  have HV := Lib.hid hv
  have HO := Lib.hid ho
  clear hv ho
  go_enter Tryz.func47, Tryz.ntmps47
  go_wp2
  go_loop [6, 7] (fun x k => ∃ i : Nat, i ≤ s.size ∧ i ≤ 6 ∧ k = .int .i64 i ∧ x = .int .i64 (Sm.numA s 0 i) ∧ ∀ j, j < i → Sm.dig s j = true) (fun _ k => s.size - (intOf k).toNat)
  case atStart => exact ⟨0, by omega, by omega, rfl, rfl, fun j h => absurd h (by omega)⟩
  case round =>
    obtain ⟨i, hi, hi6, rfl, rfl, hd⟩ := hrel
    have HD := Lib.hid hd
    clear hd
    have hbd := Sm.numA_bd s 0 i (fun j hj => by rw [Nat.zero_add]; exact HD.out j hj)
    have hpw := pow6 hi6
    have hbd : 0 ≤ Sm.numA s 0 i ∧ Sm.numA s 0 i ≤ 1000000 := by omega
    clear hpw
    by_cases hin : i < s.size
    · have hstep : Sm.dig s i = true → Sm.numA s 0 (i + 1) = Sm.numA s 0 i * 10 + ((Sm.B s i : Int) - 48) := fun _ => by
        show Sm.numA s 0 i * 10 + Sm.v s (0 + i) = _
        rw [Nat.zero_add]
        rfl
      have HST := Lib.hid hstep
      clear hstep
      obtain ⟨a, ha⟩ : ∃ a : Int, Sm.numA s 0 i = a := ⟨_, rfl⟩
      rw [ha] at hbd
      have HA := Lib.hid ha
      have hb : Sm.B s i < 256 := Sm.B_lt s i
      have hidx := byte_at s i hin
      have hdi := Sm.dig_iff s i
      have HDI := Lib.hid hdi
      clear hdi
      obtain ⟨c, hc⟩ : ∃ c : Nat, Sm.B s i = c := ⟨_, rfl⟩
      rw [hc] at hidx hb
      have HC := Lib.hid hc
      clear hc
      rw [ha]
      clear ha
      have i1 : (i : Int) < (s.size : Int) := by omega
      have i2 : (0 : Int) ≤ (i : Int) := by omega
      by_cases h1 : 48 ≤ c ∧ c ≤ 57
      · have hw : IntKind.u8.wrap ((c : Int) - 48) = (c : Int) - 48 := by simp [IntKind.wrap, IntKind.bits, IntKind.signed]; omega
        have hg1 : ¬ ((c : Int) < 48) := by omega
        have hg2 : ¬ ((57 : Int) < (c : Int)) := by omega
        have hdig : Sm.dig s i = true := HDI.out.2 (by rw [HC.out]; exact h1)
        have HDG := Lib.hid hdig
        clear hdig
        by_cases h6 : i = 6
        · have hno : ¬ (allD s ∧ s.size ≤ 6) := fun h => by omega
          have e1 : v = 0 := by rw [← HV.out, numV_no hno]
          have e2 : o = false := by rw [← HO.out, rdig_no hn hno]
          have g6 : (5 : Int) < (i : Int) := by omega
          subst e1
          subst e2
          clear hno h6
          go_wp2
          go_ret2
          exact ⟨rfl, rfl⟩
        · have g6 : ¬ ((5 : Int) < (i : Int)) := by omega
          have hi7 : i + 1 ≤ 6 := by omega
          have hi8 : i + 1 ≤ s.size := by omega
          clear h6
          go_wp2
          go_round
          case rel =>
            refine ⟨i + 1, hi8, hi7, by go_num, ?_, fun j hj => ?_⟩
            · rw [HST.out HDG.out, HA.out, HC.out]
            · by_cases e : j = i
              · rw [e]; exact HDG.out
              · exact HD.out j (by omega)
          case measure => simp [intOf] <;> omega
      · have hno : ¬ (allD s ∧ s.size ≤ 6) := fun h => h1 (by
          have := (HDI.out).1 (h.1 i hin)
          rw [HC.out] at this
          exact this)
        have e1 : v = 0 := by rw [← HV.out, numV_no hno]
        have e2 : o = false := by rw [← HO.out, rdig_no hn hno]
        subst e1
        subst e2
        clear hno
        by_cases hlo : c < 48
        · have hg1 : (c : Int) < 48 := by omega
          clear h1
          go_wp2
          go_ret2
          exact ⟨rfl, rfl⟩
        · have hg1 : ¬ ((c : Int) < 48) := by omega
          have hg2 : (57 : Int) < (c : Int) := by omega
          clear h1 hlo
          go_wp2
          go_ret2
          exact ⟨rfl, rfl⟩
    · obtain rfl : i = s.size := by omega
      have e1 : Sm.numA s 0 s.size = v := by rw [← HV.out, numV_yes HD.out hi6]
      have e2 : o = (((s.size : Int) == (n : Int))) := by
        rw [← HO.out, Bool.eq_iff_iff, Ml.digO_iff, beq_iff_eq]
        constructor
        · rintro ⟨h, _⟩
          omega
        · intro h
          have h2 : s.size = n := by omega
          exact ⟨h2, fun i hi => HD.out i (by omega)⟩
      rw [e1]
      subst e2
      clear e1 hin
      go_wp2
      all_goals
        go_ret2
        exact ⟨rfl, rfl⟩
end Go.Proofs.YtbhafhbaldddiaaGreatDoor
namespace Go.Proofs.YtbhafhbaldddiaaGreatDoor
open Go.RowKit
open Go
set_option linter.unusedVariables false
theorem num2_any (s : ByteArray) (a b : Nat) (hb : b = a + 2) (h : b ≤ s.size) (hs : s.size ≤ 100000) (w : World) : Calls Tryz.prog 47 #[.string (s.extract a b), .int .i64 2] w fun e w' => e = .returned (.tuple #[.int .i64 (numV (s.extract a b)), .bool (Sm.d2 s a)]) ∧ w = w' := by
  have c := number_any (s.extract a b) 2 (by omega) (by rw [Sm.size_extract]; omega) w
  unfold SamePost at c
  rw [Ml.digO2 s a b hb h] at c
  exact c
theorem num2_val {s : ByteArray} {a b : Nat} (hb : b = a + 2) (h : b ≤ s.size) (hd : Sm.d2 s a = true) : numV (s.extract a b) = Sm.n2 s a := by
  have ho : Ml.digO (s.extract a b) 2 = true := by rw [Ml.digO2 s a b hb h]; exact hd
  rw [numV_is (by omega) ho, Ml.digV2 s a b hb h, if_pos hd]
theorem lit_ne {s : ByteArray} {l : List UInt8} (h : ¬ s = Ml.mk l) : (s.toList == l) = false := by
  rw [beq_eq_false_iff_ne]
  intro e
  apply h
  rw [Go.Lib.toList_data] at e
  rw [Ml.of_list e]
def ZnPost (o : Option Int) (w : World) (e : Ending) (w' : World) : Prop := e = .returned (.tuple #[.int .i64 (o.getD 0), .bool o.isSome]) ∧ w = w'
set_option maxRecDepth 100000 in
set_option maxHeartbeats 2000000 in
theorem rzone_named {s : ByteArray} {h : Int} (hh : Ml.hourF s = some h) (w : World) : Calls Tryz.prog 49 #[.string s] w (ZnPost (some (h * 60)) w) := by
  have hm := Ml.hour_mem hh
  clear hh
  unfold Ml.znames at hm
  simp only [List.mem_cons, List.not_mem_nil, or_false, Prod.mk.injEq] at hm
  rcases hm with ⟨rfl, rfl⟩ | ⟨rfl, rfl⟩ | ⟨rfl, rfl⟩ | ⟨rfl, rfl⟩ | ⟨rfl, rfl⟩ | ⟨rfl, rfl⟩ | ⟨rfl, rfl⟩ | ⟨rfl, rfl⟩ | ⟨rfl, rfl⟩ | ⟨rfl, rfl⟩ | ⟨rfl, rfl⟩
  all_goals
    go_enter Tryz.func49, Tryz.ntmps49
    go_wp2
    go_ret2
    exact ⟨rfl, rfl⟩
theorem hour_none {s : ByteArray} (h : Ml.hourF s = none) (p : ByteArray × Int) (hp : p ∈ Ml.znames) : ¬ s = p.1 := by
  intro e
  unfold Ml.hourF at h
  rw [Option.map_eq_none_iff, List.find?_eq_none] at h
  have := h p hp
  simp at this
  exact this e.symm
set_option maxRecDepth 100000 in
set_option maxHeartbeats 2000000 in
theorem rzone_off (s : ByteArray) (hs : s.size ≤ 100000) (hh : Ml.hourF s = none) (o : Option Int) (ho : (if Ml.offB s = true then some (Ml.offV s) else none) = o) (w : World) : Calls Tryz.prog 49 #[.string s] w (ZnPost o w) := by
  have x0 : (s.toList == [71, 77, 84]) = false := lit_ne (hour_none hh (⟨#[71, 77, 84]⟩, 0) (by simp [Ml.znames]))
  have x1 : (s.toList == [85, 84]) = false := lit_ne (hour_none hh (⟨#[85, 84]⟩, 0) (by simp [Ml.znames]))
  have x2 : (s.toList == [90]) = false := lit_ne (hour_none hh (⟨#[90]⟩, 0) (by simp [Ml.znames]))
  have x3 : (s.toList == [69, 83, 84]) = false := lit_ne (hour_none hh (⟨#[69, 83, 84]⟩, -5) (by simp [Ml.znames]))
  have x4 : (s.toList == [69, 68, 84]) = false := lit_ne (hour_none hh (⟨#[69, 68, 84]⟩, -4) (by simp [Ml.znames]))
  have x5 : (s.toList == [67, 83, 84]) = false := lit_ne (hour_none hh (⟨#[67, 83, 84]⟩, -6) (by simp [Ml.znames]))
  have x6 : (s.toList == [67, 68, 84]) = false := lit_ne (hour_none hh (⟨#[67, 68, 84]⟩, -5) (by simp [Ml.znames]))
  have x7 : (s.toList == [77, 83, 84]) = false := lit_ne (hour_none hh (⟨#[77, 83, 84]⟩, -7) (by simp [Ml.znames]))
  have x8 : (s.toList == [77, 68, 84]) = false := lit_ne (hour_none hh (⟨#[77, 68, 84]⟩, -6) (by simp [Ml.znames]))
  have x9 : (s.toList == [80, 83, 84]) = false := lit_ne (hour_none hh (⟨#[80, 83, 84]⟩, -8) (by simp [Ml.znames]))
  have x10 : (s.toList == [80, 68, 84]) = false := lit_ne (hour_none hh (⟨#[80, 68, 84]⟩, -7) (by simp [Ml.znames]))
  clear hh
  by_cases hsz : s.size = 5
  · have h5 : ((s.size : Int) == 5) = true := by simp [hsz]
    have h5' : ((s.size : Int) != 5) = false := by simp [hsz]
    have c1 := fun w => num2_any s 1 3 rfl (by omega) hs w
    have c2 := fun w => num2_any s 3 s.size (by omega) (by omega) hs w
    have v1 : Sm.d2 s 1 = true → numV (s.extract 1 3) = Sm.n2 s 1 := fun h => num2_val rfl (by omega) h
    have v2 : Sm.d2 s 3 = true → numV (s.extract 3 s.size) = Sm.n2 s 3 := fun h => num2_val (by omega) (by omega) h
    have b1 := numV_bd (s.extract 1 3)
    have b2 := numV_bd (s.extract 3 s.size)
    have g3 : (3 : Int) ≤ (s.size : Int) := by omega
    have g4 : (0 : Int) < (s.size : Int) := by omega
    have g0 : 0 < s.size := by omega
    have hb0 := byte_at s 0 g0
    have hbl := Sm.B_lt s 0
    have hoff : Ml.offB s = true ↔ (Sm.d2 s 1 = true ∧ Sm.d2 s 3 = true ∧ Sm.n2 s 1 ≤ 23 ∧ Sm.n2 s 3 ≤ 59 ∧ (Sm.B s 0 = 43 ∨ Sm.B s 0 = 45)) := by
      rw [Ml.off_iff]
      exact ⟨fun h => h.2, fun h => ⟨hsz, h⟩⟩
    have hbd1 : Sm.d2 s 1 = true → 0 ≤ Sm.n2 s 1 ∧ Sm.n2 s 1 ≤ 99 := fun h => Sm.n2_bd h
    have hbd2 : Sm.d2 s 3 = true → 0 ≤ Sm.n2 s 3 ∧ Sm.n2 s 3 ≤ 99 := fun h => Sm.n2_bd h
    have HSZ := Lib.hid hsz
    clear hsz
    unfold Ml.offV at ho
    generalize numV (s.extract 1 3) = m1 at *
    generalize numV (s.extract 3 s.size) = m2 at *
    generalize Sm.n2 s 1 = x at *
    generalize Sm.n2 s 3 = y at *
    generalize Sm.d2 s 1 = p1 at *
    generalize Sm.d2 s 3 = p2 at *
    generalize Sm.B s 0 = q at *
    generalize Ml.offB s = ob at *
    have hno : ¬ (p1 = true ∧ p2 = true ∧ x ≤ 23 ∧ y ≤ 59 ∧ (q = 43 ∨ q = 45)) → none = o := fun h => by
      rw [← ho, if_neg (fun k => h (hoff.1 k))]
    have hyes : (p1 = true ∧ p2 = true ∧ x ≤ 23 ∧ y ≤ 59 ∧ (q = 43 ∨ q = 45)) → some (if q = 45 then -(x * 60 + y) else x * 60 + y) = o := fun h => by
      rw [← ho, if_pos (hoff.2 h)]
    clear ho hoff
    by_cases hq : q = 43 ∨ q = 45
    · cases p1 with
      | false =>
        obtain rfl := hno (by simp)
        clear hno hyes hbd1 hbd2 v1 v2
        rcases hq with rfl | rfl
        all_goals
          go_enter Tryz.func49, Tryz.ntmps49
          go_wp2_with (go_at_call 47; (first | (with_reducible refine (c1 _).mono ?_) | (with_reducible refine (c2 _).mono ?_)); rintro e w3 ⟨rfl, rfl⟩)
          go_ret2
          exact ⟨rfl, rfl⟩
      | true =>
        cases p2 with
        | false =>
          obtain rfl := hno (by simp)
          clear hno hyes hbd1 hbd2 v1 v2
          rcases hq with rfl | rfl
          all_goals
            go_enter Tryz.func49, Tryz.ntmps49
            go_wp2_with (go_at_call 47; (first | (with_reducible refine (c1 _).mono ?_) | (with_reducible refine (c2 _).mono ?_)); rintro e w3 ⟨rfl, rfl⟩)
            go_ret2
            exact ⟨rfl, rfl⟩
        | true =>
          obtain rfl := v1 rfl
          obtain rfl := v2 rfl
          obtain ⟨d1, d2⟩ := hbd1 rfl
          obtain ⟨d3, d4⟩ := hbd2 rfl
          by_cases hx : m1 ≤ 23
          · by_cases hy : m2 ≤ 59
            · rcases hq with rfl | rfl
              · obtain rfl := hyes ⟨rfl, rfl, hx, hy, Or.inl rfl⟩
                rw [if_neg (by omega)]
                clear hno hyes hbd1 hbd2 v1 v2
                go_enter Tryz.func49, Tryz.ntmps49
                go_wp2_with (go_at_call 47; (first | (with_reducible refine (c1 _).mono ?_) | (with_reducible refine (c2 _).mono ?_)); rintro e w3 ⟨rfl, rfl⟩)
                go_ret2
                exact ⟨rfl, rfl⟩
              · obtain rfl := hyes ⟨rfl, rfl, hx, hy, Or.inr rfl⟩
                rw [if_pos rfl]
                clear hno hyes hbd1 hbd2 v1 v2
                go_enter Tryz.func49, Tryz.ntmps49
                go_wp2_with (go_at_call 47; (first | (with_reducible refine (c1 _).mono ?_) | (with_reducible refine (c2 _).mono ?_)); rintro e w3 ⟨rfl, rfl⟩)
                go_ret2
                exact ⟨rfl, rfl⟩
            · obtain rfl := hno (fun h => hy h.2.2.2.1)
              have hy2 : 59 < m2 := by omega
              clear hno hyes hbd1 hbd2 hy v1 v2
              rcases hq with rfl | rfl
              all_goals
                go_enter Tryz.func49, Tryz.ntmps49
                go_wp2_with (go_at_call 47; (first | (with_reducible refine (c1 _).mono ?_) | (with_reducible refine (c2 _).mono ?_)); rintro e w3 ⟨rfl, rfl⟩)
                go_ret2
                exact ⟨rfl, rfl⟩
          · obtain rfl := hno (fun h => hx h.2.2.1)
            have hx2 : 23 < m1 := by omega
            clear hno hyes hbd1 hbd2 hx v1 v2
            rcases hq with rfl | rfl
            all_goals
              go_enter Tryz.func49, Tryz.ntmps49
              go_wp2_with (go_at_call 47; (first | (with_reducible refine (c1 _).mono ?_) | (with_reducible refine (c2 _).mono ?_)); rintro e w3 ⟨rfl, rfl⟩)
              go_ret2
              exact ⟨rfl, rfl⟩
    · obtain rfl := hno (fun h => hq h.2.2.2.2)
      have e1 : ((q : Int) == 43) = false := by simp; omega
      have e2 : ((q : Int) == 45) = false := by simp; omega
      have e1' : ((q : Int) != 43) = true := by simp; omega
      have e2' : ((q : Int) != 45) = true := by simp; omega
      clear hno hyes hbd1 hbd2 v1 v2 hq
      go_enter Tryz.func49, Tryz.ntmps49
      go_wp2_with (go_at_call 47; (first | (with_reducible refine (c1 _).mono ?_) | (with_reducible refine (c2 _).mono ?_)); rintro e w3 ⟨rfl, rfl⟩)
      go_ret2
      exact ⟨rfl, rfl⟩
  · have h5 : ((s.size : Int) == 5) = false := by simp; omega
    have h5' : ((s.size : Int) != 5) = true := by simp; omega
    have hno : none = o := by
      rw [← ho]
      unfold Ml.offB
      simp [hsz]
    subst hno
    clear hsz ho
    go_enter Tryz.func49, Tryz.ntmps49
    go_wp2_with fail
    go_ret2
    exact ⟨rfl, rfl⟩
theorem rzone_any (s : ByteArray) (hs : s.size ≤ 100000) (w : World) : Calls Tryz.prog 49 #[.string s] w (ZnPost (Ml.zneF s) w) := by
  unfold Ml.zneF
  cases hh : Ml.hourF s with
  | some h => exact rzone_named hh w
  | none => exact rzone_off s hs hh _ rfl w
set_option maxHeartbeats 1000000 in
theorem rdyn_any (s : ByteArray) (hs : s.size ≤ 100000) (w : World) : Calls Tryz.prog 45 #[.string s] w (SamePost (.tuple #[.int .i64 (numV s), .bool (Ml.digO s (Ml.dyn s))]) w) := by
  unfold Ml.dyn
  by_cases h : s.size = 1
  · have c : ∀ w, Calls Tryz.prog 47 #[.string s, .int .i64 1] w (SamePost (.tuple #[.int .i64 (numV s), .bool (Ml.digO s 1)]) w) := fun w => number_any s 1 (by omega) hs w
    rw [if_pos h]
    have e1 : ((s.size : Int) == 1) = true := by simp [h]
    clear h
    go_enter Tryz.func45, Tryz.ntmps45
    go_wp2_with fail
    refine (c _).mono ?_
    rintro e w3 ⟨rfl, rfl⟩
    go_wp2_with fail
    go_ret2
    exact ⟨rfl, rfl⟩
  · have c : ∀ w, Calls Tryz.prog 47 #[.string s, .int .i64 2] w (SamePost (.tuple #[.int .i64 (numV s), .bool (Ml.digO s 2)]) w) := fun w => number_any s 2 (by omega) hs w
    rw [if_neg h]
    have e1 : ((s.size : Int) == 1) = false := by simp; omega
    clear h
    go_enter Tryz.func45, Tryz.ntmps45
    go_wp2_with fail
    refine (c _).mono ?_
    rintro e w3 ⟨rfl, rfl⟩
    go_wp2_with fail
    go_ret2
    exact ⟨rfl, rfl⟩
end Go.Proofs.YtbhafhbaldddiaaGreatDoor
