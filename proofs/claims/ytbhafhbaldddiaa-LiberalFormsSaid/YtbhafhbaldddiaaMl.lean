/- Plain laws on letters' dates: a text's words; months, weekdays, zones, numbers; a date's second. No program in sight. -/
import Derived.Test.YtbhafhbaldddiaaSmF
import Derived.Test.YtbhafhbaldddiaaCal
import Derived.KernelRfl
namespace Ml
open Sm
/-- A text's pieces between the bytes c. -/
def sp (c : UInt8) : List UInt8 → List (List UInt8)
  | [] => [[]]
  | b :: l => if b = c then [] :: sp c l else match sp c l with
    | [] => [[b]]
    | h :: t => (b :: h) :: t
theorem sp_cons (c b : UInt8) (l : List UInt8) : sp c (b :: l) = if b = c then [] :: sp c l else match sp c l with | [] => [[b]] | h :: t => (b :: h) :: t := rfl
theorem sp_ne (c : UInt8) : ∀ l, sp c l ≠ []
  | [] => by simp [sp]
  | b :: l => by
    unfold sp
    split
    · simp
    · split <;> simp
theorem sp_app (c : UInt8) : ∀ l m : List UInt8, sp c (l ++ c :: m) = sp c l ++ sp c m
  | [], m => by simp [sp]
  | b :: l, m => by
    have ih := sp_app c l m
    show sp c (b :: (l ++ c :: m)) = _
    rw [sp_cons, sp_cons, ih]
    split
    · simp
    · cases h : sp c l with
      | nil => exact absurd h (sp_ne c l)
      | cons x t => simp
theorem sp_none (c : UInt8) : ∀ l : List UInt8, c ∉ l → sp c l = [l]
  | [], _ => rfl
  | b :: l, h => by
    have h1 : b ≠ c := fun e => h (by simp [e])
    have h2 : c ∉ l := fun e => h (List.mem_cons_of_mem _ e)
    unfold sp
    rw [if_neg h1, sp_none c l h2]
theorem sp_first (c : UInt8) (l m : List UInt8) (h : c ∉ l) : sp c (l ++ c :: m) = l :: sp c m := by rw [sp_app, sp_none c l h]; rfl
theorem sp_not (c : UInt8) : ∀ (l : List UInt8), ∀ x ∈ sp c l, c ∉ x
  | [], x, h => by
    simp [sp] at h
    subst h
    simp
  | b :: l, x, h => by
    have ih := sp_not c l
    unfold sp at h
    split at h
    · rcases List.mem_cons.1 h with rfl | h
      · simp
      · exact ih x h
    · rename_i hb
      cases hs : sp c l with
      | nil => exact absurd hs (sp_ne c l)
      | cons y t =>
        rw [hs] at h ih
        rcases List.mem_cons.1 h with rfl | h
        · intro e
          rcases List.mem_cons.1 e with e | e
          · exact hb e.symm
          · exact ih y (by simp) e
        · exact ih x (by simp [h])
/-- How long the pieces are together. -/
def tot : List (List UInt8) → Nat
  | [] => 0
  | x :: l => x.length + 1 + tot l
theorem sp_tot (c : UInt8) : ∀ l : List UInt8, tot (sp c l) = l.length + 1
  | [] => rfl
  | b :: l => by
    have ih := sp_tot c l
    unfold sp
    split
    · simp [tot, ih]
      omega
    · cases hs : sp c l with
      | nil => exact absurd hs (sp_ne c l)
      | cons y t =>
        rw [hs] at ih
        simp [tot] at ih ⊢
        omega
def mk (l : List UInt8) : ByteArray := ⟨l.toArray⟩
theorem mk_list (s : ByteArray) : mk s.data.toList = s := by
  apply ByteArray.ext
  simp [mk]
theorem mk_size (l : List UInt8) : (mk l).size = l.length := rfl
theorem mk_inj {l m : List UInt8} (h : mk l = mk m) : l = m := by
  have := congrArg (fun b : ByteArray => b.data.toList) h
  simpa [mk] using this
theorem list_mk (l : List UInt8) : (mk l).data.toList = l := by simp [mk]
/-- A text's words. -/
def wds (s : ByteArray) : List ByteArray := (sp 32 s.data.toList).map mk
/-! Numbers. -/
def digO (s : ByteArray) (n : Nat) : Bool := decide (s.size = n ∧ ∀ i, i < n → dig s i = true)
def digV (s : ByteArray) (n : Nat) : Int := if digO s n = true then numA s 0 n else 0
theorem digO_iff (s : ByteArray) (n : Nat) : digO s n = true ↔ s.size = n ∧ ∀ i, i < n → dig s i = true := by unfold digO; simp
theorem digV_bd (s : ByteArray) (n : Nat) (hn : n ≤ 4) : 0 ≤ digV s n ∧ digV s n ≤ 9999 := by
  unfold digV
  split
  · rename_i h
    obtain ⟨_, h2⟩ := (digO_iff s n).1 h
    exact numA_small s 0 n hn (fun i hi => by rw [Nat.zero_add]; exact h2 i hi)
  · omega
theorem digV2_bd (s : ByteArray) (n : Nat) (hn : n ≤ 2) : 0 ≤ digV s n ∧ digV s n ≤ 99 := by
  unfold digV
  split
  · rename_i h
    obtain ⟨_, h2⟩ := (digO_iff s n).1 h
    have h3 := numA_bd s 0 n (fun i hi => by rw [Nat.zero_add]; exact h2 i hi)
    have h4 : n = 0 ∨ n = 1 ∨ n = 2 := by omega
    rcases h4 with rfl | rfl | rfl <;> simp at h3 <;> omega
  · omega
/-! Names. -/
def mths : List ByteArray := [⟨#[74, 97, 110]⟩, ⟨#[70, 101, 98]⟩, ⟨#[77, 97, 114]⟩, ⟨#[65, 112, 114]⟩, ⟨#[77, 97, 121]⟩, ⟨#[74, 117, 110]⟩, ⟨#[74, 117, 108]⟩, ⟨#[65, 117, 103]⟩, ⟨#[83, 101, 112]⟩, ⟨#[79, 99, 116]⟩, ⟨#[78, 111, 118]⟩, ⟨#[68, 101, 99]⟩]
def dys : List ByteArray := [⟨#[77, 111, 110]⟩, ⟨#[84, 117, 101]⟩, ⟨#[87, 101, 100]⟩, ⟨#[84, 104, 117]⟩, ⟨#[70, 114, 105]⟩, ⟨#[83, 97, 116]⟩, ⟨#[83, 117, 110]⟩]
def znames : List (ByteArray × Int) := [(⟨#[71, 77, 84]⟩, 0), (⟨#[85, 84]⟩, 0), (⟨#[90]⟩, 0), (⟨#[69, 83, 84]⟩, -5), (⟨#[69, 68, 84]⟩, -4), (⟨#[67, 83, 84]⟩, -6), (⟨#[67, 68, 84]⟩, -5), (⟨#[77, 83, 84]⟩, -7), (⟨#[77, 68, 84]⟩, -6), (⟨#[80, 83, 84]⟩, -8), (⟨#[80, 68, 84]⟩, -7)]
/-- The place of a name in a row, from first on. -/
def nmF (l : List ByteArray) (first : Int) (s : ByteArray) : Option Int := (l.findIdx? fun x => decide (x = s)).map fun (k : Nat) => first + (k : Int)
def monF (s : ByteArray) : Option Int := nmF mths 1 s
def dayF (s : ByteArray) : Option Int := nmF dys 0 s
def hourF (s : ByteArray) : Option Int := (znames.find? fun p => decide (p.1 = s)).map fun p => p.2
def offB (s : ByteArray) : Bool := decide (s.size = 5) && d2 s 1 && d2 s 3 && decide (n2 s 1 ≤ 23 ∧ n2 s 3 ≤ 59) && (B s 0 == 43 || B s 0 == 45)
def offV (s : ByteArray) : Int := if B s 0 = 45 then -(n2 s 1 * 60 + n2 s 3) else n2 s 1 * 60 + n2 s 3
def zneF (s : ByteArray) : Option Int := match hourF s with
  | some h => some (h * 60)
  | none => if offB s = true then some (offV s) else none
def hmsB (s : ByteArray) : Bool := (decide (s.size = 5) && d2 s 0 && (B s 2 == 58) && d2 s 3) || (decide (s.size = 8) && d2 s 0 && (B s 2 == 58) && d2 s 3 && (B s 5 == 58) && d2 s 6)
def secOf (s : ByteArray) : Int := if s.size = 8 then n2 s 6 else 0
def dyn (s : ByteArray) : Nat := if s.size = 1 then 1 else 2
/-- Five words' second; week: the weekday that is asked for. -/
def five (d m y c z : ByteArray) (week : Option Int) : Option Int :=
  match monF m, zneF z with
  | some mm, some e =>
    if digO d (dyn d) = true ∧ digO y 4 = true ∧ hmsB c = true ∧ Cv.secOk (digV y 4) mm (digV d (dyn d)) (n2 c 0) (n2 c 3) (secOf c) e = true ∧ (week = none ∨ week = some (Cv.wday (Cv.num (digV y 4) mm (digV d (dyn d))))) then
      some (Cv.secV (digV y 4) mm (digV d (dyn d)) (n2 c 0) (n2 c 3) (secOf c) e) else none
  | _, _ => none
def commaB (w : ByteArray) : Bool := decide (w.size = 4) && (B w 3 == 44)
def prs : List ByteArray → Option Int
  | [d, m, y, c, z] => five d m y c z none
  | [w, d, m, y, c, z] => if commaB w = true then (match dayF (w.extract 0 3) with | some k => five d m y c z (some k) | none => none) else none
  | _ => none
def parseF (s : ByteArray) : Option Int := prs (wds s)
/-! What is a date is short. -/
theorem nm_mem {l : List ByteArray} {f v : Int} {s : ByteArray} (h : nmF l f s = some v) : s ∈ l ∧ ∃ k : Nat, v = f + k ∧ l[k]? = some s := by
  unfold nmF at h
  rw [Option.map_eq_some_iff] at h
  obtain ⟨k, hk, rfl⟩ := h
  obtain ⟨h1, h2, _⟩ := List.findIdx?_eq_some_iff_getElem.1 hk
  have h3 : l[k] = s := by simpa using h2
  exact ⟨h3 ▸ List.getElem_mem h1, k, rfl, by rw [List.getElem?_eq_getElem h1, h3]⟩
theorem mon_size {s : ByteArray} {v : Int} (h : monF s = some v) : s.size = 3 ∧ 1 ≤ v ∧ v ≤ 12 := by
  obtain ⟨h1, k, rfl, h2⟩ := nm_mem h
  have h3 : k < 12 := (List.getElem?_eq_some_iff.1 h2).1
  have h4 : (mths.all fun x => x.size == 3) = true := by kernel_rfl
  have := List.all_eq_true.1 h4 s h1
  simp at this
  exact ⟨this, by omega, by omega⟩
theorem day_size {s : ByteArray} {v : Int} (h : dayF s = some v) : s.size = 3 ∧ 0 ≤ v ∧ v ≤ 6 := by
  obtain ⟨h1, k, rfl, h2⟩ := nm_mem h
  have h3 : k < 7 := (List.getElem?_eq_some_iff.1 h2).1
  have h4 : (dys.all fun x => x.size == 3) = true := by kernel_rfl
  have := List.all_eq_true.1 h4 s h1
  simp at this
  exact ⟨this, by omega, by omega⟩
theorem hour_mem {s : ByteArray} {h : Int} (hh : hourF s = some h) : (s, h) ∈ znames := by
  unfold hourF at hh
  rw [Option.map_eq_some_iff] at hh
  obtain ⟨p, hp, rfl⟩ := hh
  have h1 := List.mem_of_find?_eq_some hp
  have h2 := List.find?_some hp
  simp at h2
  rw [← h2]
  exact h1
theorem zn_ok : (znames.all fun p => decide (p.1.size ≤ 3 ∧ 1 ≤ p.1.size ∧ -8 ≤ p.2 ∧ p.2 ≤ 0)) = true := by kernel_rfl
theorem off_iff (s : ByteArray) : offB s = true ↔ s.size = 5 ∧ d2 s 1 = true ∧ d2 s 3 = true ∧ n2 s 1 ≤ 23 ∧ n2 s 3 ≤ 59 ∧ (B s 0 = 43 ∨ B s 0 = 45) := by
  unfold offB
  simp [and_assoc]
theorem zne_bd {s : ByteArray} {v : Int} (h : zneF s = some v) : s.size ≤ 5 ∧ -1439 ≤ v ∧ v ≤ 1439 := by
  unfold zneF at h
  split at h
  · rename_i x hx
    have := of_decide_eq_true (List.all_eq_true.1 zn_ok _ (hour_mem hx))
    simp only [Option.some.injEq] at h
    simp only at this
    omega
  · split at h
    · rename_i ho
      obtain ⟨h1, h2, h3, h4, h5, _⟩ := (off_iff s).1 ho
      have b1 := n2_bd h2
      have b2 := n2_bd h3
      simp only [Option.some.injEq] at h
      unfold offV at h
      split at h <;> omega
    · cases h
theorem hms_iff (s : ByteArray) : hmsB s = true ↔ d2 s 0 = true ∧ B s 2 = 58 ∧ d2 s 3 = true ∧ (s.size = 5 ∨ s.size = 8 ∧ B s 5 = 58 ∧ d2 s 6 = true) := by
  unfold hmsB
  simp only [Bool.or_eq_true, Bool.and_eq_true, decide_eq_true_iff, beq_iff_eq]
  constructor
  · rintro (⟨⟨⟨h1, h2⟩, h3⟩, h4⟩ | ⟨⟨⟨⟨⟨h1, h2⟩, h3⟩, h4⟩, h5⟩, h6⟩)
    · exact ⟨h2, h3, h4, Or.inl h1⟩
    · exact ⟨h2, h3, h4, Or.inr ⟨h1, h5, h6⟩⟩
  · rintro ⟨h1, h2, h3, h4 | ⟨h4, h5, h6⟩⟩
    · exact Or.inl ⟨⟨⟨h4, h1⟩, h2⟩, h3⟩
    · exact Or.inr ⟨⟨⟨⟨⟨h4, h1⟩, h2⟩, h3⟩, h5⟩, h6⟩
theorem five_some {d m y c z : ByteArray} {week : Option Int} {v : Int} (h : five d m y c z week = some v) :
    ∃ mm e, monF m = some mm ∧ zneF z = some e ∧ digO d (dyn d) = true ∧ digO y 4 = true ∧ hmsB c = true ∧ Cv.secOk (digV y 4) mm (digV d (dyn d)) (n2 c 0) (n2 c 3) (secOf c) e = true ∧
      (week = none ∨ week = some (Cv.wday (Cv.num (digV y 4) mm (digV d (dyn d))))) ∧ v = Cv.secV (digV y 4) mm (digV d (dyn d)) (n2 c 0) (n2 c 3) (secOf c) e := by
  unfold five at h
  split at h
  · rename_i mm e h1 h2
    split at h
    · rename_i h3
      obtain ⟨h4, h5, h6, h7, h8⟩ := h3
      exact ⟨mm, e, h1, h2, h4, h5, h6, h7, h8, (Option.some.inj h).symm⟩
    · cases h
  · cases h
theorem five_sizes {d m y c z : ByteArray} {week : Option Int} {v : Int} (h : five d m y c z week = some v) : d.size ≤ 2 ∧ m.size = 3 ∧ y.size = 4 ∧ c.size ≤ 8 ∧ z.size ≤ 5 := by
  obtain ⟨mm, e, h1, h2, h3, h4, h5, _⟩ := five_some h
  have e3 := ((digO_iff _ _).1 h3).1
  have e4 := ((digO_iff _ _).1 h4).1
  obtain ⟨_, _, _, e5⟩ := (hms_iff c).1 h5
  have hd : dyn d ≤ 2 := by unfold dyn; split <;> omega
  exact ⟨by omega, (mon_size h1).1, e4, by omega, (zne_bd h2).1⟩
theorem parse_short {s : ByteArray} {v : Int} (h : parseF s = some v) : s.size ≤ 31 := by
  have ht := sp_tot 32 s.data.toList
  have hsz : s.data.toList.length = s.size := by simp
  unfold parseF wds at h
  generalize sp 32 s.data.toList = W at *
  match W, h with
  | [d, m, y, c, z], h =>
    have := five_sizes (show five (mk d) (mk m) (mk y) (mk c) (mk z) none = some v from h)
    simp only [mk_size] at this
    simp [tot] at ht
    omega
  | [w, d, m, y, c, z], h =>
    have h : (if commaB (mk w) = true then (match dayF ((mk w).extract 0 3) with | some k => five (mk d) (mk m) (mk y) (mk c) (mk z) (some k) | none => none) else none) = some v := h
    split at h
    · rename_i hc
      unfold commaB at hc
      simp only [Bool.and_eq_true, decide_eq_true_iff] at hc
      split at h
      · have := five_sizes h
        simp only [mk_size] at this hc
        simp [tot] at ht
        omega
      · cases h
    · cases h
end Ml
