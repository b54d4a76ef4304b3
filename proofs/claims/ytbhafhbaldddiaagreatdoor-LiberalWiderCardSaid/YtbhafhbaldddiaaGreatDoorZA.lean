/- Small laws that every text of this seat uses: endings, worlds that only grow, the last step of a law's row. Plain laws on dates: leap years, months' last days, days of dates. No program in sight. Plain laws on texts: a text's bytes by place, patterns, numbers of digits. No program in sight. Plain laws on stamps: a whole stamp, either grammar. No program in sight. Plain laws on letters' dates: a text's words; months, weekdays, zones, numbers; a date's second. No program in sight. Maps as partial functions from values to values: a map that the call made or was handed, its stores, its look-ups, its ranges. Over any program; conditions: keys of a kind that reads as a key. -/
import Derived.Test.YtbhafhbaldddiaaGreatDoorRows
import Derived.WalkKit
import Derived.WalkSpells
import Derived.WalkLawsBesides
import Derived.ProofKit
import Derived.Below
import Derived.ChangeSame
import Derived.Lib.Hide
import Derived.Lib.QuietBelow
import Derived.Deep.QuietTactic
import Derived.BigQuiet
import Derived.KernelRfl
import Derived.Maps.RangeWalk
import Derived.Maps.OwnOps
import Derived.Lib.OthersKept
namespace Go.Proofs.YtbhafhbaldddiaaGreatDoor
open Go.RowKit Go.WideShapes Go.ChangeShapes Go.ChangeAt
open Go
theorem ret_int {k : IntKind} {a b : Int} (h : a = b) : Ending.returned (.int k a) = .returned (.int k b) := by rw [h]
theorem ret_bool {a b : Bool} (h : a = b) : Ending.returned (.bool a) = .returned (.bool b) := by rw [h]
theorem ret_fst {a b : Int} {v : Value} (h : a = b) : Ending.returned (.tuple #[.int .i64 a, v]) = .returned (.tuple #[.int .i64 b, v]) := by rw [h]
def Is64 (n : Int) : Prop := -9223372036854775808 ≤ n ∧ n ≤ 9223372036854775807
theorem is64_wf {n : Int} (h : (Lit.int .i64 n).wf = true) : Is64 n := by
  simp [Lit.wf, IntKind.min, IntKind.max, IntKind.signed, IntKind.bits] at h
  unfold Is64
  omega
theorem bcell {W w1 : World} (hb : Below W.heap.size W w1) : (∀ b o, b < W.heap.size → w1.cell? ⟨b, o, none⟩ = W.cell? ⟨b, o, none⟩) ∧ (∀ b o, b < W.heap.size → w1.frozen? ⟨b, o, none⟩ = W.frozen? ⟨b, o, none⟩) :=
  ⟨fun b o h => hb.cell (p := ⟨b, o, none⟩) h, fun b o h => hb.frozen (p := ⟨b, o, none⟩) h⟩
/-- Two calls, one behind the other, each of which leaves what was there. -/
theorem bn {w a b : World} (h : Below w.heap.size w a) (k : Below a.heap.size a b) : Below w.heap.size w b := h.trans (k.mono h.size)
theorem bbox {w a : World} (h : Below w.heap.size w a) (o : Obj) : Below w.heap.size w (a.alloc o) := h.alloc h.size o
section
variable {H : Type} {enc : TypeId × Value → H} {P : Program}
theorem post_of_below {f : Func} {s : ChangeSpec} {apart fresh handsOn again : Bool} {W W' : World} {args : Array Value} {v : Value} {ds gs : List (DataW H)} {before pa pv : List MemPlace}
    (hW : DataW.Whole enc P f.params.toList s.vars apart W args.toList ds gs before)
    (hres : ∀ (b : Nat) (sp : Nat → Bool) (hd : Bool), DataW.TrodAll enc P W' b sp hd f.resultTypes.toList (v.resultList f.resultTypes.size) (s.fn H (ds ++ gs)).results [])
    (hargs : ∀ sp : Nat → Bool, (∀ p ∈ before, sp p.block = true) → DataW.TrodAll enc P W' 0 sp true f.params.toList args.toList (s.fn H (ds ++ gs)).args pa)
    (hvars : ∀ sp : Nat → Bool, (∀ p ∈ before, sp p.block = true) → DataW.TrodVars enc P W' sp s.vars (s.fn H (ds ++ gs)).vars pv)
    (hps : before = pa ++ pv) (hb : Below W.heap.size W W')
    (hok : ∀ (j : Nat) (t : TypeId) (r : Value), f.resultTypes[j]? = some t → (v.resultList f.resultTypes.size)[j]? = some r → Value.okWide P W' .any 0 t r) :
    s.post enc P f apart fresh handsOn again W args v W' := by
  have hlt : ∀ p ∈ before, p.block < W.heap.size := fun p hp => hW.lt p hp
  have hold : ∀ p ∈ before, (fun b => decide (b < W.heap.size)) p.block = true := fun p hp => by simpa using hlt p hp
  refine ⟨ds, gs, before, [], pa, pv, hW, hres _ _ _, hargs _ hold, hvars _ hold, World.keptBut_mono (fun p hp => ⟨hp, ?_⟩) (hb.frame (· ∈ before)), fun _ => ?_⟩
  · rw [hps, List.mem_append] at hp
    exact Or.inr hp
  · obtain ⟨_, _, _, _, _, hz, hn⟩ := hW
    refine ⟨hok, _, _, ([] ++ pa) ++ pv, ⟨[] ++ pa, pv, trodAll_append (hargs _ (fun _ _ => rfl)) (hres _ _ _), hvars _ (fun _ _ => rfl), rfl, ?_, ?_⟩, ?_⟩
    · intro b off hp
      have hin : MemPlace.cell b off ∈ before := by rw [hps]; simpa using hp
      rw [hb.frozen (hlt _ hin)]
      exact hz b off hin
    · intro ha
      have := hn ha
      rw [hps] at this
      simpa using this
    · intro p hp _
      rw [hps]
      simpa using hp
theorem trodAll_stays (hl : laidOutB P = true) {W W' : World} (hb : Below W.heap.size W W') {sp : Nat → Bool} : ∀ {ts : List TypeId} {vs : List Value} {ds : List (DataW H)} {ps : List MemPlace},
    (ts.all fun t => P.readableRec t && decide (t < P.types.size)) = true → DataW.TrodAll enc P W 0 (fun _ => true) true ts vs ds ps → (∀ x ∈ ps, x.block < W.heap.size) → (∀ x ∈ ps, sp x.block = true) →
    DataW.TrodAll enc P W' 0 sp true ts vs ds ps
  | [], [], [], _, _, h, _, _ => h
  | t :: ts, _ :: _, _ :: _, _, hT, ⟨p, q, h1, h2, e⟩, hlt, hs => by
    simp only [List.all_cons, Bool.and_eq_true, decide_eq_true_eq] at hT
    subst e
    exact ⟨p, q, WideElems.Trod_stays hl hT.1.1 hT.1.2 h1 (fun x hx => hb.same (hlt x (List.mem_append_left _ hx))) (fun x hx => hs x (List.mem_append_left _ hx)),
      trodAll_stays hl hb hT.2 h2 (fun x hx => hlt x (List.mem_append_right _ hx)) (fun x hx => hs x (List.mem_append_right _ hx)), rfl⟩
/-- The last step of a law: it answered true, and nothing that was there has turned. -/
theorem law_post {f : Func} {s : ChangeSpec} {apart fresh handsOn again : Bool} {W W' : World} {args : Array Value} {bt : TypeId} {ds : List (DataW H)} {before : List MemPlace}
    (hl : laidOutB P = true) (hT : (f.params.toList.all fun t => P.readableRec t && decide (t < P.types.size)) = true)
    (hA : DataW.TrodAll enc P W 0 (fun _ => true) true f.params.toList args.toList ds before)
    (hW : DataW.Whole enc P f.params.toList s.vars apart W args.toList ds [] before) (hv : s.vars = [])
    (hr : (s.fn H (ds ++ [])).results = [.lit (.bool true)]) (ha : (s.fn H (ds ++ [])).args = ds) (hg : (s.fn H (ds ++ [])).vars = [])
    (ht : f.resultTypes = #[bt]) (hbt : P.underlying bt = some .bool) (hb : Below W.heap.size W W') :
    s.post enc P f apart fresh handsOn again W args (.bool true) W' := by
  refine post_of_below (pa := before) (pv := []) hW (fun _ _ _ => ?_) (fun sp hsp => ?_) (fun _ _ => ?_) (by simp) hb (ok_one ht rfl (okWide_bool_mk hbt _))
  · rw [hr, ht]; exact trodAll_mk1 (shut_bool hbt _)
  · rw [ha]; exact trodAll_stays hl hb hT hA (fun x hx => hW.lt x hx) hsp
  · rw [hv, hg]; rfl
end
/-- A callee that leaves what was there, met in a region that draws its order. -/
theorem rg {f : FuncId} {args : Array Value} {v : Value} {W : World} (h : ∀ w, Calls Tryz.prog f args w fun e w' => e = .returned v ∧ Below w.heap.size w w') :
    ∀ d os, Calls Tryz.prog f args (Sort.grow (redrawn W d) os) fun e w' => e = .returned v ∧ ∃ p : Regrown, w' = Sort.grow (redrawn W p.d) p.os := fun _ _ => Calls.regrown_of (h _)
theorem rgs {f : FuncId} {args : Array Value} {v : Value} {W : World} (h : ∀ w, Calls Tryz.prog f args w fun e w' => e = .returned v ∧ w = w') :
    ∀ d os, Calls Tryz.prog f args (Sort.grow (redrawn W d) os) fun e w' => e = .returned v ∧ ∃ p : Regrown, w' = Sort.grow (redrawn W p.d) p.os := fun _ _ => Calls.regrown_of ((h _).mono fun _ _ ⟨a, b⟩ => ⟨a, b ▸ Below.refl _ _⟩)
theorem laidOut : laidOutB Tryz.prog = true := by kernel_rfl
theorem own : ownKnob Tryz.prog.godebug = none := by kernel_rfl
end Go.Proofs.YtbhafhbaldddiaaGreatDoor
namespace Cv
def leapB (y : Int) : Bool := decide (1 ≤ y ∧ y ≤ 9999 ∧ y % 4 = 0 ∧ (y % 100 ≠ 0 ∨ y % 400 = 0))
def lp (y : Int) : Int := if leapB y = true then 1 else 0
def lastI (y m : Int) : Int :=
  if y < 1 ∨ 9999 < y ∨ m < 1 ∨ 12 < m then 0
  else if m = 2 then 28 + lp y else if m = 4 ∨ m = 6 ∨ m = 9 ∨ m = 11 then 30 else 31
def vldB (y m d : Int) : Bool := decide (1 ≤ d ∧ d ≤ lastI y m)
def ahead (y : Int) : Int := 365 * (y - 1) + (y - 1) / 4 - (y - 1) / 100 + (y - 1) / 400
def cum (y m : Int) : Int :=
  if m ≤ 1 then 0 else if m = 2 then 31 else
  (if m = 3 then 59 else if m = 4 then 90 else if m = 5 then 120 else if m = 6 then 151 else if m = 7 then 181
   else if m = 8 then 212 else if m = 9 then 243 else if m = 10 then 273 else if m = 11 then 304 else if m = 12 then 334 else 365) + lp y
def num (y m d : Int) : Int := -719162 + ahead y + cum y m + d - 1
def wday (n : Int) : Int := (n + 3) % 7

theorem lp_01 (y : Int) : 0 ≤ lp y ∧ lp y ≤ 1 := by unfold lp; split <;> omega
theorem leapB_iff (y : Int) : leapB y = true ↔ (1 ≤ y ∧ y ≤ 9999 ∧ y % 4 = 0 ∧ (y % 100 ≠ 0 ∨ y % 400 = 0)) := by
  unfold leapB; simp
theorem lp_or (y : Int) : (lp y = 1 ∧ (1 ≤ y ∧ y ≤ 9999 ∧ y % 4 = 0 ∧ (y % 100 ≠ 0 ∨ y % 400 = 0))) ∨ (lp y = 0 ∧ ¬ (1 ≤ y ∧ y ≤ 9999 ∧ y % 4 = 0 ∧ (y % 100 ≠ 0 ∨ y % 400 = 0))) := by
  unfold lp
  by_cases h : leapB y = true
  · left; rw [if_pos h]; exact ⟨rfl, (leapB_iff y).1 h⟩
  · right; rw [if_neg h]; exact ⟨rfl, fun c => h ((leapB_iff y).2 c)⟩
theorem lastI_or (y m : Int) : (lastI y m = 0 ∧ (y < 1 ∨ 9999 < y ∨ m < 1 ∨ 12 < m)) ∨
    (1 ≤ y ∧ y ≤ 9999 ∧ ((m = 2 ∧ leapB y = true ∧ lastI y m = 29) ∨ (m = 2 ∧ leapB y = false ∧ lastI y m = 28) ∨
      ((m = 4 ∨ m = 6 ∨ m = 9 ∨ m = 11) ∧ lastI y m = 30) ∨ ((m = 1 ∨ m = 3 ∨ m = 5 ∨ m = 7 ∨ m = 8 ∨ m = 10 ∨ m = 12) ∧ lastI y m = 31))) := by
  unfold lastI lp
  by_cases h : y < 1 ∨ 9999 < y ∨ m < 1 ∨ 12 < m
  · rw [if_pos h]; exact Or.inl ⟨rfl, h⟩
  · rw [if_neg h]; right; refine ⟨by omega, by omega, ?_⟩
    by_cases h2 : m = 2
    · rw [if_pos h2]
      cases e : leapB y
      · right; left; exact ⟨h2, rfl, rfl⟩
      · left; exact ⟨h2, rfl, rfl⟩
    · rw [if_neg h2]; right; right
      by_cases h3 : m = 4 ∨ m = 6 ∨ m = 9 ∨ m = 11
      · rw [if_pos h3]; exact Or.inl ⟨h3, rfl⟩
      · rw [if_neg h3]; right; exact ⟨by omega, rfl⟩
theorem lastI_bd (y m : Int) : 0 ≤ lastI y m ∧ lastI y m ≤ 31 := by
  have := lp_01 y
  unfold lastI; repeat' split
  all_goals omega
theorem lastI_pos (y m : Int) (h : 1 ≤ lastI y m) : 1 ≤ y ∧ y ≤ 9999 ∧ 1 ≤ m ∧ m ≤ 12 := by
  unfold lastI at h; split at h <;> omega
theorem lastI_lo (y m : Int) (a : 1 ≤ y) (b : y ≤ 9999) (c : 1 ≤ m) (d : m ≤ 12) : 28 ≤ lastI y m := by
  have := lp_01 y
  unfold lastI; rw [if_neg (by omega)]; repeat' split
  all_goals omega
theorem vld_iff (y m d : Int) : vldB y m d = true ↔ (1 ≤ d ∧ d ≤ lastI y m) := by unfold vldB; simp
theorem vld_mk {y m d : Int} (h : 1 ≤ d ∧ d ≤ lastI y m) : vldB y m d = true := (vld_iff y m d).2 h
theorem vld_no {y m d : Int} (h : ¬ (1 ≤ d ∧ d ≤ lastI y m)) : vldB y m d = false := by
  unfold vldB; simpa using h
theorem vld_bd {y m d : Int} (h : vldB y m d = true) : 1 ≤ y ∧ y ≤ 9999 ∧ 1 ≤ m ∧ m ≤ 12 ∧ 1 ≤ d ∧ d ≤ 31 := by
  have h1 := (vld_iff y m d).1 h
  have h2 := lastI_pos y m (by omega)
  have h3 := lastI_bd y m
  omega
theorem cum_succ (y m : Int) (a : 1 ≤ y) (b : y ≤ 9999) (c : 1 ≤ m) (d : m ≤ 12) : cum y (m + 1) = cum y m + lastI y m := by
  have h : m = 1 ∨ m = 2 ∨ m = 3 ∨ m = 4 ∨ m = 5 ∨ m = 6 ∨ m = 7 ∨ m = 8 ∨ m = 9 ∨ m = 10 ∨ m = 11 ∨ m = 12 := by omega
  unfold lastI; rw [if_neg (by omega)]
  rcases h with rfl | rfl | rfl | rfl | rfl | rfl | rfl | rfl | rfl | rfl | rfl | rfl <;> simp [cum] <;> omega
theorem cum_bd (y m : Int) : 0 ≤ cum y m ∧ cum y m ≤ 366 := by
  have := lp_01 y
  unfold cum; repeat' split
  all_goals omega
theorem cum_13 (y : Int) : cum y 13 = 365 + lp y := by simp [cum]
theorem cum_1 (y : Int) : cum y 1 = 0 := by simp [cum]
theorem ahead_succ (y : Int) (a : 1 ≤ y) (b : y ≤ 9999) : ahead (y + 1) = ahead y + 365 + lp y := by
  have := lp_or y
  unfold ahead; omega
theorem ahead_mono (a b : Int) (h : a ≤ b) : ahead a ≤ ahead b := by unfold ahead; omega
theorem ahead_lt (a b : Int) (h : a < b) : ahead a + 365 ≤ ahead b := by unfold ahead; omega
theorem ahead_bd (a : Int) (h0 : 1 ≤ a) (h : a ≤ 10000) : 0 ≤ ahead a ∧ ahead a ≤ 3652059 := by unfold ahead; omega
theorem ahead_guess (n : Int) (h0 : 0 ≤ n) (h : n < 3652059) : 1 ≤ n / 366 + 1 ∧ n / 366 + 1 ≤ 9999 ∧ ahead (n / 366 + 1) ≤ n := by unfold ahead; omega
theorem ahead_max : ahead 10000 = 3652059 := rfl
theorem ahead_one : ahead 1 = 0 := rfl
/-- A date lies in its year. -/
theorem in_year {y m d : Int} (h : vldB y m d = true) : 0 ≤ cum y m + d - 1 ∧ cum y m + d - 1 < 365 + lp y := by
  have hb := vld_bd h
  have h1 := (vld_iff y m d).1 h
  have hc := cum_bd y m
  have hs := cum_succ y m (by omega) (by omega) (by omega) (by omega)
  have hlp := lp_01 y
  refine ⟨by omega, ?_⟩
  have hm : cum y (m + 1) ≤ 365 + lp y := by
    have h : m = 1 ∨ m = 2 ∨ m = 3 ∨ m = 4 ∨ m = 5 ∨ m = 6 ∨ m = 7 ∨ m = 8 ∨ m = 9 ∨ m = 10 ∨ m = 11 ∨ m = 12 := by omega
    rcases h with rfl | rfl | rfl | rfl | rfl | rfl | rfl | rfl | rfl | rfl | rfl | rfl <;> simp [cum] <;> omega
  omega
theorem cum_mono (y m k : Int) (a : 1 ≤ y) (b : y ≤ 9999) (c : 1 ≤ m) (d : m < k) (e : k ≤ 12) : cum y m + lastI y m ≤ cum y k := by
  rw [← cum_succ y m a b c (by omega)]
  have := lp_01 y
  have h : m + 1 = k ∨ m + 1 < k := by omega
  unfold cum; repeat' split
  all_goals omega
theorem num_bd {y m d : Int} (h : vldB y m d = true) : -719162 ≤ num y m d ∧ num y m d ≤ 2932896 := by
  have hb := vld_bd h
  have hy := in_year h
  have h1 := ahead_mono 1 y (by omega)
  have h2 := ahead_mono (y + 1) 10000 (by omega)
  rw [ahead_succ y (by omega) (by omega), ahead_max] at h2
  rw [ahead_one] at h1
  unfold num; omega
/-- Dates of one number are one date. -/
theorem num_inj {y m d y' m' d' : Int} (h : vldB y m d = true) (h' : vldB y' m' d' = true) (e : num y m d = num y' m' d') : y = y' ∧ m = m' ∧ d = d' := by
  have hb := vld_bd h
  have hb' := vld_bd h'
  have hy := in_year h
  have hy' := in_year h'
  have hv := (vld_iff y m d).1 h
  have hv' := (vld_iff y' m' d').1 h'
  unfold num at e
  have ey : y = y' := by
    rcases Int.lt_trichotomy y y' with g | g | g
    · have := ahead_mono (y + 1) y' (by omega)
      rw [ahead_succ y (by omega) (by omega)] at this
      omega
    · exact g
    · have := ahead_mono (y' + 1) y (by omega)
      rw [ahead_succ y' (by omega) (by omega)] at this
      omega
  subst ey
  have em : m = m' := by
    rcases Int.lt_trichotomy m m' with g | g | g
    · have := cum_mono y m m' (by omega) (by omega) (by omega) g (by omega); omega
    · exact g
    · have := cum_mono y m' m (by omega) (by omega) (by omega) g (by omega); omega
  subst em
  exact ⟨rfl, rfl, by omega⟩
/-- The count by years of 400 from March on. -/
theorem era_eq (y : Int) (_a : 0 ≤ y) : y / 400 * 146097 + (y - y / 400 * 400) * 365 + (y - y / 400 * 400) / 4 - (y - y / 400 * 400) / 100 = 365 * y + y / 4 - y / 100 + y / 400 := by omega
theorem march_lo (y m d : Int) (_a : 1 ≤ y) (c : 1 ≤ m) (e : m ≤ 2) :
    (y - 1) / 400 * 146097 + (y - 1 - (y - 1) / 400 * 400) * 365 + (y - 1 - (y - 1) / 400 * 400) / 4 - (y - 1 - (y - 1) / 400 * 400) / 100 + ((153 * (m + 12 - 3) + 2) / 5 + d - 1) - 719468 = num y m d := by
  rw [era_eq (y - 1) (by omega)]
  have h : m = 1 ∨ m = 2 := by omega
  unfold num ahead
  generalize (y - 1) / 4 = p; generalize (y - 1) / 100 = q; generalize (y - 1) / 400 = r
  rcases h with rfl | rfl <;> simp [cum] <;> omega
theorem march_hi (y m d : Int) (a : 1 ≤ y) (b : y ≤ 9999) (c : 2 < m) (e : m ≤ 12) :
    y / 400 * 146097 + (y - y / 400 * 400) * 365 + (y - y / 400 * 400) / 4 - (y - y / 400 * 400) / 100 + ((153 * (m - 3) + 2) / 5 + d - 1) - 719468 = num y m d := by
  rw [era_eq y (by omega)]
  have hs := ahead_succ y a b
  have h : m = 3 ∨ m = 4 ∨ m = 5 ∨ m = 6 ∨ m = 7 ∨ m = 8 ∨ m = 9 ∨ m = 10 ∨ m = 11 ∨ m = 12 := by omega
  unfold num
  have h1 : ahead (y + 1) = 365 * y + y / 4 - y / 100 + y / 400 := by unfold ahead; rw [show y + 1 - 1 = y from by omega]
  rw [h1] at hs
  generalize y / 4 = p at *; generalize y / 100 = q at *; generalize y / 400 = r at *; generalize ahead y = z at *; 
  rcases h with rfl | rfl | rfl | rfl | rfl | rfl | rfl | rfl | rfl | rfl <;> simp [cum] <;> omega
theorem year_up (n : Int) (h0 : 0 ≤ n) : ∀ k : Nat, k ≤ 9999 → n < ahead (k + 1) → ∃ y : Int, 1 ≤ y ∧ y ≤ 9999 ∧ ahead y ≤ n ∧ n < ahead (y + 1) := by
  intro k
  induction k with
  | zero => intro _ h; have : ahead ((0 : Nat) + 1) = 0 := rfl; omega
  | succ k ih =>
    intro hk h
    by_cases c : n < ahead (k + 1)
    · exact ih (by omega) c
    · exact ⟨((k + 1 : Nat) : Int), by omega, by omega, by push_cast; omega, h⟩
theorem month_up (y n : Int) (h0 : 0 ≤ n) : ∀ k : Nat, k ≤ 12 → n < cum y (k + 1) → ∃ m : Int, 1 ≤ m ∧ m ≤ 12 ∧ cum y m ≤ n ∧ n < cum y (m + 1) := by
  intro k
  induction k with
  | zero => intro _ h; have : cum y ((0 : Nat) + 1) = 0 := cum_1 y; omega
  | succ k ih =>
    intro hk h
    by_cases c : n < cum y (k + 1)
    · exact ih (by omega) c
    · exact ⟨((k + 1 : Nat) : Int), by omega, by omega, by push_cast; omega, h⟩
/-- Each number in the range is a date's. -/
theorem date_ex (n : Int) (h1 : -719162 ≤ n) (h2 : n ≤ 2932896) : ∃ y m d : Int, vldB y m d = true ∧ num y m d = n := by
  obtain ⟨y, a, b, c, d⟩ := year_up (n + 719162) (by omega) 9999 (by omega) (by have : ahead ((9999 : Nat) + 1) = 3652059 := rfl; omega)
  have hs := ahead_succ y a b
  obtain ⟨m, e, f, g, h⟩ := month_up y (n + 719162 - ahead y) (by omega) 12 (by omega) (by have : cum y ((12 : Nat) + 1) = 365 + lp y := cum_13 y; omega)
  have cs := cum_succ y m a b e f
  exact ⟨y, m, n + 719162 - ahead y - cum y m + 1, vld_mk (by omega), by unfold num; omega⟩
def mayB (y m d h mi s : Int) : Bool := vldB y m d && decide (0 ≤ h ∧ h ≤ 23 ∧ 0 ≤ mi ∧ mi ≤ 59 ∧ 0 ≤ s ∧ s ≤ 59)
theorem may_iff (y m d h mi s : Int) : mayB y m d h mi s = true ↔ (vldB y m d = true ∧ 0 ≤ h ∧ h ≤ 23 ∧ 0 ≤ mi ∧ mi ≤ 59 ∧ 0 ≤ s ∧ s ≤ 59) := by
  unfold mayB; simp
end Cv
namespace Cv
theorem may_yes {y m d h mi s : Int} (c : 0 ≤ h ∧ h ≤ 23 ∧ 0 ≤ mi ∧ mi ≤ 59 ∧ 0 ≤ s ∧ s ≤ 59) : vldB y m d = mayB y m d h mi s := by unfold mayB; simp [c]
theorem may_true {y m d h mi s : Int} (v : vldB y m d = true) (c : 0 ≤ h ∧ h ≤ 23 ∧ 0 ≤ mi ∧ mi ≤ 59 ∧ 0 ≤ s ∧ s ≤ 59) : true = mayB y m d h mi s := by unfold mayB; simp [c, v]
theorem may_no {y m d h mi s : Int} (c : ¬ (0 ≤ h ∧ h ≤ 23 ∧ 0 ≤ mi ∧ mi ≤ 59 ∧ 0 ≤ s ∧ s ≤ 59)) : false = mayB y m d h mi s := by unfold mayB; rw [decide_eq_false c]; simp
theorem may_inv {y m d h mi s : Int} (v : ¬ vldB y m d = true) : false = mayB y m d h mi s := by unfold mayB; simp [v]
def secV (y m d h mi s east : Int) : Int := num y m d * 86400 + h * 3600 + mi * 60 + s - east * 60
def secOk (y m d h mi s east : Int) : Bool := mayB y m d h mi s && decide (-1439 ≤ east ∧ east ≤ 1439 ∧ -62135596800 ≤ secV y m d h mi s east ∧ secV y m d h mi s east ≤ 253402300799)
theorem secOk_iff (y m d h mi s east : Int) : secOk y m d h mi s east = true ↔ (mayB y m d h mi s = true ∧ -1439 ≤ east ∧ east ≤ 1439 ∧ -62135596800 ≤ secV y m d h mi s east ∧ secV y m d h mi s east ≤ 253402300799) := by
  unfold secOk; simp
/-- A second's day and clock. -/
theorem sec_split (n : Int) (h1 : -62135596800 ≤ n) (h2 : n ≤ 253402300799) : ∃ y m d : Int, vldB y m d = true ∧ num y m d = (n + 62135596800) / 86400 - 719162 ∧
    mayB y m d ((n + 62135596800) / 3600 % 24) ((n + 62135596800) / 60 % 60) ((n + 62135596800) % 60) = true ∧
    secV y m d ((n + 62135596800) / 3600 % 24) ((n + 62135596800) / 60 % 60) ((n + 62135596800) % 60) 0 = n := by
  obtain ⟨y, m, d, hv, hn⟩ := date_ex ((n + 62135596800) / 86400 - 719162) (by omega) (by omega)
  refine ⟨y, m, d, hv, hn, (may_true hv (by omega)).symm, ?_⟩
  unfold secV; rw [hn]; omega
end Cv
namespace Sm
/-- The byte at a place, 0 behind the end. -/
def B (s : ByteArray) (i : Nat) : Nat := (s.data[i]?.getD 0).toNat
theorem B_at (s : ByteArray) (i : Nat) (h : i < s.size) : (s[i]'h).toNat = B s i := by
  unfold B
  have : i < s.data.size := h
  rw [Array.getElem?_eq_getElem this]
  rfl
theorem B_end (s : ByteArray) (i : Nat) (h : s.size ≤ i) : B s i = 0 := by
  unfold B
  have : s.data.size ≤ i := h
  rw [Array.getElem?_eq_none this]
  rfl
theorem B_lt (s : ByteArray) (i : Nat) : B s i < 256 := by unfold B; exact UInt8.toNat_lt _
theorem B_in {s : ByteArray} {i : Nat} (h : B s i ≠ 0) : i < s.size := by
  by_cases k : i < s.size
  · exact k
  · exact absurd (B_end s i (by omega)) h
theorem ext {s t : ByteArray} (h : s.size = t.size) (k : ∀ i, i < s.size → B s i = B t i) : s = t := by
  apply ByteArray.ext
  apply Array.ext
  · exact h
  · intro i h1 h2
    have := k i h1
    rw [← B_at s i h1, ← B_at t i h2] at this
    exact UInt8.toNat_inj.1 this
theorem B_extract (s : ByteArray) (a b i : Nat) : B (s.extract a b) i = if a + i < b then B s (a + i) else 0 := by
  by_cases h : a + i < b
  · rw [if_pos h]
    by_cases k : a + i < s.size
    · have hi : i < (s.extract a b).size := by simp; omega
      rw [← B_at _ i hi, ← B_at s (a + i) k]
      rw [ByteArray.getElem_extract]
    · rw [B_end s (a + i) (by omega), B_end _ i (by simp; omega)]
  · rw [if_neg h, B_end _ i (by simp; omega)]
theorem size_extract (s : ByteArray) (a b : Nat) : (s.extract a b).size = min b s.size - a := by simp
/-- A byte as a pattern's byte tells: 48 stands for any digit, all else for itself. -/
def okc (c a : Nat) : Bool := if a = 48 then decide (48 ≤ c ∧ c ≤ 57) else decide (c = a)
def formB (s a : ByteArray) : Bool := decide (s.size = a.size ∧ ∀ i, i < s.size → okc (B s i) (B a i) = true)
def dig (s : ByteArray) (i : Nat) : Bool := decide (48 ≤ B s i ∧ B s i ≤ 57)
def v (s : ByteArray) (i : Nat) : Int := (B s i : Int) - 48
/-- A number of digits, as 'number' reckons it. -/
def numN (s : ByteArray) : Nat → Int
  | 0 => 0
  | n + 1 => numN s n * 10 + ((B s n % 16 : Nat) : Int)
theorem numN_bd (s : ByteArray) : ∀ n : Nat, 0 ≤ numN s n ∧ numN s n + 2 ≤ 2 * (10 : Int) ^ n
  | 0 => by simp [numN]
  | n + 1 => by
    have := numN_bd s n
    unfold numN
    rw [Int.pow_succ]
    omega
theorem dig_iff (s : ByteArray) (i : Nat) : dig s i = true ↔ 48 ≤ B s i ∧ B s i ≤ 57 := by unfold dig; simp
theorem dig_in {s : ByteArray} {i : Nat} (h : dig s i = true) : i < s.size := by
  have := (dig_iff s i).1 h
  exact B_in (by omega)
theorem v_bd {s : ByteArray} {i : Nat} (h : dig s i = true) : 0 ≤ v s i ∧ v s i ≤ 9 := by
  have := (dig_iff s i).1 h
  unfold v; omega
def n2 (s : ByteArray) (i : Nat) : Int := v s i * 10 + v s (i + 1)
def n4 (s : ByteArray) (i : Nat) : Int := ((v s i * 10 + v s (i + 1)) * 10 + v s (i + 2)) * 10 + v s (i + 3)
def d2 (s : ByteArray) (i : Nat) : Bool := dig s i && dig s (i + 1)
def d4 (s : ByteArray) (i : Nat) : Bool := dig s i && dig s (i + 1) && dig s (i + 2) && dig s (i + 3)
theorem d2_iff (s : ByteArray) (i : Nat) : d2 s i = true ↔ dig s i = true ∧ dig s (i + 1) = true := by unfold d2; simp
theorem d4_iff (s : ByteArray) (i : Nat) : d4 s i = true ↔ dig s i = true ∧ dig s (i + 1) = true ∧ dig s (i + 2) = true ∧ dig s (i + 3) = true := by unfold d4; simp [and_assoc]
theorem n2_bd {s : ByteArray} {i : Nat} (h : d2 s i = true) : 0 ≤ n2 s i ∧ n2 s i ≤ 99 := by
  obtain ⟨a, b⟩ := (d2_iff s i).1 h
  have := v_bd a; have := v_bd b
  unfold n2; omega
theorem n4_bd {s : ByteArray} {i : Nat} (h : d4 s i = true) : 0 ≤ n4 s i ∧ n4 s i ≤ 9999 := by
  obtain ⟨a, b, c, d⟩ := (d4_iff s i).1 h
  have := v_bd a; have := v_bd b; have := v_bd c; have := v_bd d
  unfold n4; omega
theorem low {s : ByteArray} {i : Nat} (h : dig s i = true) : ((B s i % 16 : Nat) : Int) = v s i := by
  have := (dig_iff s i).1 h
  unfold v; omega
/-- What 'number' reckons of two, of four digits of a text. -/
theorem num_d2 {s : ByteArray} {a : Nat} (h : d2 s a = true) : (s.extract a (a + 2)).size = 2 ∧ numN (s.extract a (a + 2)) 2 = n2 s a := by
  obtain ⟨h0, h1⟩ := (d2_iff s a).1 h
  have := dig_in h1
  refine ⟨by simp; omega, ?_⟩
  simp only [numN]
  rw [B_extract, B_extract, if_pos (by omega), if_pos (by omega), Nat.add_zero, low h0, low h1]
  unfold n2; omega
theorem num_d4 {s : ByteArray} {a : Nat} (h : d4 s a = true) : (s.extract a (a + 4)).size = 4 ∧ numN (s.extract a (a + 4)) 4 = n4 s a := by
  obtain ⟨h0, h1, h2, h3⟩ := (d4_iff s a).1 h
  have := dig_in h3
  refine ⟨by simp; omega, ?_⟩
  simp only [numN]
  rw [B_extract, B_extract, B_extract, B_extract, if_pos (by omega), if_pos (by omega), if_pos (by omega), if_pos (by omega), Nat.add_zero, low h0, low h1, low h2, low h3]
  unfold n4; omega
theorem okc_dig (s : ByteArray) (i : Nat) : okc (B s i) 48 = dig s i := by unfold okc dig; rw [if_pos rfl]
theorem okc_is (c a : Nat) (h : a ≠ 48) : okc c a = decide (c = a) := by unfold okc; rw [if_neg h]
/-- A piece of a text, of the pattern's length, fits a pattern. -/
theorem form_piece (s p : ByteArray) (a b n : Nat) (hn : p.size = n) (hb : b = a + n) (h : b ≤ s.size) : formB (s.extract a b) p = true ↔ ∀ i, i < n → okc (B s (a + i)) (B p i) = true := by
  subst hn
  have hs : (s.extract a b).size = p.size := by simp; omega
  unfold formB
  rw [hs, decide_eq_true_iff]
  constructor
  · rintro ⟨_, k⟩ i hi
    have := k i hi
    rwa [B_extract, if_pos (by omega)] at this
  · intro k
    refine ⟨rfl, fun i hi => ?_⟩
    rw [B_extract, if_pos (by omega)]
    exact k i hi
theorem form_whole (s p : ByteArray) (n : Nat) (hn : p.size = n) (h : s.size = n) : formB s p = true ↔ ∀ i, i < n → okc (B s i) (B p i) = true := by
  subst hn
  unfold formB
  rw [h, decide_eq_true_iff]; simp
theorem form_len (s p : ByteArray) (h : s.size ≠ p.size) : formB s p = false := by unfold formB; simp [h]
theorem all5 (P : Nat → Prop) : (∀ i, i < 5 → P i) ↔ P 0 ∧ P 1 ∧ P 2 ∧ P 3 ∧ P 4 := by
  constructor
  · intro h; exact ⟨h 0 (by omega), h 1 (by omega), h 2 (by omega), h 3 (by omega), h 4 (by omega)⟩
  · rintro ⟨h0, h1, h2, h3, h4⟩ i hi
    match i, hi with
    | 0, _ => exact h0
    | 1, _ => exact h1
    | 2, _ => exact h2
    | 3, _ => exact h3
    | 4, _ => exact h4
theorem all3 (P : Nat → Prop) : (∀ i, i < 3 → P i) ↔ P 0 ∧ P 1 ∧ P 2 := by
  constructor
  · intro h; exact ⟨h 0 (by omega), h 1 (by omega), h 2 (by omega)⟩
  · rintro ⟨h0, h1, h2⟩ i hi
    match i, hi with
    | 0, _ => exact h0
    | 1, _ => exact h1
    | 2, _ => exact h2
theorem all1 (P : Nat → Prop) : (∀ i, i < 1 → P i) ↔ P 0 := by
  constructor
  · intro h; exact h 0 (by omega)
  · intro h i hi
    match i, hi with
    | 0, _ => exact h
theorem all10 (P : Nat → Prop) : (∀ i, i < 10 → P i) ↔ (P 0 ∧ P 1 ∧ P 2 ∧ P 3 ∧ P 4) ∧ P 5 ∧ P 6 ∧ P 7 ∧ P 8 ∧ P 9 := by
  constructor
  · intro h; exact ⟨⟨h 0 (by omega), h 1 (by omega), h 2 (by omega), h 3 (by omega), h 4 (by omega)⟩, h 5 (by omega), h 6 (by omega), h 7 (by omega), h 8 (by omega), h 9 (by omega)⟩
  · rintro ⟨⟨h0, h1, h2, h3, h4⟩, h5, h6, h7, h8, h9⟩ i hi
    match i, hi with
    | 0, _ => exact h0
    | 1, _ => exact h1
    | 2, _ => exact h2
    | 3, _ => exact h3
    | 4, _ => exact h4
    | 5, _ => exact h5
    | 6, _ => exact h6
    | 7, _ => exact h7
    | 8, _ => exact h8
    | 9, _ => exact h9
/-- Two digits, a colon, two digits. -/
def hmB (s : ByteArray) : Bool := d2 s 0 && decide (B s 2 = 58) && d2 s 3
theorem hmB_iff (s : ByteArray) : hmB s = true ↔ d2 s 0 = true ∧ B s 2 = 58 ∧ d2 s 3 = true := by unfold hmB; simp [and_assoc]
theorem form_hm (s : ByteArray) (h : 5 ≤ s.size) : formB (s.extract 0 5) ⟨#[48, 48, 58, 48, 48]⟩ = hmB s := by
  rw [Bool.eq_iff_iff, form_piece s _ 0 5 5 rfl rfl h, all5, hmB_iff, d2_iff, d2_iff]
  show okc (B s 0) 48 = true ∧ okc (B s 1) 48 = true ∧ okc (B s 2) 58 = true ∧ okc (B s 3) 48 = true ∧ okc (B s 4) 48 = true ↔ _
  rw [okc_dig, okc_dig, okc_dig, okc_dig, okc_is _ _ (by decide), decide_eq_true_iff]
  simp [and_assoc]
theorem hm_size {s : ByteArray} (h : hmB s = true) : 5 ≤ s.size := by
  have := dig_in ((d2_iff s 3).1 ((hmB_iff s).1 h).2.2).2
  omega
/-- A colon, two digits. -/
def seB (s : ByteArray) : Bool := decide (B s 5 = 58) && d2 s 6
theorem seB_iff (s : ByteArray) : seB s = true ↔ B s 5 = 58 ∧ d2 s 6 = true := by unfold seB; simp
theorem form_se (s : ByteArray) (h : 8 ≤ s.size) : formB (s.extract 5 8) ⟨#[58, 48, 48]⟩ = seB s := by
  rw [Bool.eq_iff_iff, form_piece s _ 5 8 3 rfl rfl h, all3, seB_iff, d2_iff]
  show okc (B s 5) 58 = true ∧ okc (B s 6) 48 = true ∧ okc (B s 7) 48 = true ↔ _
  rw [okc_dig, okc_dig, okc_is _ _ (by decide), decide_eq_true_iff]
theorem se_size {s : ByteArray} (h : seB s = true) : 8 ≤ s.size := by
  have := dig_in ((d2_iff s 6).1 ((seB_iff s).1 h).2).2
  omega
theorem form_one (s : ByteArray) (k : Nat) (h : k < s.size) : formB (s.extract k (k + 1)) ⟨#[48]⟩ = dig s k := by
  rw [Bool.eq_iff_iff, form_piece s _ k (k + 1) 1 rfl rfl h, all1]
  show okc (B s k) 48 = true ↔ _
  rw [okc_dig]
/-- The first place from a place on where no digit stands. -/
def runF (s : ByteArray) : Nat → Nat → Nat
  | 0, n => n
  | f + 1, n => if dig s n then runF s f (n + 1) else n
def run (s : ByteArray) (n : Nat) : Nat := runF s s.size n
theorem runF_is (s : ByteArray) (k : Nat) (hk : dig s k = false) : ∀ (f n : Nat), n ≤ k → k ≤ n + f → (∀ i, n ≤ i → i < k → dig s i = true) → runF s f n = k := by
  intro f
  induction f with
  | zero => intro n h1 h2 _; show n = k; omega
  | succ f ih =>
    intro n h1 h2 h3
    unfold runF
    by_cases e : n = k
    · subst e; rw [hk]; simp
    · rw [if_pos (h3 n (by omega) (by omega))]
      exact ih (n + 1) (by omega) (by omega) (fun i a b => h3 i (by omega) b)
theorem run_is (s : ByteArray) (n k : Nat) (hk : dig s k = false) (h1 : n ≤ k) (h2 : k ≤ s.size) (h3 : ∀ i, n ≤ i → i < k → dig s i = true) : run s n = k := runF_is s k hk s.size n h1 (by omega) h3
/-- Where a time of the day ends behind its seconds. -/
def endN (s : ByteArray) : Nat := if B s 8 = 46 ∧ dig s 9 = true then run s 9 else 8
theorem dig_out (s : ByteArray) (i : Nat) (h : s.size ≤ i) : dig s i = false := by unfold dig; rw [B_end s i h]; rfl
theorem endN_9 (s : ByteArray) (hd : dig s 9 = false) : endN s = 8 := by unfold endN; rw [if_neg (fun k => by rw [hd] at k; cases k.2)]
theorem endN_exit (s : ByteArray) (j : Nat) (h8 : B s 8 = 46) (h9 : 9 < j) (hj : j ≤ s.size) (hr : ∀ i, 9 ≤ i → i < j → dig s i = true) (hd : dig s j = false) : endN s = j := by
  unfold endN
  rw [if_pos ⟨h8, hr 9 (by omega) h9⟩]
  exact run_is s 9 j hd (by omega) hj hr
/-- A time of the day at a text's beginning: hour, minute, second, the place behind it, whether there is one. -/
def clkF (s : ByteArray) : Int × Int × Int × Nat × Bool :=
  if hmB s = true ∧ n2 s 0 ≤ 23 ∧ n2 s 3 ≤ 59 then
    if seB s = true ∧ n2 s 6 ≤ 59 then (n2 s 0, n2 s 3, n2 s 6, endN s, true) else (n2 s 0, n2 s 3, 0, 5, true)
  else (0, 0, 0, 0, false)
theorem form_zp (s p : ByteArray) (c : Nat) (h : s.size = 6) (hc : c ≠ 48) (hp : p = ⟨#[UInt8.ofNat c, 48, 48, 58, 48, 48]⟩) (h2 : c < 256) : formB s p = (decide (B s 0 = c) && d2 s 1 && decide (B s 3 = 58) && d2 s 4) := by
  subst hp
  rw [Bool.eq_iff_iff, form_whole s _ 6 rfl h]
  have e0 : B ⟨#[UInt8.ofNat c, 48, 48, 58, 48, 48]⟩ 0 = c := by
    show (UInt8.ofNat c).toNat = c
    rw [UInt8.toNat_ofNat']; omega
  simp only [Bool.and_eq_true, decide_eq_true_iff, d2_iff]
  constructor
  · intro k
    have k0 := k 0 (by omega)
    rw [e0, okc_is _ _ hc, decide_eq_true_iff] at k0
    have k1 : dig s 1 = true := by rw [← okc_dig]; exact k 1 (by omega)
    have k2 : dig s 2 = true := by rw [← okc_dig]; exact k 2 (by omega)
    have k3 : okc (B s 3) 58 = true := k 3 (by omega)
    rw [okc_is _ _ (by decide), decide_eq_true_iff] at k3
    have k4 : dig s 4 = true := by rw [← okc_dig]; exact k 4 (by omega)
    have k5 : dig s 5 = true := by rw [← okc_dig]; exact k 5 (by omega)
    exact ⟨⟨⟨k0, k1, k2⟩, k3⟩, k4, k5⟩
  · rintro ⟨⟨⟨k0, k1, k2⟩, k3⟩, k4, k5⟩ i hi
    match i, hi with
    | 0, _ => rw [e0, okc_is _ _ hc, decide_eq_true_iff]; exact k0
    | 1, _ => exact (okc_dig s 1).trans k1
    | 2, _ => exact (okc_dig s 2).trans k2
    | 3, _ => show okc (B s 3) 58 = true; rw [okc_is _ _ (by decide), decide_eq_true_iff]; exact k3
    | 4, _ => exact (okc_dig s 4).trans k4
    | 5, _ => exact (okc_dig s 5).trans k5
/-- A place's minutes ahead. -/
def zonF (s : ByteArray) : Int × Bool :=
  if s = ⟨#[90]⟩ then (0, true)
  else if s.size = 6 ∧ (B s 0 = 43 ∨ B s 0 = 45) ∧ d2 s 1 = true ∧ B s 3 = 58 ∧ d2 s 4 = true ∧ n2 s 1 ≤ 23 ∧ n2 s 4 ≤ 59 then
    ((if B s 0 = 45 then -(n2 s 1 * 60 + n2 s 4) else n2 s 1 * 60 + n2 s 4), true)
  else (0, false)
/-- Four digits, a hyphen, two, a hyphen, two. -/
def dayB (s : ByteArray) : Bool := d4 s 0 && decide (B s 4 = 45) && d2 s 5 && decide (B s 7 = 45) && d2 s 8
theorem dayB_iff (s : ByteArray) : dayB s = true ↔ d4 s 0 = true ∧ B s 4 = 45 ∧ d2 s 5 = true ∧ B s 7 = 45 ∧ d2 s 8 = true := by unfold dayB; simp [and_assoc]
theorem form_day (s : ByteArray) (h : s.size = 10) : formB s ⟨#[48, 48, 48, 48, 45, 48, 48, 45, 48, 48]⟩ = dayB s := by
  rw [Bool.eq_iff_iff, form_whole s _ 10 rfl h, all10, dayB_iff, d2_iff, d2_iff, d4_iff]
  show (okc (B s 0) 48 = true ∧ okc (B s 1) 48 = true ∧ okc (B s 2) 48 = true ∧ okc (B s 3) 48 = true ∧ okc (B s 4) 45 = true) ∧ okc (B s 5) 48 = true ∧ okc (B s 6) 48 = true ∧ okc (B s 7) 45 = true ∧ okc (B s 8) 48 = true ∧ okc (B s 9) 48 = true ↔ _
  rw [okc_dig, okc_dig, okc_dig, okc_dig, okc_dig, okc_dig, okc_dig, okc_dig, okc_is _ _ (by decide), decide_eq_true_iff, okc_is _ _ (by decide), decide_eq_true_iff]
  simp [and_assoc]
end Sm
namespace Sm
/-- A time as a second, or not. -/
def secR (y m d h mi x e : Int) : Int × Bool := if Cv.secOk y m d h mi x e = true then (Cv.secV y m d h mi x e, true) else (0, false)
def tailF (s r : ByteArray) (least : Nat) : Int × Bool :=
  if (clkF r).2.2.2.2 = true ∧ least ≤ (clkF r).2.2.2.1 then
    if (zonF (r.extract (clkF r).2.2.2.1 r.size)).2 = true then secR (n4 s 0) (n2 s 5) (n2 s 8) (clkF r).1 (clkF r).2.1 (clkF r).2.2.1 (zonF (r.extract (clkF r).2.2.2.1 r.size)).1 else (0, false)
  else (0, false)
def fullF (s : ByteArray) (least : Nat) : Int × Bool := if dayB s = true ∧ B s 10 = 84 then tailF s (s.extract 11 s.size) least else (0, false)
def w3cF (s : ByteArray) : Int × Bool :=
  if s.size = 4 ∧ d4 s 0 = true then secR (n4 s 0) 1 1 0 0 0 0
  else if s.size = 7 ∧ d4 s 0 = true ∧ B s 4 = 45 ∧ d2 s 5 = true then secR (n4 s 0) (n2 s 5) 1 0 0 0 0
  else if s.size = 10 ∧ dayB s = true then secR (n4 s 0) (n2 s 5) (n2 s 8) 0 0 0 0
  else fullF s 5
theorem runF_le (s : ByteArray) : ∀ (f n : Nat), n ≤ s.size → runF s f n ≤ s.size := by
  intro f
  induction f with
  | zero => intro n h; exact h
  | succ f ih =>
    intro n h
    unfold runF
    split
    · rename_i hd; exact ih (n + 1) (dig_in hd)
    · exact h
theorem endN_le (s : ByteArray) (h : 8 ≤ s.size) : endN s ≤ s.size := by
  unfold endN
  split
  · rename_i k; exact runF_le s s.size 9 (by have := dig_in k.2; omega)
  · exact h
theorem clk_le (s : ByteArray) : (clkF s).2.2.2.1 ≤ s.size := by
  unfold clkF
  split
  · rename_i k
    have := hm_size k.1
    split
    · rename_i q
      exact endN_le s (se_size q.1)
    · exact this
  · exact Nat.zero_le _
theorem clk_bd (s : ByteArray) : 0 ≤ (clkF s).1 ∧ (clkF s).1 ≤ 99 ∧ 0 ≤ (clkF s).2.1 ∧ (clkF s).2.1 ≤ 99 ∧ 0 ≤ (clkF s).2.2.1 ∧ (clkF s).2.2.1 ≤ 99 := by
  unfold clkF
  split
  · rename_i k
    obtain ⟨a, b, c⟩ := (hmB_iff s).1 k.1
    have := n2_bd a; have := n2_bd c
    split
    · rename_i q
      have := n2_bd ((seB_iff s).1 q.1).2
      show 0 ≤ n2 s 0 ∧ n2 s 0 ≤ 99 ∧ 0 ≤ n2 s 3 ∧ n2 s 3 ≤ 99 ∧ 0 ≤ n2 s 6 ∧ n2 s 6 ≤ 99
      omega
    · show 0 ≤ n2 s 0 ∧ n2 s 0 ≤ 99 ∧ 0 ≤ n2 s 3 ∧ n2 s 3 ≤ 99 ∧ (0 : Int) ≤ 0 ∧ (0 : Int) ≤ 99
      omega
  · decide
/-- Two texts with the same first bytes. -/
theorem same_day {s t : ByteArray} (h : ∀ i, i < 10 → B t i = B s i) : n4 t 0 = n4 s 0 ∧ n2 t 5 = n2 s 5 ∧ n2 t 8 = n2 s 8 ∧ dayB t = dayB s := by
  have v0 : ∀ i, i < 10 → v t i = v s i := fun i hi => by unfold v; rw [h i hi]
  have g0 : ∀ i, i < 10 → dig t i = dig s i := fun i hi => by unfold dig; rw [h i hi]
  refine ⟨?_, ?_, ?_, ?_⟩
  · unfold n4; rw [v0 0 (by omega), v0 (0 + 1) (by omega), v0 (0 + 2) (by omega), v0 (0 + 3) (by omega)]
  · unfold n2; rw [v0 5 (by omega), v0 (5 + 1) (by omega)]
  · unfold n2; rw [v0 8 (by omega), v0 (8 + 1) (by omega)]
  · unfold dayB d4 d2
    rw [g0 0 (by omega), g0 (0 + 1) (by omega), g0 (0 + 2) (by omega), g0 (0 + 3) (by omega), h 4 (by omega), g0 5 (by omega), g0 (5 + 1) (by omega), h 7 (by omega), g0 8 (by omega), g0 (8 + 1) (by omega)]
theorem day_size {s : ByteArray} (h : dayB s = true) : 10 ≤ s.size := by
  have := dig_in ((d2_iff s 8).1 ((dayB_iff s).1 h).2.2.2.2).2
  omega
/-- Before the end of the day no 'T' stands. -/
theorem day_noT {s : ByteArray} (h : dayB s = true) : ∀ i, i < 10 → B s i ≠ 84 := by
  obtain ⟨a, b, c, d, e⟩ := (dayB_iff s).1 h
  obtain ⟨a0, a1, a2, a3⟩ := (d4_iff s 0).1 a
  obtain ⟨c0, c1⟩ := (d2_iff s 5).1 c
  obtain ⟨e0, e1⟩ := (d2_iff s 8).1 e
  intro i hi k
  have nd : ∀ j, dig s j = true → B s j ≠ 84 := fun j hj q => by have := (dig_iff s j).1 hj; omega
  match i, hi with
  | 0, _ => exact nd 0 a0 k
  | 1, _ => exact nd 1 a1 k
  | 2, _ => exact nd 2 a2 k
  | 3, _ => exact nd 3 a3 k
  | 4, _ => omega
  | 5, _ => exact nd 5 c0 k
  | 6, _ => exact nd 6 c1 k
  | 7, _ => omega
  | 8, _ => exact nd 8 e0 k
  | 9, _ => exact nd 9 e1 k
theorem form_4 (s : ByteArray) (h : s.size = 4) : formB s ⟨#[48, 48, 48, 48]⟩ = d4 s 0 := by
  rw [Bool.eq_iff_iff, form_whole s _ 4 rfl h, d4_iff]
  constructor
  · intro k
    exact ⟨(okc_dig s 0).symm.trans (k 0 (by omega)), (okc_dig s 1).symm.trans (k 1 (by omega)), (okc_dig s 2).symm.trans (k 2 (by omega)), (okc_dig s 3).symm.trans (k 3 (by omega))⟩
  · rintro ⟨k0, k1, k2, k3⟩ i hi
    match i, hi with
    | 0, _ => exact (okc_dig s 0).trans k0
    | 1, _ => exact (okc_dig s 1).trans k1
    | 2, _ => exact (okc_dig s 2).trans k2
    | 3, _ => exact (okc_dig s 3).trans k3
theorem form_7 (s : ByteArray) (h : s.size = 7) : formB s ⟨#[48, 48, 48, 48, 45, 48, 48]⟩ = (d4 s 0 && decide (B s 4 = 45) && d2 s 5) := by
  rw [Bool.eq_iff_iff, form_whole s _ 7 rfl h]
  simp only [Bool.and_eq_true, decide_eq_true_iff, d4_iff, d2_iff]
  constructor
  · intro k
    have k4 : okc (B s 4) 45 = true := k 4 (by omega)
    rw [okc_is _ _ (by decide), decide_eq_true_iff] at k4
    exact ⟨⟨⟨(okc_dig s 0).symm.trans (k 0 (by omega)), (okc_dig s 1).symm.trans (k 1 (by omega)), (okc_dig s 2).symm.trans (k 2 (by omega)), (okc_dig s 3).symm.trans (k 3 (by omega))⟩, k4⟩, (okc_dig s 5).symm.trans (k 5 (by omega)), (okc_dig s 6).symm.trans (k 6 (by omega))⟩
  · rintro ⟨⟨⟨k0, k1, k2, k3⟩, k4⟩, k5, k6⟩ i hi
    match i, hi with
    | 0, _ => exact (okc_dig s 0).trans k0
    | 1, _ => exact (okc_dig s 1).trans k1
    | 2, _ => exact (okc_dig s 2).trans k2
    | 3, _ => exact (okc_dig s 3).trans k3
    | 4, _ => show okc (B s 4) 45 = true; rw [okc_is _ _ (by decide), decide_eq_true_iff]; exact k4
    | 5, _ => exact (okc_dig s 5).trans k5
    | 6, _ => exact (okc_dig s 6).trans k6
end Sm
namespace Sm
/-- A number's last digit as a byte. -/
def c (n : Int) : UInt8 := UInt8.ofNat (48 + n % 10).toNat
theorem c_nat (n : Int) : ((c n).toNat : Int) = 48 + n % 10 := by
  have h : (c n).toNat = (48 + n % 10).toNat := by
    show (UInt8.ofNat (48 + n % 10).toNat).toNat = _
    rw [UInt8.toNat_ofNat']
    have : (48 + n % 10).toNat < 256 := by omega
    omega
  rw [h]; omega
/-- A time as a stamp's twenty bytes. -/
def textL (y m d h mi x : Int) : List UInt8 := [c (y / 1000), c (y / 100), c (y / 10), c y, 45, c (m / 10), c m, 45, c (d / 10), c d, 84, c (h / 10), c h, 58, c (mi / 10), c mi, 58, c (x / 10), c x, 90]
def textB (y m d h mi x : Int) : ByteArray := ⟨(textL y m d h mi x).toArray⟩
theorem text_size (y m d h mi x : Int) : (textB y m d h mi x).size = 20 := rfl
end Sm
namespace Sm
/-- A number of so many digits at a place. -/
def numA (s : ByteArray) (a : Nat) : Nat → Int
  | 0 => 0
  | n + 1 => numA s a n * 10 + v s (a + n)
end Sm
namespace Sm
theorem numA_bd (s : ByteArray) (a : Nat) : ∀ j : Nat, (∀ i, i < j → dig s (a + i) = true) → 0 ≤ numA s a j ∧ numA s a j + 1 ≤ (10 : Int) ^ j
  | 0, _ => by simp [numA]
  | j + 1, h => by
    have ih := numA_bd s a j (fun i hi => h i (by omega))
    have hv := v_bd (h j (by omega))
    unfold numA
    rw [Int.pow_succ]
    omega
theorem numA_small (s : ByteArray) (a j : Nat) (hj : j ≤ 4) (h : ∀ i, i < j → dig s (a + i) = true) : 0 ≤ numA s a j ∧ numA s a j ≤ 9999 := by
  have := numA_bd s a j h
  have h2 : j = 0 ∨ j = 1 ∨ j = 2 ∨ j = 3 ∨ j = 4 := by omega
  rcases h2 with rfl | rfl | rfl | rfl | rfl <;> simp at this <;> omega
theorem numA_2 (s : ByteArray) (a : Nat) : numA s a 2 = n2 s a := by unfold numA numA numA n2; simp
theorem numA_4 (s : ByteArray) (a : Nat) : numA s a 4 = n4 s a := by unfold numA numA numA numA numA n4; simp
theorem all_2 (s : ByteArray) (a : Nat) : (∀ i, i < 2 → dig s (a + i) = true) ↔ d2 s a = true := by
  rw [d2_iff]
  constructor
  · intro h; exact ⟨h 0 (by omega), h 1 (by omega)⟩
  · rintro ⟨h0, h1⟩ i hi
    match i, hi with
    | 0, _ => exact h0
    | 1, _ => exact h1
theorem all_4 (s : ByteArray) (a : Nat) : (∀ i, i < 4 → dig s (a + i) = true) ↔ d4 s a = true := by
  rw [d4_iff]
  constructor
  · intro h; exact ⟨h 0 (by omega), h 1 (by omega), h 2 (by omega), h 3 (by omega)⟩
  · rintro ⟨h0, h1, h2, h3⟩ i hi
    match i, hi with
    | 0, _ => exact h0
    | 1, _ => exact h1
    | 2, _ => exact h2
    | 3, _ => exact h3
theorem all_1 (s : ByteArray) (a : Nat) : (∀ i, i < 1 → dig s (a + i) = true) ↔ dig s a = true := by
  constructor
  · intro h; exact h 0 (by omega)
  · intro h0 i hi
    match i, hi with
    | 0, _ => exact h0
end Sm
namespace Sm
theorem clk_5 (s : ByteArray) (h : (clkF s).2.2.2.2 = true) : 5 ≤ (clkF s).2.2.2.1 := by
  unfold clkF at h ⊢
  split at h
  · rename_i k
    rw [if_pos k]
    split
    · rename_i q
      show 5 ≤ endN s
      unfold endN
      split
      · rename_i z
        have : ∀ f n, n ≤ runF s f n := by
          intro f
          induction f with
          | zero => intro n; exact Nat.le_refl _
          | succ f ih =>
            intro n
            unfold runF
            split
            · have := ih (n + 1); omega
            · exact Nat.le_refl _
        have := this s.size 9
        unfold run; omega
      · omega
    · exact Nat.le_refl _
  · cases h
theorem extract_extract (s : ByteArray) (n : Nat) : (s.extract 11 s.size).extract n (s.extract 11 s.size).size = s.extract (11 + n) s.size := by
  apply ext
  · simp only [size_extract]; omega
  · intro i hi
    simp only [size_extract] at hi
    rw [B_extract, B_extract, B_extract, size_extract, if_pos (by omega), if_pos (by omega), if_pos (by omega), Nat.add_assoc]
end Sm
namespace Sm
/-- A number in so many digits. -/
def putL (n : Int) (z : Nat) : List UInt8 := (List.range z).map fun i => c (n / (10 : Int) ^ (z - 1 - i))
theorem putL_len (n : Int) (z : Nat) : (putL n z).length = z := by simp [putL]
theorem putL_at (n : Int) (z i : Nat) (h : i < (putL n z).length) : (((putL n z)[i]).toNat : Int) = 48 + n / (10 : Int) ^ (z - 1 - i) % 10 := by
  simp only [putL, List.getElem_map, List.getElem_range]
  exact c_nat _
end Sm
namespace Ml
open Sm
/-- A text's pieces between the bytes c. -/
def sp (c : UInt8) : List UInt8 → List (List UInt8)
  | [] => [[]]
  | b :: l => if b = c then [] :: sp c l else match sp c l with
    | [] => [[b]]
    | h :: t => (b :: h) :: t
theorem sp_cons (c b : UInt8) (l : List UInt8) : sp c (b :: l) = if b = c then [] :: sp c l else match sp c l with | [] => [[b]] | h :: t => (b :: h) :: t := rfl
theorem sp_ne (c : UInt8) : ∀ l, sp c l ≠ []
  | [] => by simp [sp]
  | b :: l => by
    unfold sp
    split
    · simp
    · split <;> simp
theorem sp_app (c : UInt8) : ∀ l m : List UInt8, sp c (l ++ c :: m) = sp c l ++ sp c m
  | [], m => by simp [sp]
  | b :: l, m => by
    have ih := sp_app c l m
    show sp c (b :: (l ++ c :: m)) = _
    rw [sp_cons, sp_cons, ih]
    split
    · simp
    · cases h : sp c l with
      | nil => exact absurd h (sp_ne c l)
      | cons x t => simp
theorem sp_none (c : UInt8) : ∀ l : List UInt8, c ∉ l → sp c l = [l]
  | [], _ => rfl
  | b :: l, h => by
    have h1 : b ≠ c := fun e => h (by simp [e])
    have h2 : c ∉ l := fun e => h (List.mem_cons_of_mem _ e)
    unfold sp
    rw [if_neg h1, sp_none c l h2]
theorem sp_first (c : UInt8) (l m : List UInt8) (h : c ∉ l) : sp c (l ++ c :: m) = l :: sp c m := by rw [sp_app, sp_none c l h]; rfl
theorem sp_not (c : UInt8) : ∀ (l : List UInt8), ∀ x ∈ sp c l, c ∉ x
  | [], x, h => by
    simp [sp] at h
    subst h
    simp
  | b :: l, x, h => by
    have ih := sp_not c l
    unfold sp at h
    split at h
    · rcases List.mem_cons.1 h with rfl | h
      · simp
      · exact ih x h
    · rename_i hb
      cases hs : sp c l with
      | nil => exact absurd hs (sp_ne c l)
      | cons y t =>
        rw [hs] at h ih
        rcases List.mem_cons.1 h with rfl | h
        · intro e
          rcases List.mem_cons.1 e with e | e
          · exact hb e.symm
          · exact ih y (by simp) e
        · exact ih x (by simp [h])
/-- How long the pieces are together. -/
def tot : List (List UInt8) → Nat
  | [] => 0
  | x :: l => x.length + 1 + tot l
theorem sp_tot (c : UInt8) : ∀ l : List UInt8, tot (sp c l) = l.length + 1
  | [] => rfl
  | b :: l => by
    have ih := sp_tot c l
    unfold sp
    split
    · simp [tot, ih]
      omega
    · cases hs : sp c l with
      | nil => exact absurd hs (sp_ne c l)
      | cons y t =>
        rw [hs] at ih
        simp [tot] at ih ⊢
        omega
def mk (l : List UInt8) : ByteArray := ⟨l.toArray⟩
theorem mk_list (s : ByteArray) : mk s.data.toList = s := by
  apply ByteArray.ext
  simp [mk]
theorem mk_size (l : List UInt8) : (mk l).size = l.length := rfl
theorem mk_inj {l m : List UInt8} (h : mk l = mk m) : l = m := by
  have := congrArg (fun b : ByteArray => b.data.toList) h
  simpa [mk] using this
theorem list_mk (l : List UInt8) : (mk l).data.toList = l := by simp [mk]
/-- A text's words. -/
def wds (s : ByteArray) : List ByteArray := (sp 32 s.data.toList).map mk
/-! Numbers. -/
def digO (s : ByteArray) (n : Nat) : Bool := decide (s.size = n ∧ ∀ i, i < n → dig s i = true)
def digV (s : ByteArray) (n : Nat) : Int := if digO s n = true then numA s 0 n else 0
theorem digO_iff (s : ByteArray) (n : Nat) : digO s n = true ↔ s.size = n ∧ ∀ i, i < n → dig s i = true := by unfold digO; simp
theorem digV_bd (s : ByteArray) (n : Nat) (hn : n ≤ 4) : 0 ≤ digV s n ∧ digV s n ≤ 9999 := by
  unfold digV
  split
  · rename_i h
    obtain ⟨_, h2⟩ := (digO_iff s n).1 h
    exact numA_small s 0 n hn (fun i hi => by rw [Nat.zero_add]; exact h2 i hi)
  · omega
theorem digV2_bd (s : ByteArray) (n : Nat) (hn : n ≤ 2) : 0 ≤ digV s n ∧ digV s n ≤ 99 := by
  unfold digV
  split
  · rename_i h
    obtain ⟨_, h2⟩ := (digO_iff s n).1 h
    have h3 := numA_bd s 0 n (fun i hi => by rw [Nat.zero_add]; exact h2 i hi)
    have h4 : n = 0 ∨ n = 1 ∨ n = 2 := by omega
    rcases h4 with rfl | rfl | rfl <;> simp at h3 <;> omega
  · omega
/-! Names. -/
def mths : List ByteArray := [⟨#[74, 97, 110]⟩, ⟨#[70, 101, 98]⟩, ⟨#[77, 97, 114]⟩, ⟨#[65, 112, 114]⟩, ⟨#[77, 97, 121]⟩, ⟨#[74, 117, 110]⟩, ⟨#[74, 117, 108]⟩, ⟨#[65, 117, 103]⟩, ⟨#[83, 101, 112]⟩, ⟨#[79, 99, 116]⟩, ⟨#[78, 111, 118]⟩, ⟨#[68, 101, 99]⟩]
def dys : List ByteArray := [⟨#[77, 111, 110]⟩, ⟨#[84, 117, 101]⟩, ⟨#[87, 101, 100]⟩, ⟨#[84, 104, 117]⟩, ⟨#[70, 114, 105]⟩, ⟨#[83, 97, 116]⟩, ⟨#[83, 117, 110]⟩]
def znames : List (ByteArray × Int) := [(⟨#[71, 77, 84]⟩, 0), (⟨#[85, 84]⟩, 0), (⟨#[90]⟩, 0), (⟨#[69, 83, 84]⟩, -5), (⟨#[69, 68, 84]⟩, -4), (⟨#[67, 83, 84]⟩, -6), (⟨#[67, 68, 84]⟩, -5), (⟨#[77, 83, 84]⟩, -7), (⟨#[77, 68, 84]⟩, -6), (⟨#[80, 83, 84]⟩, -8), (⟨#[80, 68, 84]⟩, -7)]
/-- The place of a name in a row, from first on. -/
def nmF (l : List ByteArray) (first : Int) (s : ByteArray) : Option Int := (l.findIdx? fun x => decide (x = s)).map fun (k : Nat) => first + (k : Int)
def monF (s : ByteArray) : Option Int := nmF mths 1 s
def dayF (s : ByteArray) : Option Int := nmF dys 0 s
def hourF (s : ByteArray) : Option Int := (znames.find? fun p => decide (p.1 = s)).map fun p => p.2
def offB (s : ByteArray) : Bool := decide (s.size = 5) && d2 s 1 && d2 s 3 && decide (n2 s 1 ≤ 23 ∧ n2 s 3 ≤ 59) && (B s 0 == 43 || B s 0 == 45)
def offV (s : ByteArray) : Int := if B s 0 = 45 then -(n2 s 1 * 60 + n2 s 3) else n2 s 1 * 60 + n2 s 3
def zneF (s : ByteArray) : Option Int := match hourF s with
  | some h => some (h * 60)
  | none => if offB s = true then some (offV s) else none
def hmsB (s : ByteArray) : Bool := (decide (s.size = 5) && d2 s 0 && (B s 2 == 58) && d2 s 3) || (decide (s.size = 8) && d2 s 0 && (B s 2 == 58) && d2 s 3 && (B s 5 == 58) && d2 s 6)
def secOf (s : ByteArray) : Int := if s.size = 8 then n2 s 6 else 0
def dyn (s : ByteArray) : Nat := if s.size = 1 then 1 else 2
/-- Five words' second; week: the weekday that is asked for. -/
def five (d m y c z : ByteArray) (week : Option Int) : Option Int :=
  match monF m, zneF z with
  | some mm, some e =>
    if digO d (dyn d) = true ∧ digO y 4 = true ∧ hmsB c = true ∧ Cv.secOk (digV y 4) mm (digV d (dyn d)) (n2 c 0) (n2 c 3) (secOf c) e = true ∧ (week = none ∨ week = some (Cv.wday (Cv.num (digV y 4) mm (digV d (dyn d))))) then
      some (Cv.secV (digV y 4) mm (digV d (dyn d)) (n2 c 0) (n2 c 3) (secOf c) e) else none
  | _, _ => none
def commaB (w : ByteArray) : Bool := decide (w.size = 4) && (B w 3 == 44)
def prs : List ByteArray → Option Int
  | [d, m, y, c, z] => five d m y c z none
  | [w, d, m, y, c, z] => if commaB w = true then (match dayF (w.extract 0 3) with | some k => five d m y c z (some k) | none => none) else none
  | _ => none
def parseF (s : ByteArray) : Option Int := prs (wds s)
/-! What is a date is short. -/
theorem nm_mem {l : List ByteArray} {f v : Int} {s : ByteArray} (h : nmF l f s = some v) : s ∈ l ∧ ∃ k : Nat, v = f + k ∧ l[k]? = some s := by
  unfold nmF at h
  rw [Option.map_eq_some_iff] at h
  obtain ⟨k, hk, rfl⟩ := h
  obtain ⟨h1, h2, _⟩ := List.findIdx?_eq_some_iff_getElem.1 hk
  have h3 : l[k] = s := by simpa using h2
  exact ⟨h3 ▸ List.getElem_mem h1, k, rfl, by rw [List.getElem?_eq_getElem h1, h3]⟩
theorem mon_size {s : ByteArray} {v : Int} (h : monF s = some v) : s.size = 3 ∧ 1 ≤ v ∧ v ≤ 12 := by
  obtain ⟨h1, k, rfl, h2⟩ := nm_mem h
  have h3 : k < 12 := (List.getElem?_eq_some_iff.1 h2).1
  have h4 : (mths.all fun x => x.size == 3) = true := by kernel_rfl
  have := List.all_eq_true.1 h4 s h1
  simp at this
  exact ⟨this, by omega, by omega⟩
theorem day_size {s : ByteArray} {v : Int} (h : dayF s = some v) : s.size = 3 ∧ 0 ≤ v ∧ v ≤ 6 := by
  obtain ⟨h1, k, rfl, h2⟩ := nm_mem h
  have h3 : k < 7 := (List.getElem?_eq_some_iff.1 h2).1
  have h4 : (dys.all fun x => x.size == 3) = true := by kernel_rfl
  have := List.all_eq_true.1 h4 s h1
  simp at this
  exact ⟨this, by omega, by omega⟩
theorem hour_mem {s : ByteArray} {h : Int} (hh : hourF s = some h) : (s, h) ∈ znames := by
  unfold hourF at hh
  rw [Option.map_eq_some_iff] at hh
  obtain ⟨p, hp, rfl⟩ := hh
  have h1 := List.mem_of_find?_eq_some hp
  have h2 := List.find?_some hp
  simp at h2
  rw [← h2]
  exact h1
theorem zn_ok : (znames.all fun p => decide (p.1.size ≤ 3 ∧ 1 ≤ p.1.size ∧ -8 ≤ p.2 ∧ p.2 ≤ 0)) = true := by kernel_rfl
theorem off_iff (s : ByteArray) : offB s = true ↔ s.size = 5 ∧ d2 s 1 = true ∧ d2 s 3 = true ∧ n2 s 1 ≤ 23 ∧ n2 s 3 ≤ 59 ∧ (B s 0 = 43 ∨ B s 0 = 45) := by
  unfold offB
  simp [and_assoc]
theorem zne_bd {s : ByteArray} {v : Int} (h : zneF s = some v) : s.size ≤ 5 ∧ -1439 ≤ v ∧ v ≤ 1439 := by
  unfold zneF at h
  split at h
  · rename_i x hx
    have := of_decide_eq_true (List.all_eq_true.1 zn_ok _ (hour_mem hx))
    simp only [Option.some.injEq] at h
    simp only at this
    omega
  · split at h
    · rename_i ho
      obtain ⟨h1, h2, h3, h4, h5, _⟩ := (off_iff s).1 ho
      have b1 := n2_bd h2
      have b2 := n2_bd h3
      simp only [Option.some.injEq] at h
      unfold offV at h
      split at h <;> omega
    · cases h
theorem hms_iff (s : ByteArray) : hmsB s = true ↔ d2 s 0 = true ∧ B s 2 = 58 ∧ d2 s 3 = true ∧ (s.size = 5 ∨ s.size = 8 ∧ B s 5 = 58 ∧ d2 s 6 = true) := by
  unfold hmsB
  simp only [Bool.or_eq_true, Bool.and_eq_true, decide_eq_true_iff, beq_iff_eq]
  constructor
  · rintro (⟨⟨⟨h1, h2⟩, h3⟩, h4⟩ | ⟨⟨⟨⟨⟨h1, h2⟩, h3⟩, h4⟩, h5⟩, h6⟩)
    · exact ⟨h2, h3, h4, Or.inl h1⟩
    · exact ⟨h2, h3, h4, Or.inr ⟨h1, h5, h6⟩⟩
  · rintro ⟨h1, h2, h3, h4 | ⟨h4, h5, h6⟩⟩
    · exact Or.inl ⟨⟨⟨h4, h1⟩, h2⟩, h3⟩
    · exact Or.inr ⟨⟨⟨⟨⟨h4, h1⟩, h2⟩, h3⟩, h5⟩, h6⟩
theorem five_some {d m y c z : ByteArray} {week : Option Int} {v : Int} (h : five d m y c z week = some v) :
    ∃ mm e, monF m = some mm ∧ zneF z = some e ∧ digO d (dyn d) = true ∧ digO y 4 = true ∧ hmsB c = true ∧ Cv.secOk (digV y 4) mm (digV d (dyn d)) (n2 c 0) (n2 c 3) (secOf c) e = true ∧
      (week = none ∨ week = some (Cv.wday (Cv.num (digV y 4) mm (digV d (dyn d))))) ∧ v = Cv.secV (digV y 4) mm (digV d (dyn d)) (n2 c 0) (n2 c 3) (secOf c) e := by
  unfold five at h
  split at h
  · rename_i mm e h1 h2
    split at h
    · rename_i h3
      obtain ⟨h4, h5, h6, h7, h8⟩ := h3
      exact ⟨mm, e, h1, h2, h4, h5, h6, h7, h8, (Option.some.inj h).symm⟩
    · cases h
  · cases h
theorem five_sizes {d m y c z : ByteArray} {week : Option Int} {v : Int} (h : five d m y c z week = some v) : d.size ≤ 2 ∧ m.size = 3 ∧ y.size = 4 ∧ c.size ≤ 8 ∧ z.size ≤ 5 := by
  obtain ⟨mm, e, h1, h2, h3, h4, h5, _⟩ := five_some h
  have e3 := ((digO_iff _ _).1 h3).1
  have e4 := ((digO_iff _ _).1 h4).1
  obtain ⟨_, _, _, e5⟩ := (hms_iff c).1 h5
  have hd : dyn d ≤ 2 := by unfold dyn; split <;> omega
  exact ⟨by omega, (mon_size h1).1, e4, by omega, (zne_bd h2).1⟩
theorem parse_short {s : ByteArray} {v : Int} (h : parseF s = some v) : s.size ≤ 31 := by
  have ht := sp_tot 32 s.data.toList
  have hsz : s.data.toList.length = s.size := by simp
  unfold parseF wds at h
  generalize sp 32 s.data.toList = W at *
  match W, h with
  | [d, m, y, c, z], h =>
    have := five_sizes (show five (mk d) (mk m) (mk y) (mk c) (mk z) none = some v from h)
    simp only [mk_size] at this
    simp [tot] at ht
    omega
  | [w, d, m, y, c, z], h =>
    have h : (if commaB (mk w) = true then (match dayF ((mk w).extract 0 3) with | some k => five (mk d) (mk m) (mk y) (mk c) (mk z) (some k) | none => none) else none) = some v := h
    split at h
    · rename_i hc
      unfold commaB at hc
      simp only [Bool.and_eq_true, decide_eq_true_iff] at hc
      split at h
      · have := five_sizes h
        simp only [mk_size] at this hc
        simp [tot] at ht
        omega
      · cases h
    · cases h
end Ml
namespace Go.Proofs.YtbhafhbaldddiaaGreatDoor
open Go.Maps (Keyed)
open Go.WideShapes Go.RowKit
open Go
/-- How an element reads that is told as itself. -/
def heldElem (ok : Value → Bool) (v : Value) : Option (DataW Value × List MemPlace) := if ok v then some (.held v, []) else none
theorem held_mk {ok : Value → Bool} {v : Value} (h : ok v = true) : heldElem ok v = some (.held v, []) := by simp [heldElem, h]
theorem held_inv {ok : Value → Bool} {v : Value} {z : DataW Value × List MemPlace} (h : heldElem ok v = some z) : ok v = true ∧ z = (.held v, []) := by
  unfold heldElem at h
  split at h
  · exact ⟨by assumption, by cases h; rfl⟩
  · cases h
/-- The datum of a map tells what f tells. -/
def Tells (P : Program) (k : TypeId) (D : DataW Value) (f : Value → Option Value) : Prop :=
  ∀ key kl, keyOf P k key = some kl → (f key = none → Maps.has D kl = false) ∧ ∀ v, f key = some v → Maps.has D kl = true ∧ ∀ z, D.atKey kl z = .held v
/-- Block b of w is a map of at most n entries that tells f. -/
def MapF (P : Program) (k : TypeId) (ok : Value → Bool) (w : World) (b n : Nat) (f : Value → Option Value) : Prop := ∃ D, w.ownsMap P k (heldElem ok) b n D ∧ Tells P k D f
section
variable {P : Program} {k e t : TypeId} {ok : Value → Bool} {w : World} {b n : Nat} {f : Value → Option Value}
theorem MapF.lt (h : MapF P k ok w b n f) : b < w.heap.size := by
  obtain ⟨D, h1, _⟩ := h
  exact h1.lt
theorem MapF.mono (h : MapF P k ok w b n f) {m : Nat} (hm : n ≤ m) : MapF P k ok w b m f := by
  obtain ⟨D, h1, h2⟩ := h
  exact ⟨D, h1.mono hm, h2⟩
theorem MapF.congr (h : MapF P k ok w b n f) {g : Value → Option Value} (hg : ∀ key kl, keyOf P k key = some kl → f key = g key) : MapF P k ok w b n g := by
  obtain ⟨D, h1, h2⟩ := h
  exact ⟨D, h1, fun key kl hk => by rw [← hg key kl hk]; exact h2 key kl hk⟩
theorem MapF.kept {w' : World} {row : Option Nat} (h : MapF P k ok w b n f) (hg : w.grownBy w' row) (hne : some b ≠ row) : MapF P k ok w' b n f := by
  obtain ⟨D, h1, h2⟩ := h
  exact ⟨D, h1.kept hg hne, h2⟩
theorem MapF.alloc (h : MapF P k ok w b n f) (o : Obj) : MapF P k ok (w.alloc o) b n f := h.kept (World.grownBy_alloc w o none) (by simp)
theorem MapF.drew (h : MapF P k ok w b n f) : MapF P k ok w.drew b n f := h
theorem MapF.setCell (h : MapF P k ok w b n f) {a : Addr} (ha : b ≠ a.block) (u : Value) : MapF P k ok (w.setCell a u) b n f := by
  obtain ⟨D, h1, h2⟩ := h
  exact ⟨D, h1.setCell ha u, h2⟩
/-- A callee that leaves what was there leaves the map. -/
theorem MapF.below {w' : World} {m : Nat} (h : MapF P k ok w b n f) (hb : Below m w w') (hm : b < m) : MapF P k ok w' b n f := by
  obtain ⟨D, ⟨es, clock, h1, h3⟩, h2⟩ := h
  exact ⟨D, ⟨es, clock, (hb.block _ hm).trans h1, h3⟩, h2⟩
theorem MapF.made (P : Program) (k : TypeId) (ok : Value → Bool) (w : World) : MapF P k ok (w.alloc (.map #[] 0)) w.heap.size 0 (fun _ => none) :=
  ⟨.map [], World.ownsMap_made w P k _, fun key kl _ => ⟨fun _ => rfl, fun v hv => by cases hv⟩⟩
/-- f with v at the key. -/
noncomputable def updF (f : Value → Option Value) (key v : Value) : Value → Option Value := fun x => @ite _ (x = key) (Classical.propDecidable _) (some v) (f x)
theorem updF_same (f : Value → Option Value) (key v : Value) : updF f key v key = some v := by simp [updF]
theorem updF_other {f : Value → Option Value} {key v x : Value} (h : x ≠ key) : updF f key v x = f x := by simp [updF, h]
theorem Tells.put {D : DataW Value} (K : Keyed P k) (hD : Maps.IsMap D) (h : Tells P k D f) {key v : Value} {kl : Lit} (hkey : keyOf P k key = some kl) : Tells P k (D.put kl (.held v)) (updF f key v) := by
  intro x xl hx
  by_cases e : x = key
  · subst e
    rw [hkey] at hx
    cases hx
    rw [updF_same]
    refine ⟨(fun h => nomatch h), fun u hu => ?_⟩
    cases hu
    exact ⟨Maps.has_put_same hD (K.key hkey) _, fun z => Maps.atKey_put_same hD (K.key hkey) _ z⟩
  · have hne : xl ≠ kl := fun e1 => e (K.inj hx (e1 ▸ hkey))
    rw [updF_other e, Maps.has_put_other hne]
    refine ⟨(h x xl hx).1, fun u hu => ?_⟩
    obtain ⟨h1, h2⟩ := (h x xl hx).2 u hu
    exact ⟨h1, fun z => by rw [Maps.atKey_put_other hne]; exact h2 z⟩
/-- m[k] = v. -/
theorem MapF.store (h : MapF P k ok w b n f) (K : Keyed P k) (ht : P.underlying t = some (.map k e)) (hn : n < maxLen) {key v : Value} {kl : Lit} (hkey : keyOf P k key = some kl) (hv : ok v = true) :
    ∃ w', (Instr.mapUpdate t (.map (some b)) key v).run P w = .ok () w' ∧ MapF P k ok w' b (n + 1) (updF f key v) ∧ w.mapTurned w' b := by
  obtain ⟨D, h1, h2⟩ := h
  obtain ⟨w', hr, h3, h4⟩ := h1.store K ht hn hkey (held_mk hv)
  exact ⟨w', hr, ⟨_, h3, h2.put K h1.isMap hkey⟩, h4⟩
/-- m[k], with ok or without. -/
theorem MapF.look (h : MapF P k ok w b n f) (K : Keyed P k) (ht : P.underlying t = some (.map k e)) {z : Value} (hz : (zeroValue e).run P w = .ok z w) (hzo : ok z = true) {key : Value} {kl : Lit} (hkey : keyOf P k key = some kl) :
    (Instr.lookup t (.map (some b)) key true).run P w = .ok (.tuple #[(f key).getD z, .bool (f key).isSome]) w := by
  obtain ⟨D, h1, h2⟩ := h
  obtain ⟨v, ps, hr, hv⟩ := h1.look_ok K ht hz (held_mk hzo) hkey
  obtain ⟨_, hv2⟩ := held_inv hv
  obtain ⟨g1, g2⟩ := h2 key kl hkey
  rw [hr]
  cases hf : f key with
  | none =>
    rw [g1 hf]
    rw [Maps.atKey_of_not_has (g1 hf)] at hv2
    simp only [Prod.mk.injEq, DataW.held.injEq] at hv2
    simp [← hv2.1]
  | some u =>
    rw [(g2 u hf).1]
    rw [(g2 u hf).2] at hv2
    simp only [Prod.mk.injEq, DataW.held.injEq] at hv2
    simp [← hv2.1]
theorem MapF.look1 (h : MapF P k ok w b n f) (K : Keyed P k) (ht : P.underlying t = some (.map k e)) {z : Value} (hz : (zeroValue e).run P w = .ok z w) (hzo : ok z = true) {key : Value} {kl : Lit} (hkey : keyOf P k key = some kl) :
    (Instr.lookup t (.map (some b)) key false).run P w = .ok ((f key).getD z) w := by
  obtain ⟨D, h1, h2⟩ := h
  obtain ⟨v, ps, hr, hv⟩ := h1.lookup K ht hz (held_mk hzo) hkey
  obtain ⟨_, hv2⟩ := held_inv hv
  obtain ⟨g1, g2⟩ := h2 key kl hkey
  rw [hr]
  cases hf : f key with
  | none =>
    rw [Maps.atKey_of_not_has (g1 hf)] at hv2
    simp only [Prod.mk.injEq, DataW.held.injEq] at hv2
    simp [← hv2.1]
  | some u =>
    rw [(g2 u hf).2] at hv2
    simp only [Prod.mk.injEq, DataW.held.injEq] at hv2
    simp [← hv2.1]
/-- A range over the map under way: left: the keys that are still to come. -/
def RangeF (P : Program) (k : TypeId) (ok : Value → Bool) (w : World) (b r n : Nat) (f : Value → Option Value) (left : Value → Prop) (cnt : Nat) : Prop :=
  ∃ D lf, w.ranges P k (heldElem ok) b r n D lf cnt ∧ Tells P k D f ∧ ∀ key kl, keyOf P k key = some kl → (lf kl = true ↔ left key)
variable {r cnt : Nat} {left : Value → Prop}
theorem RangeF.owns (h : RangeF P k ok w b r n f left cnt) : MapF P k ok w b n f := by
  obtain ⟨D, lf, h1, h2, _⟩ := h
  exact ⟨D, h1.owns, h2⟩
theorem RangeF.left_eq (h : RangeF P k ok w b r n f left cnt) : w.rangeLeft b r = cnt := by
  obtain ⟨D, lf, h1, _⟩ := h
  exact h1.left_eq
theorem RangeF.ne (h : RangeF P k ok w b r n f left cnt) : r ≠ b := by
  obtain ⟨D, lf, h1, _⟩ := h
  exact h1.ne
theorem RangeF.rlt (h : RangeF P k ok w b r n f left cnt) : r < w.heap.size := by
  obtain ⟨D, lf, h1, _⟩ := h
  exact h1.lt
theorem RangeF.kept {w' : World} {row : Option Nat} (h : RangeF P k ok w b r n f left cnt) (hg : w.grownBy w' row) (hb : some b ≠ row) (hr : some r ≠ row) : RangeF P k ok w' b r n f left cnt := by
  obtain ⟨D, lf, h1, h2⟩ := h
  exact ⟨D, lf, h1.kept hg hb hr, h2⟩
theorem MapF.range (h : MapF P k ok w b n f) (K : Keyed P k) (ht : P.underlying t = some (.map k e)) :
    ∃ w' cnt, (Instr.range t (.map (some b))).run P w = .ok (.pointer (some ⟨w.heap.size, 0, none⟩)) w' ∧ RangeF P k ok w' b w.heap.size n f (fun x => f x ≠ none) cnt ∧ cnt ≤ n ∧ w.grownBy w' none ∧ w'.heap.size = w.heap.size + 1 := by
  obtain ⟨D, h1, h2⟩ := h
  obtain ⟨w', hr, h3, h4, h5⟩ := h1.range K ht
  refine ⟨w', _, hr, ⟨D, _, h3, h2, fun key kl hk => ?_⟩, h1.size_le, h4, h5⟩
  obtain ⟨g1, g2⟩ := h2 key kl hk
  constructor
  · intro hh e
    rw [g1 e] at hh
    cases hh
  · intro hh
    cases hf : f key with
    | none => exact absurd hf hh
    | some u => exact (g2 u hf).1
theorem RangeF.next (h : RangeF P k ok w b r n f left cnt) (K : Keyed P k) (ty : TypeId) :
    (cnt = 0 ∧ (∀ key kl, keyOf P k key = some kl → ¬ left key) ∧ (Instr.next (.pointer (some ⟨r, 0, none⟩)) false ty).run P w = .ok (.tuple #[.bool false]) w) ∨
    ∃ key v kl w' cnt', keyOf P k key = some kl ∧ left key ∧ ok v = true ∧ f key = some v ∧ (Instr.next (.pointer (some ⟨r, 0, none⟩)) false ty).run P w = .ok (.tuple #[.bool true, key, v]) w' ∧
      RangeF P k ok w' b r n f (fun x => left x ∧ x ≠ key) cnt' ∧ cnt' < cnt ∧ w.grownBy w' (some r) ∧ w'.heap.size = w.heap.size ∧ (Instr.entry (.pointer (some ⟨r, 0, none⟩))).run P w' = .ok (.tuple #[key, v]) w' := by
  obtain ⟨D, lf, h1, h2, h3⟩ := h
  rcases h1.next K ty with ⟨c0, hl, hr⟩ | ⟨key, v, kl, y, w', cnt', hkey, hlk, hv, hat, hr, h4, hlt, hg, hs, hen⟩
  · refine Or.inl ⟨c0, fun key kl hk hh => ?_, hr⟩
    have := (h3 key kl hk).2 hh
    rw [hl kl] at this
    cases this
  · obtain ⟨hok, rfl⟩ := held_inv hv
    obtain ⟨g1, g2⟩ := h2 key kl hkey
    have hf : f key = some v := by
      cases hf : f key with
      | none =>
        have h5 := Maps.atKey_of_not_has (g1 hf) (DataW.nil : DataW Value)
        rw [hat] at h5
        cases h5
      | some u =>
        have h5 := (g2 u hf).2 .nil
        rw [hat] at h5
        cases h5
        rfl
    refine Or.inr ⟨key, v, kl, w', cnt', hkey, (h3 key kl hkey).1 hlk, hok, hf, hr, ⟨D, _, h4, h2, fun x xl hx => ?_⟩, hlt, hg, hs, hen⟩
    have hx3 := h3 x xl hx
    by_cases e : x = key
    · subst e
      rw [hkey] at hx
      cases hx
      simp [WideAt.sameKey_self (K.key hkey)]
    · have hne : xl ≠ kl := fun e1 => e (K.inj hx (e1 ▸ hkey))
      rw [Maps.sameKey_ne hne]
      simp [e, hx3]
end
/-! Worlds that differ in one map alone. -/
theorem gb_refl (w : World) (row : Option Nat) : w.grownBy w row := ⟨rfl, rfl, rfl, Nat.le_refl _, fun _ _ _ => rfl⟩
theorem gb_iterAt (w : World) (k : Nat) (s : ByteArray) (pos : Nat) : w.grownBy (w.iterAt k s pos) (some k) := ⟨rfl, rfl, rfl, by rw [Lib.iterAt_size]; exact Nat.le_refl _, fun j _ hj => Lib.iterAt_other w k j s pos (fun e => hj (by rw [e]))⟩
/-- Some row, then a block that is new. -/
theorem gb_new {a b c : World} {row : Option Nat} {k : Nat} (h : a.grownBy b row) (h2 : b.grownBy c (some k)) (hk : a.heap.size ≤ k) : a.grownBy c row := h.andThen h2 (fun _ e => by cases e; exact Or.inl hk)
theorem gb_same {a b c : World} {row : Option Nat} (h : a.grownBy b row) (h2 : b.grownBy c row) : a.grownBy c row := h.andThen h2 (fun _ e => Or.inr e)
theorem gb_none {a b c : World} {row : Option Nat} (h : a.grownBy b row) (h2 : b.grownBy c none) : a.grownBy c row := h.andThen h2 (fun _ e => nomatch e)
theorem gb_cell {w w' : World} {row : Option Nat} (hg : w.grownBy w' row) {a : Addr} (hlt : a.block < w.heap.size) (hne : some a.block ≠ row) : w'.cell? a = w.cell? a := World.cell?_of_block (hg.block _ hlt hne)
theorem gb_frozen {w w' : World} {row : Option Nat} (hg : w.grownBy w' row) {a : Addr} (hlt : a.block < w.heap.size) (hne : some a.block ≠ row) : w'.frozen? a = w.frozen? a := World.frozen?_of_block (hg.block _ hlt hne)
theorem gb_below {w w' : World} {b : Nat} (h : w.grownBy w' (some b)) (n : Nat) (hn : n ≤ b) (hn2 : n ≤ w.heap.size) : Below n w w' := ⟨h.os, h.tape, h.output, h.size, fun k hk => h.block k (by omega) (fun e => by cases e; omega)⟩
/-! At the operation, for the walk. -/
section
variable {P : Program} (w : World) {ops : Array Oper} {rest : List Oper} {o : Oper} {a : Act} {Q : Exit → Act → World → Prop}
theorem wpList_store_f (hg : o.guard = none) (m x v : Operand) (t : TypeId) (hop : o.op = Op.mapUpdate t m x v) (k e : TypeId) (K : Keyed P k) (ht : P.underlying t = some (.map k e)) (ok : Value → Bool) (b n : Nat) (f : Value → Option Value)
    (hm : a.eval m = .map (some b)) (h : MapF P k ok w b n f) (hn : n < maxLen) (key val : Value) (kl : Lit) (hx : a.eval x = key) (hv : a.eval v = val) (hkey : keyOf P k key = some kl) (hval : ok val = true)
    (hK : ∀ w', MapF P k ok w' b (n + 1) (updF f key val) → w.mapTurned w' b → wpList P ops Q rest (a.put o.dst undef) w') : wpList P ops Q (o :: rest) a w := by
  refine wpList_plain hg fun K' hK' => ?_
  obtain ⟨w', hrun, r1, r2⟩ := h.store K ht hn hkey hval
  unfold Oper.wp
  simp [execOp, hop, hm, hx, hv, hrun, Result.andThen]
  exact hK' _ _ (hK w' r1 r2)
theorem wpList_insert_f (hg : o.guard = none) (m x v : Operand) (t : TypeId) (hop : o.op = Op.insert t m x v) (k e : TypeId) (K : Keyed P k) (ht : P.underlying t = some (.map k e)) (ok : Value → Bool) (b n : Nat) (f : Value → Option Value)
    (hm : a.eval m = .map (some b)) (h : MapF P k ok w b n f) (hn : n < maxLen) (key val : Value) (kl : Lit) (hx : a.eval x = key) (hv : a.eval v = val) (hkey : keyOf P k key = some kl) (hval : ok val = true)
    (hK : ∀ w', MapF P k ok w' b (n + 1) (updF f key val) → w.mapTurned w' b → wpList P ops Q rest (a.put o.dst undef) w') : wpList P ops Q (o :: rest) a w := by
  refine wpList_plain hg fun K' hK' => ?_
  obtain ⟨w', hrun, r1, r2⟩ := h.store K ht hn hkey hval
  unfold Oper.wp
  simp [execOp, hop, hm, hx, hv, hrun, Result.andThen]
  exact hK' _ _ (hK w' r1 r2)
theorem wpList_look_f (hg : o.guard = none) (m x : Operand) (t : TypeId) (hop : o.op = Op.lookup t m x true) (k e : TypeId) (K : Keyed P k) (ht : P.underlying t = some (.map k e)) (ok : Value → Bool) (b n : Nat) (f : Value → Option Value)
    (hm : a.eval m = .map (some b)) (h : MapF P k ok w b n f) {z : Value} (hz : (zeroValue e).run P w = .ok z w) (hzo : ok z = true) (key : Value) (kl : Lit) (hx : a.eval x = key) (hkey : keyOf P k key = some kl) (r : Option Value) (hr : f key = r)
    (hK : wpList P ops Q rest (a.put o.dst (.tuple #[r.getD z, .bool r.isSome])) w) : wpList P ops Q (o :: rest) a w := by
  refine wpList_plain hg fun K' hK' => ?_
  have hrun := h.look K ht hz hzo hkey
  rw [hr] at hrun
  unfold Oper.wp
  simp [execOp, hop, hm, hx, hrun, Result.andThen]
  exact hK' _ _ hK
theorem wpList_range_f (hg : o.guard = none) (m : Operand) (t : TypeId) (hop : o.op = Op.range t m) (k e : TypeId) (K : Keyed P k) (ht : P.underlying t = some (.map k e)) (ok : Value → Bool) (b n : Nat) (f : Value → Option Value)
    (hm : a.eval m = .map (some b)) (h : MapF P k ok w b n f)
    (hK : ∀ w' cnt, RangeF P k ok w' b w.heap.size n f (fun x => f x ≠ none) cnt → cnt ≤ n → w.grownBy w' none → w'.heap.size = w.heap.size + 1 → wpList P ops Q rest (a.put o.dst (.pointer (some ⟨w.heap.size, 0, none⟩))) w') :
    wpList P ops Q (o :: rest) a w := by
  refine wpList_plain hg fun K' hK' => ?_
  obtain ⟨w', cnt, hrun, r1, r2, r3, r4⟩ := h.range K ht
  unfold Oper.wp
  simp [execOp, hop, hm, hrun, Result.andThen]
  exact hK' _ _ (hK w' cnt r1 r2 r3 r4)
theorem wpList_next_f {α β : Type} (hg : o.guard = none) (it : Operand) (hop : o.op = Op.next it false) (k : TypeId) (K : Keyed P k) (ok : Value → Bool) (mkK : α → Value) (mkV : β → Value)
    (invK : ∀ key kl, keyOf P k key = some kl → ∃ x, key = mkK x) (invV : ∀ v, ok v = true → ∃ c, v = mkV c) (b r n : Nat) (f : Value → Option Value) (left : Value → Prop) (cnt : Nat)
    (hit : a.eval it = .pointer (some ⟨r, 0, none⟩)) (h : RangeF P k ok w b r n f left cnt)
    (hDone : cnt = 0 → (∀ key kl, keyOf P k key = some kl → ¬ left key) → wpList P ops Q rest (a.put o.dst (.tuple #[.bool false])) w)
    (hMore : ∀ (x : α) (c : β) (kl : Lit) (w' : World) (cnt' : Nat), keyOf P k (mkK x) = some kl → left (mkK x) → ok (mkV c) = true → f (mkK x) = some (mkV c) → RangeF P k ok w' b r n f (fun z => left z ∧ z ≠ mkK x) cnt' → cnt' < cnt →
      w.grownBy w' (some r) → w'.heap.size = w.heap.size → (Instr.entry (.pointer (some ⟨r, 0, none⟩))).run P w' = .ok (.tuple #[mkK x, mkV c]) w' → wpList P ops Q rest (a.put o.dst (.tuple #[.bool true, mkK x, mkV c])) w') :
    wpList P ops Q (o :: rest) a w := by
  refine wpList_plain hg fun K' hK' => ?_
  unfold Oper.wp
  rcases h.next K o.type with ⟨h0, hl, hrun⟩ | ⟨key, v, kl, w', cnt', hkey, hlk, hok, hf, hrun, hrg, hlt, hgr, hsz, hen⟩
  · simp [execOp, hop, hit, hrun, Result.andThen]
    exact hK' _ _ (hDone h0 hl)
  · obtain ⟨x, rfl⟩ := invK key kl hkey
    obtain ⟨c, rfl⟩ := invV v hok
    simp [execOp, hop, hit, hrun, Result.andThen]
    exact hK' _ _ (hMore x c kl w' cnt' hkey hlk hok hf hrg hlt hgr hsz hen)
end
end Go.Proofs.YtbhafhbaldddiaaGreatDoor
