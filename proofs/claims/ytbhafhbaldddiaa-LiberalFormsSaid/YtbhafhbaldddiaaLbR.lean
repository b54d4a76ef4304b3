/- What the liberal reader reckons: a reader's steps, a date's second. Plain. -/
import Derived.Test.YtbhafhbaldddiaaLb
import Derived.RowKit
namespace Lb
open Go
def months : List Wd := [[106, 97, 110, 117, 97, 114, 121], [102, 101, 98, 114, 117, 97, 114, 121], [109, 97, 114, 99, 104], [97, 112, 114, 105, 108], [109, 97, 121], [106, 117, 110, 101], [106, 117, 108, 121], [97, 117, 103, 117, 115, 116], [115, 101, 112, 116, 101, 109, 98, 101, 114], [111, 99, 116, 111, 98, 101, 114], [110, 111, 118, 101, 109, 98, 101, 114], [100, 101, 99, 101, 109, 98, 101, 114]]
def days : List Wd := [[109, 111, 110, 100, 97, 121], [116, 117, 101, 115, 100, 97, 121], [119, 101, 100, 110, 101, 115, 100, 97, 121], [116, 104, 117, 114, 115, 100, 97, 121], [102, 114, 105, 100, 97, 121], [115, 97, 116, 117, 114, 100, 97, 121], [115, 117, 110, 100, 97, 121]]
def zones : List (Wd × Int) := [([122], 0), ([117, 116], 0), ([117, 116, 99], 0), ([103, 109, 116], 0), ([101, 100, 116], -4), ([101, 115, 116], -5), ([99, 100, 116], -5), ([99, 115, 116], -6), ([109, 100, 116], -6), ([109, 115, 116], -7), ([112, 100, 116], -7), ([112, 115, 116], -8)]
def isPre : Wd → Wd → Bool
  | [], _ => true
  | _, [] => false
  | a :: p, b :: q => (a == b) && isPre p q
def bgF (names : List Wd) (w : Wd) : Option Nat := names.findIdx? fun n => decide (3 ≤ w.length) && isPre w n
def monF (w : Wd) : Int := match bgF months w with | some i => (i : Int) + 1 | none => 0
def wkB (w : Wd) : Bool := (bgF days w).isSome
def hrF (w : Wd) : Int × Bool := match zones.find? fun p => decide (p.1 = w) with
  | some p => (p.2, true)
  | none => (0, match w with | [c] => srt c == 2 && !(decide (w = [106])) | _ => false)
structure R where
  l : List Wd
  bad : Bool
  y : Int
  mo : Int
  d : Int
  h : Int
  mi : Int
  s : Int
  east : Int
def nx (r : R) : Wd := r.l.headD []
def tl (r : R) : R := { r with l := r.l.tail }
def mkBad (r : R) : R := { r with bad := true }
def dgW (lo hi : Nat) : Wd → Bool
  | [] => false
  | c :: p => decide (lo ≤ p.length + 1) && decide (p.length + 1 ≤ hi) && (srt c == 1)
def dgs (lo hi : Nat) (r : R) : Bool := dgW lo hi (nx r)
def numL (n : Int) (w : Wd) : Int := w.foldl (fun n c => IntKind.i64.wrap (IntKind.i64.wrap (n * 10) + ((c.toNat % 16 : Nat) : Int))) n
def nmV (lo hi : Nat) (r : R) : Int := if dgs lo hi r = true then numL 0 (nx r) else 0
def nmR (lo hi : Nat) (r : R) : R := if dgs lo hi r = true then tl r else mkBad r
def mbB (w : Wd) (r : R) : Bool := decide (nx r = w)
def mbR (w : Wd) (r : R) : R := if nx r = w then tl r else r
def muR (w : Wd) (r : R) : R := if nx r = w then tl r else mkBad r
def sY (v : Int) (r : R) : R := { r with y := v }
def sMo (v : Int) (r : R) : R := { r with mo := v }
def sD (v : Int) (r : R) : R := { r with d := v }
def sH (v : Int) (r : R) : R := { r with h := v }
def sMi (v : Int) (r : R) : R := { r with mi := v }
def sS (v : Int) (r : R) : R := { r with s := v }
def sE (v : Int) (r : R) : R := { r with east := v }
def orB (b : Bool) (r : R) : R := { r with bad := r.bad || b }
def moR (r : R) : R := if monF (nx r) = 0 then mkBad (sMo 0 r) else tl (sMo (monF (nx r)) r)
def wkR (r : R) : R := mbR [44] (if wkB (nx r) = true then tl r else r)
def clB (r : R) : Bool := dgs 1 1048576 r
def cl1 (r : R) : R := sH (nmV 1 2 r) (nmR 1 2 r)
def cl2 (r : R) : R := muR [58] (cl1 r)
def cl3 (r : R) : R := sMi (nmV 2 2 (cl2 r)) (nmR 2 2 (cl2 r))
def cl4 (r : R) : R := sS (nmV 2 2 r) (nmR 2 2 r)
def clR (r : R) : R :=
  if clB r = true then
    if mbB [58] (cl3 r) = true then
      if mbB [46] (cl4 (tl (cl3 r))) = true then nmR 1 1048576 (tl (cl4 (tl (cl3 r)))) else cl4 (tl (cl3 r))
    else cl3 r
  else r
def znF (sg h m : Int) (r : R) : R := sE (sg * (h * 60 + m)) (orB (decide (h > 23) || decide (m > 59)) r)
def znO (sg : Int) (r : R) : R :=
  if dgs 4 4 r = true then znF sg ((nmV 4 4 r) / 100) ((nmV 4 4 r) % 100) (tl r)
  else if mbB [58] (nmR 2 2 r) = true then znF sg (nmV 2 2 r) (nmV 2 2 (tl (nmR 2 2 r))) (nmR 2 2 (tl (nmR 2 2 r)))
  else znF sg (nmV 2 2 r) 0 (nmR 2 2 r)
def znR (r : R) : R :=
  if r.l = [] then r
  else if nx r = [43] then znO 1 (tl r)
  else if nx r = [45] then znO (-1) (tl r)
  else tl (sE ((hrF (nx r)).1 * 60) (orB (!(hrF (nx r)).2) r))
def f1a (r : R) : R := muR [45] (sY (nmV 4 4 r) (nmR 4 4 r))
def f1b (r : R) : R := muR [45] (sMo (nmV 1 2 r) (nmR 1 2 r))
def nmD (r : R) : R := sD (nmV 1 2 r) (nmR 1 2 r)
def nmY (r : R) : R := sY (nmV 4 4 r) (nmR 4 4 r)
def fT (r : R) : R := if mbB [116] r = true then (if dgs 1 1048576 (tl r) = true then tl r else mkBad (tl r)) else r
def fst (r : R) : R := fT (nmD (f1b (f1a r)))
def nmS (r : R) : R := if dgs 2 2 r = true then sY (if 1900 + nmV 2 2 r < 1950 then 2000 + nmV 2 2 r else 1900 + nmV 2 2 r) (nmR 2 2 r) else nmY r
def snd (r : R) : R := nmS (mbR [45] (moR (mbR [45] (nmD (wkR r)))))
def thd (r : R) : R := nmY (mbR [44] (nmD (moR (wkR r))))
def start (l : List Wd) : R := ⟨l, false, 0, 0, 0, 0, 0, 0, 0⟩
def ckz (r : R) : R := if clB r = true then znR (clR r) else r
def okR (r : R) : Bool := !r.bad && decide (r.l = []) && Cv.secOk r.y r.mo r.d r.h r.mi r.s r.east
def resR (r : R) : Option Int := if okR r = true then some (Cv.secV r.y r.mo r.d r.h r.mi r.s r.east) else none
def form (k : Nat) (l : List Wd) : R := ckz (match k with | 0 => fst (start l) | 1 => snd (start l) | _ => thd (start l))
def parseL (l : List Wd) : Option Int := match resR (form 0 l) with
  | some v => some v
  | none => match resR (form 1 l) with
    | some v => some v
    | none => resR (form 2 l)
def parse (s : Wd) : Option Int := parseL (pcs s)
/-- A number of at most four digits is small. -/
theorem numL_bd : ∀ (w : Wd) (n : Int) (k : Nat), 0 ≤ n → n + 1 ≤ (16 : Int) ^ k → k + w.length ≤ 8 → 0 ≤ numL n w ∧ numL n w + 1 ≤ (16 : Int) ^ (k + w.length)
  | [], n, k, h0, h1, _ => ⟨h0, h1⟩
  | c :: w, n, k, h0, h1, h2 => by
    have hp : (16 : Int) ^ (k + 1) = 16 ^ k * 16 := Int.pow_succ _ _
    have hm : (16 : Int) ^ k ≤ 16 ^ 8 := by
      have : k ≤ 8 := by simp at h2; omega
      exact_mod_cast Nat.pow_le_pow_right (by decide : 0 < 16) this
    have hc : c.toNat % 16 < 16 := Nat.mod_lt _ (by decide)
    have e8 : (16 : Int) ^ 8 = 4294967296 := by decide
    have w1 : IntKind.i64.wrap (n * 10) = n * 10 := by simp [IntKind.wrap, IntKind.bits, IntKind.signed]; omega
    have w2 : IntKind.i64.wrap (n * 10 + ((c.toNat % 16 : Nat) : Int)) = n * 10 + ((c.toNat % 16 : Nat) : Int) := by simp [IntKind.wrap, IntKind.bits, IntKind.signed]; omega
    have ih := numL_bd w (n * 10 + ((c.toNat % 16 : Nat) : Int)) (k + 1) (by omega) (by omega) (by simp at h2; omega)
    have e : numL n (c :: w) = numL (n * 10 + ((c.toNat % 16 : Nat) : Int)) w := by
      show numL (IntKind.i64.wrap (IntKind.i64.wrap (n * 10) + _)) w = _
      rw [w1, w2]
    have ek : k + (c :: w).length = k + 1 + w.length := by simp; omega
    rw [e, ek]; exact ih
theorem dgW_len {lo hi : Nat} {w : Wd} (h : dgW lo hi w = true) : lo ≤ w.length ∧ w.length ≤ hi ∧ w ≠ [] := by
  cases w with
  | nil => cases h
  | cons c p => unfold dgW at h; simp at h; simp; omega
theorem nmV_bd (lo hi : Nat) (r : R) (h : hi ≤ 4) : 0 ≤ nmV lo hi r ∧ nmV lo hi r ≤ 65535 := by
  unfold nmV
  split
  · rename_i hd
    obtain ⟨_, h2, _⟩ := dgW_len hd
    obtain ⟨h3, h4⟩ := numL_bd (nx r) 0 0 (by omega) (by decide) (by omega)
    refine ⟨h3, ?_⟩
    have hm : (16 : Int) ^ (0 + (nx r).length) ≤ 16 ^ 4 := by exact_mod_cast Nat.pow_le_pow_right (by decide : 0 < 16) (by omega)
    have e4 : (16 : Int) ^ 4 = 65536 := by decide
    omega
  · omega
end Lb
