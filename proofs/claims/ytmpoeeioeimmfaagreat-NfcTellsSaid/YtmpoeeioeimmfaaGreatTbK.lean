/- The keys of the program's two maps, sorted: over the shelf's contracts. -/
import Derived.Test.YtmpoeeioeimmfaaGreatTbI
import Derived.Test.YtmpoeeioeimmfaaGreatIter
namespace Go.Proofs.YtmpoeeioeimmfaaGreat
open Go.RowKit Go.Maps Go.Sort Go.Shelf
open Go Go.Proofs
set_option linter.unusedVariables false
theorem keys_of {ok : Value → Bool} {w : World} {b n : Nat} {f : Value → Option Value} (h : MapF Tryz.prog 3 ok w b n f) (K : List Int) (hnd : K.Nodup) (hw : ∀ x ∈ K, (Lit.int .i64 x).wf = true) (hin : ∀ x ∈ K, ∃ v, f (.int .i64 x) = some v) (hout : ∀ x, (f (.int .i64 x)).isSome = true → x ∈ K) :
    ∃ D : DataW Value, w.ownsMap Tryz.prog 3 (heldElem ok) b n D ∧ K.Perm (intKeys D) ∧ Maps.size D = K.length := by
  obtain ⟨D, hown, hT⟩ := h
  obtain ⟨es, hD, hpw, _⟩ := hown.entries ki
  obtain ⟨es', hD', hko⟩ := hown.keysOf
  obtain rfl : es = es' := by rw [hD] at hD'; simpa using hD'
  have hint : ∀ p ∈ es, ∃ x, p.1 = .int .i64 x ∧ (Lit.int .i64 x).wf = true := fun p hp => by
    obtain ⟨v, hv⟩ := hko p hp
    obtain ⟨x, _, hx, hwf⟩ := Maps.keyOf_i64 Tryz.underlying3 hv
    exact ⟨x, hx, hwf⟩
  have hkey : ∀ x : Int, (Lit.int .i64 x).wf = true → keyOf Tryz.prog 3 (.int .i64 x) = some (.int .i64 x) := fun x hx => by
    simp [keyOf, Tryz.underlying3, mapKey, hx]
  have hmem : ∀ x, x ∈ K ↔ has (.map es) (.int .i64 x) = true := fun x => by
    constructor
    · intro hx
      obtain ⟨v, hv⟩ := hin x hx
      have := ((hT (.int .i64 x) _ (hkey x (hw x hx))).2 v hv).1
      rw [hD] at this
      exact this
    · intro hx
      have hwf : (Lit.int .i64 x).wf = true := by
        rw [has_eq, List.any_eq_true] at hx
        obtain ⟨p, hp, hs⟩ := hx
        obtain ⟨y, hy, hyw⟩ := hint p hp
        rw [hy] at hs
        have : y = x := by simpa [Lit.sameKey] using hs
        rw [← this]; exact hyw
      apply hout
      cases hf : f (.int .i64 x) with
      | some v => rfl
      | none =>
        have := (hT (.int .i64 x) _ (hkey x hwf)).1 hf
        rw [hD] at this
        rw [this] at hx
        cases hx
  have hp : K.Perm (intKeys (.map es : DataW Value)) := perm_intKeys hpw (fun p hp => by obtain ⟨x, hx, _⟩ := hint p hp; exact ⟨x, hx⟩) hnd hmem
  subst hD
  refine ⟨_, hown, hp, ?_⟩
  have := hp.length_eq
  rw [this]
  show es.length = (es.map _).length
  rw [List.length_map]
/-- slices.Sort's two contracts at this seat, at the fence that asks nothing. -/
theorem sortsA (m : Nat) : AnyZI.SortsIn Tryz.prog Tryz.sortedA_ren Fence.wide m :=
  ⟨fun blk off cap ss W hH hblk hsz => callsIn_wide.2 (AnyM.slices_Sort_int Tryz.sortA blk off cap ss W hH hblk hsz),
   fun p cap W => callsIn_wide.2 (AnyM.slices_Sort_int_none Tryz.sortA p cap W)⟩
theorem keysA_any (mb : Option Nat) (W : World) : Calls Tryz.prog 67 #[.map mb] W fun e w' => e = .returned (.func (.func 83) #[] #[.pointer (some ⟨W.heap.size, 0, none⟩)]) ∧ w' = W.alloc (.cells #[.map mb] 70) :=
  callsIn_wide.1 (AnyZI.keys_in Tryz.keysA Fence.wide 5 trivial rfl mb W)
theorem keysB_any (mb : Option Nat) (W : World) : Calls Tryz.prog 68 #[.map mb] W fun e w' => e = .returned (.func (.func 84) #[] #[.pointer (some ⟨W.heap.size, 0, none⟩)]) ∧ w' = W.alloc (.cells #[.map mb] 74) :=
  callsIn_wide.1 (AnyZI.keys_in Tryz.keysB Fence.wide 5 trivial rfl mb W)
def SrtPost (K : List Int) (w : World) (e : Ending) (w' : World) : Prop := ∃ v, e = .returned v ∧ w'.ownsRow w.heap.size 3 1 v K.length (K.map encZ) ∧ Below w.heap.size w w'
theorem SrtPost.of {K ss : List Int} {D : DataW Value} {w W : World} {v : Value} (hp : K.Perm (intKeys D)) (hs : ss.Perm (intKeys D)) (hK : K.mergeSort leI = K) (hrow : W.ownsRow (w.heap.size + 1) 3 1 v ss.length ((ss.mergeSort (fun x y => decide (x ≤ y))).map encZ)) : W.ownsRow w.heap.size 3 1 v K.length (K.map encZ) := by
  have h1 : ss.mergeSort (fun x y => decide (x ≤ y)) = K := by
    have : ss.mergeSort leI = K.mergeSort leI := mergeSort_of_perm_i (hs.trans hp.symm)
    rw [hK] at this
    exact this
  rw [h1] at hrow
  have h2 : ss.length = K.length := (hs.trans hp.symm).length_eq
  rw [h2] at hrow
  exact own_base hrow (by omega)
set_option maxHeartbeats 1000000 in
theorem sortedA_any {ok : Value → Bool} {w : World} {b n : Nat} {f : Value → Option Value} (h : MapF Tryz.prog 3 ok w b n f) (K : List Int) (hlen : K.length ≤ 1000) (hK : K.mergeSort leI = K) (hnd : K.Nodup) (hw : ∀ x ∈ K, (Lit.int .i64 x).wf = true) (hin : ∀ x ∈ K, ∃ v, f (.int .i64 x) = some v) (hout : ∀ x, (f (.int .i64 x)).isSome = true → x ∈ K) :
    Calls Tryz.prog 66 #[.func (.func 83) #[] #[.pointer (some ⟨w.heap.size, 0, none⟩)]] (w.alloc (.cells #[.map (some b)] 70)) (SrtPost K w) := by
  obtain ⟨D, hown, hp, hsz⟩ := keys_of h K hnd hw hin hout
  have hbl := hown.lt
  have hmax : Maps.size D ≤ maxLen := by rw [hsz]; unfold maxLen; omega
  have hbytes : Maps.size D * 8 ≤ 140737488355328 := by rw [hsz]; omega
  have hseq : SeqGives Fence.wide 2 Tryz.prog 83 #[.pointer (some ⟨w.heap.size, 0, none⟩)] encZ (fun ss => ss.Perm (intKeys D)) (Maps.size D) (w.alloc (.cells #[.map (some b)] 70)) :=
    AnyZI.keys_gives (ρ := Tryz.keysA_ren) { Tryz.keysA with } Fence.wide _ trivial rfl (by omega) w.heap.size b n D _ (by simp) (by simp) (by
      obtain ⟨es, clock, hb, Ft, hs, hD⟩ := hown
      exact ⟨es, clock, (Below.heap_alloc _ _ b hbl).trans hb, Ft, hs, hD⟩)
  have cS := AnyZI.sorted_in Tryz.sortedA Fence.wide 5 trivial trivial trivial trivial rfl (by omega) (sortsA _) (enters_of Tryz.func82 (by kernel_rfl) rfl) 83 #[.pointer (some ⟨w.heap.size, 0, none⟩)] trivial (enters_of Tryz.func83 (by kernel_rfl) rfl) _ _ hmax hbytes _ hseq
  refine (callsIn_wide.1 cS).mono ?_
  rintro e w' ⟨v, ss, rfl, hS, hrow, -, hb⟩
  exact ⟨v, rfl, SrtPost.of hp hS hK (by have h9 := hrow; rw [World.alloc, Array.size_push] at h9; exact h9), ((Below.refl _ w).alloc (Nat.le_refl _) _).trans (hb.mono (by simp))⟩
set_option maxHeartbeats 1000000 in
theorem sortedB_any {ok : Value → Bool} {w : World} {b n : Nat} {f : Value → Option Value} (h : MapF Tryz.prog 3 ok w b n f) (K : List Int) (hlen : K.length ≤ 1000) (hK : K.mergeSort leI = K) (hnd : K.Nodup) (hw : ∀ x ∈ K, (Lit.int .i64 x).wf = true) (hin : ∀ x ∈ K, ∃ v, f (.int .i64 x) = some v) (hout : ∀ x, (f (.int .i64 x)).isSome = true → x ∈ K) :
    Calls Tryz.prog 66 #[.func (.func 84) #[] #[.pointer (some ⟨w.heap.size, 0, none⟩)]] (w.alloc (.cells #[.map (some b)] 74)) (SrtPost K w) := by
  obtain ⟨D, hown, hp, hsz⟩ := keys_of h K hnd hw hin hout
  have hbl := hown.lt
  have hmax : Maps.size D ≤ maxLen := by rw [hsz]; unfold maxLen; omega
  have hbytes : Maps.size D * 8 ≤ 140737488355328 := by rw [hsz]; omega
  have hseq : SeqGives Fence.wide 2 Tryz.prog 84 #[.pointer (some ⟨w.heap.size, 0, none⟩)] encZ (fun ss => ss.Perm (intKeys D)) (Maps.size D) (w.alloc (.cells #[.map (some b)] 74)) :=
    AnyZI.keys_gives (ρ := Tryz.keysB_ren) { Tryz.keysB with } Fence.wide _ trivial rfl (by omega) w.heap.size b n D _ (by simp) (by simp) (by
      obtain ⟨es, clock, hb, Ft, hs, hD⟩ := hown
      exact ⟨es, clock, (Below.heap_alloc _ _ b hbl).trans hb, Ft, hs, hD⟩)
  have cS := AnyZI.sorted_in Tryz.sortedA Fence.wide 5 trivial trivial trivial trivial rfl (by omega) (sortsA _) (enters_of Tryz.func82 (by kernel_rfl) rfl) 84 #[.pointer (some ⟨w.heap.size, 0, none⟩)] trivial (enters_of Tryz.func84 (by kernel_rfl) rfl) _ _ hmax hbytes _ hseq
  refine (callsIn_wide.1 cS).mono ?_
  rintro e w' ⟨v, ss, rfl, hS, hrow, -, hb⟩
  exact ⟨v, rfl, SrtPost.of hp hS hK (by have h9 := hrow; rw [World.alloc, Array.size_push] at h9; exact h9), ((Below.refl _ w).alloc (Nat.le_refl _) _).trans (hb.mono (by simp))⟩
end Go.Proofs.YtmpoeeioeimmfaaGreat
