/-
  What is proved: append, copy, clear. No condition.
-/
import Derived.Test.YtpdmljkmfdkfgaaGreatEvI
import Derived.Deep.AppendSrc
import Derived.Laws.AppendOwn
namespace Go.Ev

section
variable {W : World} {om : OM} {P : Program} {ρ ρ' : Rho} {h h' : Hp} {w w' : World} {t : TT} {a : Act}

/-! ### what is appended, or copied -/
theorem srcLen_rel {x : AV} {n : Nat} {X : Value} (h : srcLen x = some n) (r : VRel ρ x X) : ∀ (P : Program) (w : World), (Builtin.lenOf X).run P w = .ok n w := by
  unfold srcLen at h
  split at h
  · obtain ⟨b, rfl, hb⟩ := r
    injection h with h
    intro P w
    rw [← h, strs_eq hb]
    rfl
  · obtain ⟨ad, c, rfl⟩ := slLen_rel h r
    intro P w
    rfl

theorem bytes_take {b : ByteArray} {s : List Nat} {n : Nat} (h : b.data.toList.map UInt8.toNat = s) : (b.extract 0 n).data.toList.map UInt8.toNat = s.take n := by
  rw [← h, ByteArray.data_extract, Array.toList_extract, ← List.map_take]
  congr 1

theorem srcCells_rel (r : HRel W om ρ h w) {sz n m : Nat} {x : AV} {X : Value} {vs : List AV} (hc : srcCells om h sz n x = .yes vs) (hl : srcLen x = some m) (hnm : n ≤ m) (hx : VRel ρ x X) :
    ∃ l : List Value, VRelL ρ vs l ∧ l.length = n * sz ∧ ∀ P d, (Builtin.firstCells sz n X).run P { w with drawn := d } = .ok l.toArray { w with drawn := d } := by
  unfold srcCells at hc
  split at hc
  · injection hc with hc; subst hc
    have ex : X = .slice none 0 0 := hx
    subst ex
    simp only [srcLen, slLen] at hl
    injection hl with hl
    have : n = 0 := by omega
    subst this
    exact ⟨[], rfl, by simp, fun P d => by simp [Builtin.firstCells]⟩
  · rename_i s
    cases hs : Nat.beq sz 1 with
    | false => rw [hs] at hc; cases hc
    | true =>
      rw [hs] at hc
      injection hc with hc; subst hc
      have hs := beq_iff.1 hs
      subst hs
      obtain ⟨b, rfl, hb⟩ := hx
      simp only [srcLen] at hl
      injection hl with hl
      refine ⟨_, byteVals_rel (bytes_take (n := n) hb), ?_, fun P d => ?_⟩
      · have := congrArg List.length (bytes_take (n := n) hb)
        simp only [List.length_map, List.length_take] at this ⊢
        omega
      · simp only [Builtin.firstCells, Sem.run_pure]
        congr 1
        apply Array.ext'
        simp
  · split at hc
    · rename_i b off len hp
      obtain ⟨ad, c, rfl, hpl⟩ := slPlace_rel hp hx
      have hlm : m = len := by
        unfold srcLen at hl
        split at hl
        · simp [slPlace] at hp
        · rename_i hne
          unfold slPlace at hp
          split at hp
          · simp only [slLen] at hl; injection hl with hl; injection hp with hp; injection hp with _ hp; injection hp with _ hp; omega
          · simp only [slLen] at hl; injection hl with hl; injection hp with hp; injection hp with _ hp; injection hp with _ hp; omega
          · cases hp
      rcases Nat.eq_zero_or_pos len with e0 | e0
      · have : n = 0 := by omega
        subst this
        rw [Nat.zero_mul] at hc
        obtain ⟨h1, _⟩ := hGetN_yes hc
        have : vs = [] := by cases vs with | nil => rfl | cons => simp at h1
        subst this
        exact ⟨[], rfl, by simp, fun P d => by simp [Builtin.firstCells, loadCells, loadCellsFrom]⟩
      · obtain ⟨l, h1, h2, h3, h4⟩ := hGetN_rel r hc (hpl e0)
        exact ⟨l, h1, h2, fun P d => by
          have := run_loadCells_list (P := P) { w with drawn := d } ad l h3
          rw [h2] at this
          simp [Builtin.firstCells, this]⟩
    · cases hc

/-! ### append, run -/
/-- How an append runs: what is appended being 'l', of 'n' elements. -/
structure AppRuns (P : Program) (t u ty e : TypeId) (X : Value) (n sz bytes : Nat) (l : List Value) (z : Value) (w : World) : Prop where
  none_ : n = 0 → ∀ (base : Option Addr) (sLen sCap : Nat), sLen ≤ sCap → (Builtin.append_ #[t, u] ty #[.slice base sLen sCap, X]).run P w = .ok (.slice base sLen sCap) w
  room : ∀ (ad : Addr) (sLen sCap : Nat) (w' : World), sLen + n ≤ sCap → (storeCells (ad.add (sLen * sz)) l).run P w = .ok () w' →
    (Builtin.append_ #[t, u] ty #[.slice (some ad) sLen sCap, X]).run P w = .ok (.slice (some ad) (sLen + n) sCap) w'
  grow : ∀ (base : Option Addr) (sLen sCap : Nat) (olds : List Value), (Builtin.firstCells sz sLen (.slice base sLen sCap)).run P w.drew = .ok olds.toArray w.drew → sCap < sLen + n → sLen + n < 1073741824 →
    (Builtin.append_ #[t, u] ty #[.slice base sLen sCap, X]).run P w = .ok (.slice (some ⟨w.heap.size, 0, none⟩) (sLen + n) (grownCap w (sLen + n) sCap e))
      (w.drew.alloc (.cells ((olds ++ l).toArray ++ Builtin.zeroCells z.cells (grownCap w (sLen + n) sCap e - (sLen + n))) e))

theorem next_small {need old bytes : Nat} (h1 : old < need) (h2 : need < 1073741824) (h3 : bytes < 1024) : Builtin.nextslicecap need old * bytes ≤ 281474976710656 := by
  have key : ∀ (r c : Nat), c < 2 * need + 768 → Builtin.growBy need r c < 2 * need + 768 := by
    intro r
    induction r with
    | zero => intro c hc; exact hc
    | succ r ih =>
      intro c hc
      unfold Builtin.growBy
      split
      · exact hc
      · exact ih _ (by omega)
  have h4 : Builtin.nextslicecap need old ≤ 2 * need + 768 := by
    unfold Builtin.nextslicecap
    split
    · omega
    · split
      · omega
      · exact Nat.le_of_lt (key 4 old (by omega))
  calc Builtin.nextslicecap need old * bytes ≤ (2 * need + 768) * bytes := Nat.mul_le_mul_right _ h4
    _ ≤ 2147484416 * 1024 := Nat.mul_le_mul (by omega) (by omega)
    _ ≤ 281474976710656 := by omega

theorem appRuns_src {t u ty e : TypeId} {X : Value} {n sz bytes : Nat} {l : List Value} {z : Value} {i : TypeInfo} (ht : P.underlying t = some (.slice e)) (hu : (∃ e', P.underlying u = some (.slice e')) ∨ P.underlying u = some .string)
    (hi : P.info? e = some i) (hz : i.zero = some z) (hs : i.size = sz) (hb : i.bytes = bytes) (hby : bytes < 1024) (hlen : ∀ w, (Builtin.lenOf X).run P w = .ok n w) (hl : l.length = n * sz)
    (hc : (Builtin.firstCells sz n X).run P w = .ok l.toArray w) (hcD : (Builtin.firstCells sz n X).run P w.drew = .ok l.toArray w.drew) : AppRuns P t u ty e X n sz bytes l z w := by
  subst hs hb
  refine ⟨fun hn base sLen sCap hle => ?_, fun ad sLen sCap w' hroom hst => ?_, fun base sLen sCap olds hold hg hsm => ?_⟩
  · subst hn
    have : l = [] := by cases l with | nil => rfl | cons => simp at hl
    subst this
    rcases hu with ⟨e', hk⟩ | hk <;>
      (simp [Builtin.append_, run_underlying ht, run_underlying hk, sizeOf, typeInfo, hi, hlen, hle, hc]
       cases base <;> simp [storeCells])
  · rcases hu with ⟨e', hk⟩ | hk <;> simp [Builtin.append_, run_underlying ht, run_underlying hk, sizeOf, typeInfo, hi, hlen, hroom, hc, hst]
  · have hn : ¬ (sLen + n ≤ sCap) := by omega
    have h63' : ¬ (9223372036854775807 < ((sLen : Int) + (n : Int))) := by omega
    have h48' : ¬ (281474976710656 < Builtin.nextslicecap (sLen + n) sCap * i.bytes) := by have := next_small hg hsm hby; omega
    rcases hu with ⟨e', hk⟩ | hk <;>
      (simp [Builtin.append_, run_underlying ht, run_underlying hk, sizeOf, typeInfo, zeroValue, hi, hz, hlen, hn, h63', h48', Question.forced, hcD, hold, newRow, grownCap]
       congr 2
       apply Array.ext'
       simp [List.append_assoc])

theorem appRuns_zeros {t u ty e : TypeId} {n sz bytes : Nat} {l : List Value} {z : Value} {i : TypeInfo} {kq kn : IntKind} (ht : P.underlying t = some (.slice e)) (hu : P.underlying u = some (.int kn))
    (hi : P.info? e = some i) (hz : i.zero = some z) (hs : i.size = sz) (hb : i.bytes = bytes) (hby : bytes < 1024) (hn : n < 1073741824) (hsz : 0 < sz) (hl : l = (Builtin.zeroCells z.cells n).toList) :
    AppRuns P t u ty e (.int kq n) n sz bytes l z w := by
  subst hs hb
  have hw : IntKind.i64.wrap (n : Int) = n := by rw [IntKind.wrap_i64]; omega
  have h48i : ¬ (281474976710656 < (n : Int) * (i.bytes : Int)) := by
    have h1 : n * i.bytes ≤ 1073741824 * 1024 := Nat.mul_le_mul (by omega) (by omega)
    have h2 := Int.ofNat_le.2 h1
    rw [Int.natCast_mul] at h2
    omega
  have hneg : ¬ ((n : Int) < 0) := by omega
  have hz0 : (Builtin.zeroCells z.cells 0) = #[] := by unfold Builtin.zeroCells; simp
  refine ⟨fun hn base sLen sCap hle => ?_, fun ad sLen sCap w' hroom hst => ?_, fun base sLen sCap olds hold hg hsm => ?_⟩
  · have h0 : n * i.size = 0 := by rw [hn]; simp
    have e : sLen + n = sLen := by omega
    cases base <;> simp [Builtin.append_, run_underlying ht, run_underlying hu, sizeOf, typeInfo, hi, hle, asInt, asIntOf, hw, hneg, h48i, h0, e, storeCells]
  · by_cases h0 : n = 0
    · have hns : n * i.size = 0 := by rw [h0]; simp
      rw [h0, hz0] at hl
      subst hl
      have hw' : w' = w := by simpa [storeCells] using hst.symm
      subst hw'
      simp [Builtin.append_, run_underlying ht, run_underlying hu, sizeOf, typeInfo, hi, hroom, asInt, asIntOf, hw, hneg, h48i, hns, storeCells]
    · have hns : ¬ (n * i.size = 0) := Nat.mul_ne_zero h0 (by omega)
      subst hl
      simp [Builtin.append_, run_underlying ht, run_underlying hu, sizeOf, typeInfo, zeroValue, hi, hz, hroom, asInt, asIntOf, hw, hneg, hns, h48i, hst]
  · have h0 : n = 0 ∨ n ≠ 0 := by omega
    have hn' : ¬ (sLen + n ≤ sCap) := by omega
    have h63' : ¬ (9223372036854775807 < ((sLen : Int) + (n : Int))) := by omega
    have h48' : ¬ (281474976710656 < Builtin.nextslicecap (sLen + n) sCap * i.bytes) := by have := next_small hg hsm hby; omega
    rcases h0 with h0 | h0
    · have hns : n * i.size = 0 := by rw [h0]; simp
      rw [h0, hz0] at hl
      subst hl
      simp [hns, Builtin.append_, run_underlying ht, run_underlying hu, sizeOf, typeInfo, zeroValue, hi, hz, asInt, asIntOf, hw, hneg, h63', h48', h48i, hn', Question.forced, hold, newRow, grownCap]
    · have hns : ¬ (n * i.size = 0) := Nat.mul_ne_zero h0 (by omega)
      subst hl
      simp [Builtin.append_, run_underlying ht, run_underlying hu, sizeOf, typeInfo, zeroValue, hi, hz, asInt, asIntOf, hw, hneg, hns, h63', h48', h48i, hn', Question.forced, hold, newRow, grownCap]
      congr 2
      apply Array.ext'
      simp [List.append_assoc]
end
end Go.Ev
