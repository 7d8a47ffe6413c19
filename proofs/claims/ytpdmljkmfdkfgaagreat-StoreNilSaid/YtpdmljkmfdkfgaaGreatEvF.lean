/-
  What is proved: equality, indexes of texts and arrays, lengths, the least and the greatest, composite values: the last of the operations that neither write nor read memory. No condition.
-/
import Derived.Test.YtpdmljkmfdkfgaaGreatEvE
namespace Go.Ev

section
variable {P : Program} {ρ : Rho} {t : TT} {a : Act}

/-! ### equality -/
mutual
theorem eqV_rel (P : Program) (ρ : Rho) : ∀ (d : Nat) (t : TypeId) (x y : AV) (b : Bool) (X Y : Value) (w : World) (D : Nat), eqV P d t x y = .yes b → VRel ρ x X → VRel ρ y Y → d ≤ D →
    (Op.equalIn D t X Y).run P w = .ok b w
  | 0, _, _, _, _, _, _, _, _, h, _, _, _ => by simp [eqV] at h
  | d + 1, t, x, y, b, X, Y, w, D, h, hx, hy, hD => by
    obtain ⟨D, rfl⟩ : ∃ D', D = D' + 1 := ⟨D - 1, by omega⟩
    unfold eqV at h
    split at h
    · rename_i hu
      split at h
      · injection h with h; subst h
        have hx : X = _ := hx
        have hy : Y = _ := hy
        subst hx hy
        exact run_equalIn_bool' w D t _ _ hu
      · cases h
    · rename_i k hu
      split at h
      · rename_i k1 m k2 n
        cases hk : eqK k1 k2 with
        | false => rw [hk] at h; cases h
        | true =>
          rw [hk] at h
          injection h with h; subst h
          have := eqK_iff.1 hk
          subst this
          have hx : X = _ := hx
          have hy : Y = _ := hy
          subst hx hy
          rw [eqI_eq]
          exact run_equalIn_int w D t _ _ _ _ hu
      · cases h
    · rename_i hu
      split at h
      · injection h with h; subst h
        obtain ⟨p, rfl, hp⟩ := hx
        obtain ⟨q, rfl, hq⟩ := hy
        rw [← eqS_bytes hp hq]
        exact run_equalIn_string w D t _ _ hu
      · cases h
    · rename_i e hu
      split at h
      · injection h with h; subst h
        have hx : X = _ := hx
        have hy : Y = _ := hy
        subst hx hy
        simp [Op.equalIn, run_under hu]
      · injection h with h; subst h
        have hx : X = _ := hx
        obtain ⟨ad, rfl, _⟩ := hy
        subst hx
        simp [Op.equalIn, run_under hu]
      · injection h with h; subst h
        have hy : Y = _ := hy
        obtain ⟨ad, rfl, _⟩ := hx
        subst hy
        simp [Op.equalIn, run_under hu]
      · cases h
    · rename_i e hu
      split at h
      · injection h with h; subst h
        have hx : X = _ := hx
        have hy : Y = _ := hy
        subst hx hy
        simp [Op.equalIn, run_under hu]
      · injection h with h; subst h
        have hx : X = _ := hx
        obtain ⟨ad, rfl, _⟩ := hy
        subst hx
        simp [Op.equalIn, run_under hu]
      · injection h with h; subst h
        have hy : Y = _ := hy
        obtain ⟨ad, rfl, _⟩ := hx
        subst hy
        simp [Op.equalIn, run_under hu]
      · injection h with h; subst h
        have hx : X = _ := hx
        obtain ⟨L, c, o, _, _, rfl, _⟩ := hy
        subst hx
        simp [Op.equalIn, run_under hu]
      · injection h with h; subst h
        have hy : Y = _ := hy
        obtain ⟨L, c, o, _, _, rfl, _⟩ := hx
        subst hy
        simp [Op.equalIn, run_under hu]
      · cases h
    · rename_i e e' hu
      split at h
      · injection h with h; subst h
        have hx : X = _ := hx
        have hy : Y = _ := hy
        subst hx hy
        simp [Op.equalIn, run_under hu]
      · injection h with h; subst h
        have hx : X = _ := hx
        obtain ⟨ad, _, rfl⟩ := hy
        subst hx
        simp [Op.equalIn, run_under hu]
      · injection h with h; subst h
        have hy : Y = _ := hy
        obtain ⟨ad, _, rfl⟩ := hx
        subst hy
        simp [Op.equalIn, run_under hu]
      · cases h
    · rename_i e e' e'' hu
      split at h
      · injection h with h; subst h
        have hx : X = _ := hx
        have hy : Y = _ := hy
        subst hx hy
        simp [Op.equalIn, run_under hu]
      · injection h with h; subst h
        have hx : X = _ := hx
        obtain ⟨l, m, rfl, _⟩ := hy
        subst hx
        simp [Op.equalIn, run_under hu]
      · injection h with h; subst h
        have hy : Y = _ := hy
        obtain ⟨l, m, rfl, _⟩ := hx
        subst hy
        simp [Op.equalIn, run_under hu]
      · cases h
    · rename_i fs hu
      split at h
      · rename_i xs ys
        obtain ⟨l, rfl, hl⟩ := hx
        obtain ⟨m, rfl, hm⟩ := hy
        cases hst : P.stoodInHeld t with
        | true => rw [hst] at h; cases h
        | false =>
          rw [hst] at h
          simp only [cond_false] at h
          have hf : P.fieldsOf t = fs := by simp [Program.fieldsOf, hu]
          rw [run_equalIn_struct w D t l.toArray m.toArray (by rw [hf]; exact hu) hst, hf]
          exact eqFs_rel P ρ d fs.toList xs ys b l m w D h hl hm (by omega)
      · cases h
    · rename_i len elem hu
      split at h
      · rename_i xs ys
        obtain ⟨l, rfl, hl⟩ := hx
        obtain ⟨m, rfl, hm⟩ := hy
        split at h
        · rename_i n g hn hg
          obtain ⟨i, hi, hsz⟩ := tySize_info hn
          have hc : P.cellsOf elem = n := by simp [Program.cellsOf, hi, hsz]
          rw [run_equalIn_array w D l.toArray m.toArray hu hi, hc, List.range_eq_range']
          exact eqAs_rel P ρ d elem n g len 0 xs ys b l m w D h hn hg (by simpa using hl) (by simpa using hm) (by omega)
        · cases h
      · cases h
    · cases h
theorem eqFs_rel (P : Program) (ρ : Rho) : ∀ (d : Nat) (fs : List Field) (xs ys : List AV) (b : Bool) (l m : List Value) (w : World) (D : Nat), eqFs P d fs xs ys = .yes b → VRelL ρ xs l → VRelL ρ ys m → d ≤ D →
    (Op.eqFields D l.toArray m.toArray fs).run P w = .ok b w
  | 0, _, _, _, _, _, _, _, _, h, _, _, _ => by simp [eqFs] at h
  | d + 1, [], xs, ys, b, l, m, w, D, h, hx, hy, hD => by
    unfold eqFs at h
    injection h with h; subst h
    simp [Op.eqFields]
  | d + 1, f :: fs, xs, ys, b, l, m, w, D, h, hx, hy, hD => by
    unfold eqFs at h
    cases hname : (f.name == "_") with
    | true => rw [hname] at h; cases h
    | false =>
      rw [hname] at h
      simp only [cond_false] at h
      have hne : f.name ≠ "_" := by simpa using hname
      split at h
      · rename_i n g hn hg
        split at h
        · rename_i as bs has hbs
          split at h
          · rename_i p q hp hq
            obtain ⟨A, hA, rA⟩ := part_rel hn hg has hp hx
            obtain ⟨B, hB, rB⟩ := part_rel hn hg hbs hq hy
            simp only [Op.eqFields, if_pos hne, Sem.run_bind, hA, hB, Result.andThen_ok]
            split at h
            · rename_i hv
              rw [eqV_rel P ρ d f.type p q true A B w D hv rA rB (by omega)]
              simpa using eqFs_rel P ρ d fs xs ys b l m w D h hx hy (by omega)
            · rename_i r hr hv
              have e : eqV P d f.type p q = .yes b := h
              cases b with
              | true => exact absurd e hv
              | false =>
                rw [eqV_rel P ρ d f.type p q false A B w D e rA rB (by omega)]
                simp
          · cases h
        · cases h
      · cases h
theorem eqAs_rel (P : Program) (ρ : Rho) : ∀ (d : Nat) (elem : TypeId) (n : Nat) (g : Bool) (len s : Nat) (xs ys : List AV) (b : Bool) (l m : List Value) (w : World) (D : Nat), eqAs P d elem n g len xs ys = .yes b →
    tySize P elem = some n → tyAgg P elem = some g → VRelL ρ xs (l.drop (s * n)) → VRelL ρ ys (m.drop (s * n)) → d ≤ D →
    (Op.eqItems D elem n l.toArray m.toArray (List.range' s len)).run P w = .ok b w
  | 0, _, _, _, _, _, _, _, _, _, _, _, _, h, _, _, _, _, _ => by simp [eqAs] at h
  | d + 1, elem, n, g, 0, s, xs, ys, b, l, m, w, D, h, hn, hg, hx, hy, hD => by
    unfold eqAs at h
    injection h with h; subst h
    simp [Op.eqItems]
  | d + 1, elem, n, g, len + 1, s, xs, ys, b, l, m, w, D, h, hn, hg, hx, hy, hD => by
    unfold eqAs at h
    split at h
    · rename_i as bs has hbs
      split at h
      · rename_i p q hp hq
        obtain ⟨A, hA, rA⟩ := part_rel (o := 0) hn hg has hp hx
        obtain ⟨B, hB, rB⟩ := part_rel (o := 0) hn hg hbs hq hy
        have shift : ∀ (k : List Value) (w : World), (part elem k.toArray (s * n)).run P w = (part elem (k.drop (s * n)).toArray 0).run P w := by
          intro k w
          unfold part
          simp only [Sem.run_bind, tyAgg_run hg, Result.andThen_ok]
          cases g with
          | true =>
            have := extract_toArray k (s * n) n
            have h2 := extract_toArray (k.drop (s * n)) 0 n
            simp only [Nat.zero_add, List.drop_zero] at h2
            simp only [if_true, Sem.run_bind, run_sz hn, Result.andThen_ok, this, Nat.zero_add, h2]
          | false => simp
        rw [List.range'_succ]
        simp only [Op.eqItems, Sem.run_bind, shift, hA, hB, Result.andThen_ok]
        split at h
        · rename_i hv
          rw [eqV_rel P ρ d elem p q true A B w D hv rA rB (by omega)]
          have hx' : VRelL ρ (dropL n xs) (l.drop ((s + 1) * n)) := by rw [dropL_eq, Nat.succ_mul, ← List.drop_drop]; exact hx.drop n
          have hy' : VRelL ρ (dropL n ys) (m.drop ((s + 1) * n)) := by rw [dropL_eq, Nat.succ_mul, ← List.drop_drop]; exact hy.drop n
          simpa using eqAs_rel P ρ d elem n g len (s + 1) (dropL n xs) (dropL n ys) b l m w D h hn hg hx' hy' (by omega)
        · rename_i r hr hv
          have e : eqV P d elem p q = .yes b := h
          cases b with
          | true => exact absurd e hv
          | false =>
            rw [eqV_rel P ρ d elem p q false A B w D e rA rB (by omega)]
            simp
      · cases h
    · cases h
end

end
end Go.Ev
