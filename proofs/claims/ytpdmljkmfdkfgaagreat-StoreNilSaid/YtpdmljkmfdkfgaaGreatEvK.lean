/-
  What is proved: append, copy, clear, a channel shut, maps: what the abstract heap says of them. No condition.
-/
import Derived.Test.YtpdmljkmfdkfgaaGreatEvJ
namespace Go.Ev

section
variable {W : World} {om : OM} {P : Program} {ρ ρ' : Rho} {h h' : Hp} {w w' : World} {t : TT} {a : Act}

theorem run_loadBlock {b o k : Nat} {cs : Array Value} {ty : TypeId} {fz : Nat × Nat} (hb : w.heap[b]? = some (.cells cs ty fz)) (hle : o + k ≤ cs.size) : ∀ P, (loadCells ⟨b, o, none⟩ k).run P w = .ok ((cs.toList.drop o).take k).toArray w := by
  intro P
  have hlen : ((cs.toList.drop o).take k).length = k := by simp; omega
  have := run_loadCells_list (P := P) w ⟨b, o, none⟩ ((cs.toList.drop o).take k) fun j v hj => by
    have hadd : (⟨b, o, none⟩ : Addr).add j = ⟨b, o + j, none⟩ := by unfold Addr.add; split <;> simp_all
    rw [hadd, World.cell_cells hb]
    rw [List.getElem?_take] at hj
    split at hj
    · rw [List.getElem?_drop, Array.getElem?_toList] at hj; exact hj
    · cases hj
  rw [hlen] at this
  exact this

/-- Where an append goes to a new row. -/
theorem grown_rel (r : HRel W om ρ h w) {sz len n cap : Nat} {e : TypeId} {olds l : List Value} {z : Value} {C : Cells} (ho : olds.length = len * sz) (hl : l.length = n * sz) (hz : z.cells.size = sz) (hn : len + n ≤ cap)
    (hC : ∀ ρ', ρ.le ρ' → ∀ j v, C.get j = .yes v → ∃ x : Value, (olds ++ l)[j]? = some x ∧ VRel ρ' v x) :
    ∃ ρ', Goes W om ρ h w ρ' (h.new (.open_ sz C)) (w.drew.alloc (.cells ((olds ++ l).toArray ++ Builtin.zeroCells z.cells (cap - (len + n))) e)) ∧
      VRel ρ' (.at (.oslice h.nx 0 (len + n) sz)) (.slice (some ⟨w.heap.size, 0, none⟩) (len + n) cap) := by
  have r1 : HRel W om ρ h w.drew := r.drew _
  have hsz : ((olds ++ l).toArray ++ Builtin.zeroCells z.cells (cap - (len + n))).size = cap * sz := by
    rw [Array.size_append, size_zeroCells, hz, List.size_toArray, List.length_append, ho, hl, ← Nat.add_mul, ← Nat.add_mul]
    congr 1; omega
  obtain ⟨ρ', hρ, hg⟩ := Goes.new (o := .open_ sz C) ⟨w.heap.size, 0, cap * sz, sz⟩ r1 (obj := .cells ((olds ++ l).toArray ++ Builtin.zeroCells z.cells (cap - (len + n))) e) rfl fun ρ' hle hi => by
    refine ⟨_, _, _, rfl, .inl rfl, fun j v hj => ?_, hsz, rfl⟩
    obtain ⟨x, h1, h2⟩ := hC ρ' hle j v hj
    refine ⟨x, ?_, h2⟩
    have hj : j < (olds ++ l).length := (List.getElem?_eq_some_iff.1 h1).1
    rw [Nat.add_zero, Array.getElem?_append_left (by simpa using hj)]
    simpa using h1
  refine ⟨ρ', (Goes.drew r _).trans hg, _, cap, 0, hρ, rfl, rfl, hn, by simp, .inr rfl⟩

theorem newOpen_yes {sz len : Nat} {C : Cells} {v : AV} (hh : newOpen sz len C h = .yes v h') : v = .at (.oslice h.nx 0 len sz) ∧ h' = h.new (.open_ sz C) := by
  unfold newOpen at hh
  rw [forceN_eq] at hh
  injection hh with h1 h2
  exact ⟨h1.symm, h2.symm⟩

theorem big_yes {bytes sz need : Nat} (hb : big bytes sz need = true) : need < 1073741824 ∧ bytes < 1024 ∧ 0 < sz := by
  unfold big at hb
  rw [Bool.and_eq_true, Bool.and_eq_true] at hb
  exact ⟨blt_iff.1 hb.1.1, blt_iff.1 hb.1.2, blt_iff.1 hb.2⟩

theorem appendN_rel (r : HRel W om ρ h w) {t u ty e : TypeId} {X : Value} {n sz bytes : Nat} {l : List Value} {z : Value} {s : AV} {S : Value} {new : List AV} {v : AV} (hr : AppRuns P t u ty e X n sz bytes l z w) (hs : VRel ρ s S) (hv : VRelL ρ new l)
    (hl : l.length = n * sz) (hsz : 0 < sz) (hz : z.cells.size = sz) (he : appendN om sz bytes s n new h = .yes v h') :
    ∃ x w' ρ', (Builtin.append_ #[t, u] ty #[S, X]).run P w = .ok x w' ∧ VRel ρ' v x ∧ Goes W om ρ h w ρ' h' w' := by
  have hnl := hv.length
  have hne : n ≠ 0 → new ≠ [] := fun h0 e => by
    rw [e, hl] at hnl
    rcases Nat.mul_eq_zero.1 hnl with c | c <;> omega
  have ofL_new : ∀ ρ', ρ.le ρ' → ∀ j v, (Cells.ofL new).get j = .yes v → ∃ x : Value, (([] : List Value) ++ l)[j]? = some x ∧ VRel ρ' v x := fun ρ' hle j v hj => by
    obtain ⟨x, h1, h2⟩ := hv.get (Cells.ofL_get hj)
    exact ⟨x, by simpa using h1, h2.mono hle⟩
  unfold appendN at he
  split at he
  · -- a nil slice
    have eS : S = .slice none 0 0 := hs
    subst eS
    split at he
    · injection he with e1 e2; subst e1 e2
      exact ⟨_, w, ρ, hr.none_ rfl none 0 0 (Nat.le_refl _), rfl, Goes.refl r⟩
    · rename_i _ hn0
      cases hb : big bytes sz n with
      | false => rw [hb] at he; cases he
      | true =>
        rw [hb] at he
        obtain ⟨e1, e2⟩ := newOpen_yes he
        subst e1 e2
        obtain ⟨b1, _, _⟩ := big_yes hb
        have hn0' : n ≠ 0 := fun e => hn0 e
        have hrun := hr.grow none 0 0 [] (by simp [Builtin.firstCells]) (by omega) (by omega)
        obtain ⟨ρ', hg, hx⟩ := grown_rel r (len := 0) (n := n) (cap := grownCap w (0 + n) 0 e) (e := e) (olds := []) (z := z) (by simp) hl hz (by exact grownCap_ge _ _ _ _) ofL_new
        rw [Nat.zero_add] at hrun hg hx
        exact ⟨_, _, ρ', hrun, hx, hg⟩
  · -- a slice whose capacity is known
    rename_i b off len cap
    obtain ⟨ad, rfl, hp⟩ := hs
    cases hc : Nat.ble (len + n) cap with
    | true =>
      rw [hc] at he
      simp only [cond_true] at he
      have hc := ble_iff.1 hc
      split at he
      · injection he with e1 e2; subst e1 e2
        exact ⟨_, w, ρ, hr.none_ rfl (some ad) len cap (by omega), ⟨ad, rfl, hp⟩, Goes.refl r⟩
      · rename_i _ hn0
        split at he
        · rename_i h2 hput
          rw [forceN_eq] at he
          injection he with e1 e2; subst e1 e2
          obtain ⟨w', h1, h2⟩ := hPutN_rel r hput hp.add hv (hne hn0)
          exact ⟨_, w', ρ, hr.room ad len cap w' hc (h1 P), ⟨ad, rfl, hp⟩, h2⟩
        · cases he
    | false =>
      rw [hc] at he
      simp only [cond_false] at he
      have hc : cap < len + n := by
        rcases Nat.lt_or_ge cap (len + n) with c | c
        · exact c
        · rw [ble_iff.2 c] at hc; cases hc
      cases hb : big bytes sz (len + n) with
      | false => rw [hb] at he; cases he
      | true =>
        rw [hb] at he
        simp only [cond_true] at he
        obtain ⟨b1, _, _⟩ := big_yes hb
        split at he
        · rename_i old hold
          obtain ⟨e1, e2⟩ := newOpen_yes he
          subst e1 e2
          obtain ⟨lo, g1, g2, g3, g4⟩ := hGetN_rel (r.drew (w.drawn + 1)) hold hp
          have hrun := hr.grow (some ad) len cap lo (by simp only [Builtin.firstCells]; exact g4 P) hc b1
          obtain ⟨ρ', hg, hx⟩ := grown_rel r (len := len) (n := n) (cap := grownCap w (len + n) cap e) (e := e) (olds := lo) (l := l) (z := z) (C := Cells.ofL (old ++ new)) g2 hl hz (grownCap_ge _ _ _ _) fun ρ' hle j v hj => by
            obtain ⟨x, h1, h2⟩ := (g1.append hv).get (Cells.ofL_get hj)
            exact ⟨x, h1, h2.mono hle⟩
          exact ⟨_, _, ρ', hrun, hx, hg⟩
        · cases he
  · -- a slice up to its block's end
    rename_i i off len z'
    split at he
    · injection he with e1 e2; subst e1 e2
      obtain ⟨L, c, o, hL, hz', rfl, hc, hrest⟩ := hs
      exact ⟨_, w, ρ, hr.none_ rfl _ len c hc, ⟨L, c, o, hL, hz', rfl, hc, hrest⟩, Goes.refl r⟩
    · rename_i _ hn0
      split at he
      · rename_i zz cc hget
        cases hb : (Nat.beq zz sz && Nat.beq z' sz && big bytes sz (len + n) && flatL new) with
        | false => rw [hb] at he; cases he
        | true =>
          rw [hb] at he
          simp only [cond_true] at he
          rw [Bool.and_eq_true, Bool.and_eq_true, Bool.and_eq_true] at hb
          obtain ⟨⟨⟨q1, q2⟩, q3⟩, q4⟩ := hb
          have q1 := beq_iff.1 q1
          have q2 := beq_iff.1 q2
          subst q1 q2
          obtain ⟨b1, _, _⟩ := big_yes q3
          obtain ⟨L, c, o, hL, hLz, rfl, hc, hfull, hoo⟩ := hs
          obtain ⟨L', obj, e1, hblk, ⟨cs, tyc, fz, rfl, hfz, hCR, hcs, hez⟩, _⟩ := r.objs i _ hget
          rw [hL] at e1; injection e1 with e1; subst e1
          rw [hLz] at hfull
          have hlenle : off + L.sh + len * z' ≤ cs.size := by
            have : len * z' ≤ c * z' := Nat.mul_le_mul_right _ hc
            omega
          have hn1 : n ≠ 0 := fun e => hn0 e
          have hne' := hne hn1
          -- in place
          have place : len + n ≤ c → o = off + L.sh ∧ off + L.sh + (len + n) * z' ≤ cs.size := fun hle => by
            have : (len + n) * z' ≤ c * z' := Nat.mul_le_mul_right _ hle
            refine ⟨?_, by omega⟩
            rcases hoo with h0 | h0
            · omega
            · exact h0
          have hone := flatL_one hv q4
          have sto : len + n ≤ c → ∀ P, (storeCells ((⟨L.blk, o, none⟩ : Addr).add (len * z')) l).run P w = .ok () { w with heap := w.heap.setIfInBounds L.blk (.cells (cs.toList.take (off + L.sh + len * z') ++ l ++ cs.toList.drop (off + L.sh + len * z' + l.length)).toArray tyc fz) } := fun hle P => by
            obtain ⟨p1, p2⟩ := place hle
            have hadd : (⟨L.blk, o, none⟩ : Addr).add (len * z') = ⟨L.blk, off + L.sh + len * z', none⟩ := by rw [p1]; unfold Addr.add; split <;> simp_all
            have h2 : (len + n) * z' = len * z' + n * z' := Nat.add_mul _ _ _
            rw [hadd, run_storeCellsG P L.blk (off + L.sh + len * z') tyc fz l 0 cs w hblk hfz (by omega) hone, setRow_eq hblk]
            rfl
          have hcs' : len + n ≤ c → (cs.toList.take (off + L.sh + len * z') ++ l ++ cs.toList.drop (off + L.sh + len * z' + l.length)).toArray.size = cs.size := fun hle => by
            obtain ⟨p1, p2⟩ := place hle
            have h2 : (len + n) * z' = len * z' + n * z' := Nat.add_mul _ _ _
            simp; omega
          -- memory grown, or turned: the cells of what is new
          have fin : ∀ C : Cells, (∀ j v, C.get j = .yes v → (j < len * z' ∧ cc.get (off + j) = .yes v) ∨ (len * z' ≤ j ∧ new[j - len * z']? = some v)) → h' = (h.del i).new (.open_ z' C) → v = .at (.oslice h.nx 0 (len + n) z') →
              ∃ x w' ρ', (Builtin.append_ #[t, u] ty #[.slice (some ⟨L.blk, o, none⟩) len c, X]).run P w = .ok x w' ∧ VRel ρ' v x ∧ Goes W om ρ h w ρ' h' w' := by
            intro C hC eh ev
            subst eh ev
            rcases Nat.lt_or_ge c (len + n) with hcl | hcl
            · -- a new row
              have r0 : Goes W om ρ h w ρ (h.del i) w := Goes.sub r (fun j o hj => (Hp.get_del_le hj).2) (by simp)
              have hadr : len ≠ 0 → o = off + L.sh := fun h0 => by
                rcases hoo with e0 | e0
                · omega
                · exact e0
              let lo : List Value := (cs.toList.drop (off + L.sh)).take (len * z')
              have hlo : lo.length = len * z' := by simp [lo]; omega
              have hload : (Builtin.firstCells z' len (.slice (some ⟨L.blk, o, none⟩) len c)).run P w.drew = .ok lo.toArray w.drew := by
                simp only [Builtin.firstCells]
                by_cases h0 : len = 0
                · subst h0
                  simp [loadCells, loadCellsFrom, lo]
                · rw [hadr h0]
                  exact run_loadBlock (w := w.drew) (o := off + L.sh) (k := len * z') hblk hlenle P
              have hrun := hr.grow (some ⟨L.blk, o, none⟩) len c lo hload hcl b1
              obtain ⟨ρ', hg, hx⟩ := grown_rel r0.rel (len := len) (n := n) (cap := grownCap w (len + n) c e) (e := e) (olds := lo) (l := l) (z := z) (C := C) hlo hl hz (grownCap_ge _ _ _ _) fun ρ' hle j v hj => by
                rcases hC j v hj with ⟨c1, c2⟩ | ⟨c1, c2⟩
                · obtain ⟨x, h1, h2⟩ := hCR _ v c2
                  refine ⟨x, ?_, h2.mono hle⟩
                  rw [List.getElem?_append_left (by omega)]
                  simp only [lo]
                  rw [List.getElem?_take, if_pos c1, List.getElem?_drop, Array.getElem?_toList, ← h1]
                  congr 1; omega
                · obtain ⟨x, h1, h2⟩ := hv.get c2
                  refine ⟨x, ?_, h2.mono hle⟩
                  rw [List.getElem?_append_right (by omega), hlo]
                  exact h1
              rw [Hp.nx_del] at hx
              exact ⟨_, _, ρ', hrun, hx, r0.trans hg⟩
            · -- in place
              obtain ⟨p1, p2⟩ := place hcl
              have h2 : (len + n) * z' = len * z' + n * z' := Nat.add_mul _ _ _
              have hrun := hr.room ⟨L.blk, o, none⟩ len c _ hcl (sto hcl P)
              obtain ⟨ρ', hρ, hg⟩ := Goes.moved (o := .open_ z' C) (L2 := ⟨L.blk, off + L.sh, L.full, z'⟩) r hget hL rfl rfl (obj := .cells (cs.toList.take (off + L.sh + len * z') ++ l ++ cs.toList.drop (off + L.sh + len * z' + l.length)).toArray tyc fz) fun ρ' hle hi => by
                refine ⟨_, _, _, rfl, by rw [hcs' hcl]; exact hfz, fun j v hj => ?_, by rw [hcs' hcl]; exact hcs, rfl⟩
                have hcl' : cs.toList.length = cs.size := Array.length_toList
                dsimp only
                rcases hC j v hj with ⟨c1, c2⟩ | ⟨c1, c2⟩
                · obtain ⟨x, h1, h2⟩ := hCR _ v c2
                  refine ⟨x, ?_, h2.mono hle⟩
                  rw [List.getElem?_toArray, List.append_assoc, List.getElem?_append_left (by simp; omega), List.getElem?_take, if_pos (by omega), Array.getElem?_toList, ← h1]
                  congr 1; omega
                · obtain ⟨x, h1, h2⟩ := hv.get c2
                  have hjl : j - len * z' < l.length := (List.getElem?_eq_some_iff.1 h1).1
                  refine ⟨x, ?_, h2.mono hle⟩
                  rw [List.getElem?_toArray, List.append_assoc, List.getElem?_append_right (by simp; omega), List.getElem?_append_left (by simp; omega), ← h1]
                  congr 1; simp; omega
              refine ⟨_, _, ρ', hrun, ⟨_, c, o, hρ, rfl, rfl, hcl, by simp; omega, .inr (by simp; omega)⟩, hg⟩
          cases hin : Nat.ble (off + (len + n) * z') cc.size with
          | true =>
            rw [hin] at he
            simp only [cond_true] at he
            have hin := ble_iff.1 hin
            split at he
            · rename_i c' hc'
              rw [forceN_eq] at he
              injection he with e1 e2; subst e1 e2
              have hpos : 0 < cc.size := by
                have : 0 < (len + n) * z' := Nat.mul_pos (by omega) hsz
                omega
              have hlast := hCR.last hpos
              have hle : len + n ≤ c := by
                have : (len + n) * z' ≤ c * z' := by omega
                exact Nat.le_of_mul_le_mul_right this hsz
              obtain ⟨p1, p2⟩ := place hle
              have hput : hPutN h (.n i) (off + len * z') new = .yes (h.set i (.open_ z' c')) := by
                unfold hPutN
                rw [q4]
                simp only [Bool.not_true, cond_false, hget, hc']
              have hpr : PRel ρ (.n i) (off + len * z') ((⟨L.blk, o, none⟩ : Addr).add (len * z')) := by
                refine ⟨L, hL, ?_⟩
                have hadd : (⟨L.blk, o, none⟩ : Addr).add (len * z') = ⟨L.blk, o + len * z', none⟩ := by unfold Addr.add; split <;> simp_all
                rw [hadd, p1]
                congr 1; omega
              obtain ⟨w', h1, h2⟩ := hPutN_rel r hput hpr hv hne'
              exact ⟨_, w', ρ, hr.room _ len c w' hle (h1 P), ⟨L, c, o, hL, hLz, rfl, hle, by rw [hLz]; exact hfull, .inr p1⟩, h2⟩
            · cases he
          | false =>
            rw [hin] at he
            simp only [cond_false] at he
            cases hend : (Nat.beq off 0 && Nat.beq (len * z') cc.size) with
            | true =>
              rw [hend] at he
              simp only [cond_true] at he
              rw [Bool.and_eq_true] at hend
              have k1 := beq_iff.1 hend.1
              have k2 := beq_iff.1 hend.2
              obtain ⟨e1, e2⟩ := newOpen_yes he
              refine fin (cc.pushN new) (fun j v hj => ?_) e2 (by rw [e1, Hp.nx_del])
              rcases Cells.pushN_get hj with ⟨c1, c2⟩ | ⟨c1, c2⟩
              · exact .inl ⟨by omega, by rw [k1, Nat.zero_add]; exact c2⟩
              · exact .inr ⟨by omega, by rw [k2]; exact c2⟩
            | false =>
              rw [hend] at he
              simp only [cond_false] at he
              split at he
              · rename_i old hold
                obtain ⟨e1, e2⟩ := newOpen_yes he
                refine fin (Cells.ofL (old ++ new)) (fun j v hj => ?_) e2 (by rw [e1, Hp.nx_del])
                obtain ⟨k1, k2⟩ := Cells.getN_yes hold
                have hj := Cells.ofL_get hj
                rw [List.getElem?_append] at hj
                split at hj
                · rename_i hlt
                  obtain ⟨u, hu1, hu2⟩ := k2 j (by omega)
                  rw [hj] at hu1; injection hu1 with hu1; subst hu1
                  exact .inl ⟨by omega, hu2⟩
                · exact .inr ⟨by omega, by rw [← k1]; exact hj⟩
              · cases he
      · cases he
  · cases he
end
end Go.Ev
