/-
  What is proved: one more operation of a region whose order is drawn (J.step). No condition of a program's.
-/
import Derived.Test.YtpdmljkmfdkfgaaGreatEvT
namespace Go.Ev

section
variable {W : World} {om : OM} {P : Program} {call : CallF} {nt : Nat} {ops : Array Oper} {before : List Nat} {t0 : TT} {h0 : Hp} {w0 : World} {ρ0 : Rho} {a0 : Act} {fin : DSt} {st : Nat → DSt} {val : Nat → AV}
variable {S S' : Nat → Bool} {a : Act} {w : World} {ρ : Rho} {i : Nat} {o : Oper}

theorem layS_sub {B S : Nat → Bool} {h : HL} {base n m : Nat} {ps qs : List Pd} (hb : base + n < 1000000000000) (hm : m ≤ n) (ok : PdsOk base n ps) (ok' : PdsOk base m qs) (hq : ∀ q ∈ qs, q ∈ ps) (hB : ∀ q ∈ qs, B q.i = true → S q.i = true)
    (hc : ∀ p ∈ ps, p.i ∉ h.laid → h.h.get p.id = none) {id : Nat} {ob : AObj} (hg : (layS B h qs).get id = some ob) : (layS S h ps).get id = some ob := by
  rcases layS_cases (S := B) (h := h) (by omega : base + m < 1000000000000) ok' id with ⟨p, h1, h2, h3, h4, h5⟩ | ⟨_, h2⟩
  · rw [hg] at h5
    injection h5 with h5; subst h5
    rw [← h4]
    exact layS_in hb ok (hq p h1) (hB p h1 h2) h3
  · rcases layS_cases (S := S) (h := h) hb ok id with ⟨q, k1, k2, k3, k4, k5⟩ | ⟨_, k2⟩
    · have := hc q k1 k3
      rw [k4, ← h2, hg] at this; cases this
    · rw [k2, ← h2]; exact hg

theorem J.step (pl : Plan P om call nt ops before t0 h0 fin st val) (hcall : CallOk W om P call) (hi : ops[i]? = some o) (hSi : S i = false) (hdep : ∀ j, (bitsAt before i).testBit j = true → S j = true)
    (hS' : ∀ j, S' j = (S j || decide (j = i))) (jj : J W om nt ops before t0 h0 w0 ρ0 a0 fin val S a w ρ) {K : Act → World → Prop} {Q : Exit → Act → World → Prop} {r0 : Option Nat}
    (hK : ∀ a' w' ρ', J W om nt ops before t0 h0 w0 ρ0 a0 fin val S' a' w' ρ' → K a' w') : wpOpIn (Fd r0) 0 P ops Q i K a w := by
  have hlt : i < ops.size := (Array.getElem?_eq_some_iff.1 hi).1
  obtain ⟨tS, s, hL⟩ := jj.tmp
  have hag := fun x hx hm => pl.agree hi hSi hdep jj.closed hL (x := x) hx hm
  have k := pl.step i o hi
  have hw := wantedD_eq hag
  have hcong := den_cong (P := P) (om := om) (op := o.op) (t := tS) (t' := (st i).t) fun x hx hlx => hag x hlx (looks_op hx)
  have ok := den_ok (W := W) (om := om) (P := P) o
  have hSS : ∀ j, S j = true → S' j = true := fun j hj => by rw [hS' j, hj]; rfl
  have hS'i : S' i = true := by rw [hS' i]; simp
  have hne' : ∀ j, j ≠ i → S' j = S j := fun j hj => by rw [hS' j]; simp [hj]
  have closed' : ∀ (j : Nat) (o' : Oper), ops[j]? = some o' → S' j = true → ∀ m, (bitsAt before j).testBit m = true → S' m = true := fun j o' ho' hj m hm => by
    by_cases e : j = i
    · subst e; exact hSS m (hdep m hm)
    · rw [hne' j e] at hj; exact hSS m (jj.closed j o' ho' hj m hm)
  have mk : ∀ (x : Value) (w' : World) (ρ' : Rho), ρ.le ρ' → VRel ρ' (val i) x →
      (∃ A rest, fin.old = A ++ rest ∧ (∀ e ∈ A, S' e.1 = false) ∧ (∀ e ∈ rest, S' e.1 = true) ∧ Goes W om ρ0 h0 w0 ρ' (layS S' (curH A fin.h) fin.pds) w' ∧
        (∀ p ∈ fin.pds, p.i ∉ (curH A fin.h).laid → (curH A fin.h).h.get p.id = none) ∧ (∀ i ∈ (curH A fin.h).laid, S' i = true) ∧ h0.nx + ops.size ≤ (curH A fin.h).h.nx) →
      (∀ p ∈ fin.pds, S' p.i = false → ρ' p.id = none) → K (a.put o.dst x) w' := fun x w' ρ' hle hv hh hu => by
    refine hK _ _ ρ' ⟨closed', ⟨_, (s.mono hle).put (pl.dst i o hi) hv, fun y hy => ?_⟩, by rw [put_defers]; exact jj.df, hh, hu⟩
    refine Last.put hi hy (pl.dst i o hi) hS' (fun j' o' h1 h2 h3 h4 => ?_) (hL y hy)
    rcases Nat.lt_or_ge i j' with c | c
    · exfalso
      cases hb : (bitsAt before j').testBit i with
      | true =>
        have := jj.closed j' o' h1 h2 i hb
        rw [hSi] at this; cases this
      | false =>
        cases hd : o.dst with
        | none => exact h4 hd
        | some d => exact ((apartD_spec (pl.apart i j' o o' c hi h1 hb)).1 d hd).2 (by rw [h3, hd])
    · exact c
  obtain ⟨A, rest, hold, hA, hrest, hgo, hc, hlaid, hnx⟩ := jj.heap
  have hpds := pl.pds
  have big := pl.big
  -- no object made, none changed
  have still : (st (i + 1)).pds = (st i).pds → (st (i + 1)).old = (st i).old → ∀ (x : Value) (w' : World), VRel ρ (val i) x → Goes W om ρ0 h0 w0 ρ (layS S (curH A fin.h) fin.pds) w' → K (a.put o.dst x) w' := fun hp ho x w' hv g => by
    have h1 := pl.noPd hlt hp
    have h2 := pl.noEf hlt ho
    refine mk x w' ρ (Rho.le_refl _) hv ⟨A, rest, hold, fun e he => by rw [hne' _ (h2 e (by rw [hold]; simp [he]))]; exact hA e he, fun e he => hSS _ (hrest e he), ?_, hc, fun j hj => hSS j (hlaid j hj), hnx⟩
      (fun p hp hu => jj.und p hp (by rw [← hne' _ (h1 p hp)]; exact hu))
    rw [← layS_congr (S := S) fun p hp => (hne' _ (h1 p hp)).symm]
    exact g
  have hnd : den P om o.op ≠ .bad → ∀ c, o.op ≠ .defer c := fun hb c e => hb (by rw [e]; rfl)
  unfold wpOpIn
  simp only [hi]
  rcases k.how with ⟨hwf, hv, hp, ho, hh⟩ | ⟨hwt, hto⟩
  · -- not wanted
    rw [wantedD_rel s (by rw [hw]; exact hwf)]
    simp only [Bool.false_eq_true, if_false]
    exact ⟨fun _ _ => trivial, still hp ho Go.undef w (by rw [hv]; exact undef_rel) hgo⟩
  · rw [wantedD_rel s (by rw [hw]; exact hwt)]
    simp only [if_true]
    -- memory changed
    have effDone : ∀ (h2 : Hp), (st (i + 1)).pds = (st i).pds → (st (i + 1)).old = (i, (st i).h) :: (st i).old → (st (i + 1)).h = ⟨h2, laidBefore (bitsAt before i) (st i).h.laid (st i).pds⟩ →
        (∀ e ∈ (st i).old, (bitsAt before i).testBit e.1 = true) →
        HRel W om ρ (layBefore (bitsAt before i) (st i).h (st i).pds) w ∧
        ∀ (x : Value) (w' : World) (ρ' : Rho), VRel ρ' (val i) x → Goes W om ρ (layBefore (bitsAt before i) (st i).h (st i).pds) w ρ' h2 w' → K (a.put o.dst x) w' := by
      intro h2 hp ho hh ha
      obtain ⟨lo, e1, e2, e3⟩ := (pl.inv (i + 1) (by omega)).2.old
      have chain := (pl.inv ops.size (Nat.le_refl _)).1.chain
      have oldlt := (pl.inv ops.size (Nat.le_refl _)).1.old
      rw [pl.stn] at chain oldlt
      rw [ho] at e1
      rw [e1] at chain
      have hlo : ∀ e ∈ lo, S e.1 = false := fun e he => by
        have hbit := (List.pairwise_append.1 chain).2.2 e he (i, (st i).h) (by simp)
        rw [Bool.eq_false_iff]
        intro hSe
        have helt := oldlt e (by rw [e1]; simp [he])
        have := jj.closed e.1 _ (Array.getElem?_eq_getElem helt) hSe i hbit
        rw [hSi] at this; cases this
      have hsp : A = lo ++ [(i, (st i).h)] ∧ rest = (st i).old := by
        refine split_uniq (S := fun e : Nat × HL => S e.1) (by rw [← hold, e1]; simp) hA (fun e he => ?_) hrest (fun e he => hdep _ (ha e he))
        rcases List.mem_append.1 he with c | c
        · exact hlo e c
        · simp at c; subst c; exact hSi
      obtain ⟨rfl, rfl⟩ := hsp
      have hcur : curH (lo ++ [(i, (st i).h)]) fin.h = (st i).h := by rw [curH_append]; rfl
      rw [hcur] at hgo hc hlaid hnx
      obtain ⟨lp, f1, f2⟩ := (pl.inv i (by omega)).2.pds
      have hpi := (pl.inv i (by omega)).1.pds
      have hsubp : ∀ q ∈ (st i).pds, q ∈ fin.pds := fun q hq => by rw [f1]; simp [hq]
      have hno := pl.noPd hlt hp
      rw [layBefore_eq]
      have hsub : ∀ id ob, (layS (fun m => (bitsAt before i).testBit m) (st i).h (st i).pds).get id = some ob → (layS S (st i).h fin.pds).get id = some ob := fun id ob hg =>
        layS_sub big (by omega) hpds hpi hsubp (fun q _ hb => hdep _ hb) hc hg
      have hnY : (layS (fun m => (bitsAt before i).testBit m) (st i).h (st i).pds).nx = (layS S (st i).h fin.pds).nx := by rw [layS_nx, layS_nx]
      refine ⟨hgo.rel.sub hsub hnY, fun x w' ρ' hv g => ?_⟩
      have lsub : ∀ m, m ∈ (st i).h.laid → m ∈ laidBefore (bitsAt before i) (st i).h.laid (st i).pds := fun m hm => (laidBefore_mem _ _ _ _).2 (.inl hm)
      have Ynone : ∀ p ∈ fin.pds, p.i ∉ laidBefore (bitsAt before i) (st i).h.laid (st i).pds → (layS (fun m => (bitsAt before i).testBit m) (st i).h (st i).pds).get p.id = none := fun p hpm hpl => by
        rcases layS_cases (S := fun m => (bitsAt before i).testBit m) (h := (st i).h) (by omega : h0.nx + i < 1000000000000) hpi p.id with ⟨q, q1, q2, q3, q4, _⟩ | ⟨_, q2⟩
        · have : q.i = p.i := by have := (hpi.id q q1).2; have := (hpds.id p hpm).2; omega
          exact absurd ((laidBefore_mem _ _ _ _).2 (.inr ⟨q, q1, q2, q3, this⟩)) hpl
        · rw [q2]; exact hc p hpm fun hm => hpl (lsub _ hm)
      have hpnx : ∀ p ∈ fin.pds, p.id < (layS S (st i).h fin.pds).nx := fun p hpm => by
        rw [layS_nx]
        have := hpds.id p hpm
        omega
      have hcur' : curH lo fin.h = ⟨h2, laidBefore (bitsAt before i) (st i).h.laid (st i).pds⟩ := by rw [e3, hh]
      refine mk x w' ρ' g.ext hv ⟨lo, (i, (st i).h) :: (st i).old, e1, fun e he => ?_, fun e he => ?_, ?_, ?_, ?_, ?_⟩ (fun p hpm hu => ?_)
      · have : e.1 ≠ i := by have := e2 e he; omega
        rw [hne' _ this]; exact hlo e he
      · rcases List.mem_cons.1 he with rfl | c
        · exact hS'i
        · exact hSS _ (hdep _ (ha e c))
      · rw [hcur']
        refine hgo.trans (Goes.frame hgo.rel hsub hnY g (by rw [layS_nx]) fun id ob hg => ?_)
        rcases layS_cases (S := S') (h := ⟨h2, laidBefore (bitsAt before i) (st i).h.laid (st i).pds⟩) big hpds id with ⟨p, p1, p2, p3, p4, p5⟩ | ⟨_, p2⟩
        · rw [hg] at p5
          injection p5 with p5; subst p5
          rw [hne' _ (hno p p1)] at p2
          subst p4
          exact .inr ⟨layS_in big hpds p1 p2 fun hm => p3 (lsub _ hm), Ynone p p1 p3, hpnx p p1⟩
        · rw [p2] at hg; exact .inl hg
      · rw [hcur']
        intro p hpm hpl
        have hpl : p.i ∉ laidBefore (bitsAt before i) (st i).h.laid (st i).pds := hpl
        show h2.get p.id = none
        cases hg2 : h2.get p.id with
        | none => rfl
        | some ob =>
          exfalso
          obtain ⟨M, _, q1, _⟩ := g.rel.objs p.id ob hg2
          have hkeep := g.keep p.id (by rw [hnY]; exact hpnx p hpm)
          cases hSp : S p.i with
          | false => rw [hkeep, jj.und p hpm hSp] at q1; cases q1
          | true =>
            have hX := layS_in big hpds hpm hSp (h := (st i).h) fun hm => hpl (lsub _ hm)
            rw [hkeep] at q1
            rcases g.own p.id ob M hg2 (by rw [hkeep]; exact q1) with c | ⟨j, o', L', c1, c2, c3⟩
            · have := hgo.rel.lt hX q1; omega
            · have := hgo.rel.inj j p.id o' p.o L' M (hsub j o' c1) hX c2 q1 c3
              subst this
              rw [Ynone p hpm hpl] at c1; cases c1
      · rw [hcur']
        intro m hm
        rcases (laidBefore_mem _ _ _ _).1 hm with c | ⟨q, q1, q2, q3, rfl⟩
        · exact hSS m (hlaid m c)
        · exact hSS _ (hdep _ q2)
      · rw [hcur']
        have := g.nx
        rw [layS_nx] at this
        exact Nat.le_trans hnx this
      · have : p.i ≠ i := hno p hpm
        rw [g.keep p.id (by rw [hnY]; exact hpnx p hpm)]
        exact jj.und p hpm (by rw [← hne' _ this]; exact hu)
    cases hto with
    | pure f hd hf hp ho hh =>
      rw [hd] at ok hcong
      have hcong : f tS = f (st i).t := hcong
      obtain ⟨x, h1, h2⟩ := ok ρ tS a w (val i) s.tr (by rw [hcong]; exact hf)
      exact wpIn_next (hnd (by rw [hd]; simp)) h1 rfl (still hp ho x w h2 hgo)
    | read f hd hr hp ho hh =>
      rw [hd] at ok hcong
      have hcong : f tS = f (st i).t := hcong
      have hmem : (⟨i, f (st i).t, val i⟩ : Rd) ∈ fin.rds := by
        obtain ⟨l, e⟩ := (pl.inv (i + 1) (by omega)).2.rds
        rw [e]; simp [hr]
      have hrd := pl.reads _ hmem
      rw [hold] at hrd
      have oldlt := (pl.inv ops.size (Nat.le_refl _)).1.old
      rw [pl.stn] at oldlt
      have hr2 := readsAt_cur (r := ⟨i, f (st i).t, val i⟩) A rest fin.h hrd fun e he => by
        cases hb : (bitsAt before i).testBit e.1 with
        | false => rfl
        | true => have := hA e he; rw [hdep _ hb] at this; cases this
      obtain ⟨u, hu, hsame⟩ := readAt_yes hr2 fun e he => by
        cases hb : (bitsAt before e.1).testBit i with
        | false => rfl
        | true =>
          have helt := oldlt e (by rw [hold]; simp [he])
          have := jj.closed e.1 _ (Array.getElem?_eq_getElem helt) (hrest e he) i hb
          rw [hSi] at this; cases this
      simp only [layBefore_eq] at hu
      have hsub : ∀ id ob, (layS (fun m => (bitsAt before i).testBit m) (curH A fin.h) fin.pds).get id = some ob → (layS S (curH A fin.h) fin.pds).get id = some ob := fun id ob hg =>
        layS_sub big (Nat.le_refl _) hpds hpds (fun q hq => hq) (fun q _ hb => hdep _ hb) hc hg
      have hnY : (layS (fun m => (bitsAt before i).testBit m) (curH A fin.h) fin.pds).nx = (layS S (curH A fin.h) fin.pds).nx := by rw [layS_nx, layS_nx]
      obtain ⟨x, w', h1, h2, h3⟩ := ok ρ tS a _ w u s.tr (hgo.rel.sub hsub hnY) (by rw [hcong]; exact hu)
      refine wpIn_next (hnd (by rw [hd]; simp)) h1 rfl (still hp ho x w' (same_rel u _ x hsame h2) (hgo.trans (Goes.frame hgo.rel hsub hnY h3 hnY.symm fun id ob hg => ?_)))
      cases hg2 : (layS (fun m => (bitsAt before i).testBit m) (curH A fin.h) fin.pds).get id with
      | some ob' =>
        have := hsub id ob' hg2
        rw [hg] at this
        exact .inl this.symm
      | none =>
        obtain ⟨M, _, q1, _⟩ := hgo.rel.objs id ob hg
        exact .inr ⟨hg, rfl, hgo.rel.lt_nx q1⟩
    | alloc f ob mk' hd hf hv hp ho hh =>
      rw [hd] at ok hcong
      have hcong : f tS = f (st i).t := hcong
      obtain ⟨obj, x, L, nn, h1, h2, h3, h4⟩ := ok ρ tS a w ob mk' s.tr (by rw [hcong]; exact hf)
      have hp0 : (⟨i, h0.nx + i, ob⟩ : Pd) ∈ fin.pds := by
        obtain ⟨l, e, _⟩ := (pl.inv (i + 1) (by omega)).2.pds
        rw [e, hp]; simp
      have hno := pl.noEf hlt ho
      have hil : i ∉ (curH A fin.h).laid := fun hm => by have := hlaid i hm; rw [hSi] at this; cases this
      have hnone : ρ (h0.nx + i) = none := jj.und _ hp0 hSi
      have hget : ∀ j u, (layS S' (curH A fin.h) fin.pds).get j = some u → (j = h0.nx + i ∧ u = ob) ∨ (j ≠ h0.nx + i ∧ (layS S (curH A fin.h) fin.pds).get j = some u) := fun j u hg => by
        rcases layS_cases (S := S') (h := curH A fin.h) big hpds j with ⟨p, p1, p2, p3, p4, p5⟩ | ⟨p1, p2⟩
        · rw [hg] at p5
          injection p5 with p5; subst p5
          by_cases e : p.i = i
          · have := hpds.uniq p1 hp0 e
            subst this
            exact .inl ⟨p4.symm, rfl⟩
          · rw [hne' _ e] at p2
            refine .inr ⟨fun e2 => e ?_, by rw [← p4]; exact layS_in big hpds p1 p2 p3⟩
            have := (hpds.id p p1).2
            omega
        · rw [hg] at p2
          refine .inr ⟨fun e => ?_, ?_⟩
          · have := hc _ hp0 hil
            rw [show (⟨i, h0.nx + i, ob⟩ : Pd).id = j from e.symm, ← p2] at this
            cases this
          · rw [layS_out big hpds fun p q1 q2 q3 => p1 p q1 (hSS _ q2) q3]
            exact p2.symm
      have g := Goes.alloc_at (hgo.trans (Goes.drew hgo.rel nn)) hnone (by omega) (by rw [layS_nx]; omega) (by rw [layS_nx, layS_nx]) hget h2 fun ρ' hle hi' => (h4 ρ' _ hle hi').1
      have hv2 := (h4 (fun j => if j = h0.nx + i then some L else ρ j) (h0.nx + i) (Rho.le_set hnone L) (by simp)).2
      rw [← hv] at hv2
      refine wpIn_next (hnd (by rw [hd]; simp)) h1 rfl (mk x _ _ (Rho.le_set hnone L) hv2 ⟨A, rest, hold, fun e he => by rw [hne' _ (hno e (by rw [hold]; simp [he]))]; exact hA e he, fun e he => hSS _ (hrest e he), g, hc, fun j hj => hSS j (hlaid j hj), hnx⟩ fun p hpm hu => ?_)
      have hpi : p.i ≠ i := fun e => by rw [e, hS'i] at hu; cases hu
      have : p.id ≠ h0.nx + i := fun e => hpi (by have := (hpds.id p hpm).2; omega)
      simp only [this, if_false]
      exact jj.und p hpm (by rw [← hne' _ hpi]; exact hu)
    | eff f h2 hd hf hp ho hh ha =>
      rw [hd] at ok hcong
      have hcong : f tS = f (st i).t := hcong
      obtain ⟨rY, next⟩ := effDone h2 hp ho hh ha
      obtain ⟨r, x, w', ρ', q1, q2, q3, q4⟩ := ok ρ tS a _ w (val i) h2 s.tr rY (by rw [hcong]; exact hf)
      exact wpIn_next (hnd (by rw [hd]; simp)) q1 q2 (next x w' ρ' q3 q4)
    | call x args h2 hd hf hp ho hh ha =>
      rw [hd] at ok hcong
      obtain ⟨c1, c2⟩ := hcong
      obtain ⟨rY, next⟩ := effDone h2 hp ho hh ha
      obtain ⟨c, fo, hop, hcal, hfo, has⟩ := ok
      have rx := opd_rel hfo s.tr
      have ra := opds_rel has s.tr
      have hr := hcall ρ _ w _ _ _ _ (val i) h2 rx ra rY (by rw [c1, c2]; exact hf)
      have hargs : c.args.map a.eval = (c.args.toList.map a.eval).toArray := Array.ext' (by simp)
      have he : (execOp a.eval o).run P w = (do let d ← Deferred.ofValue (a.eval fo) (c.args.toList.map a.eval).toArray; invoke d.target d.args : Sem Next).run P w := by
        simp only [execOp, hop, resolve, hcal, hargs]
      rw [← he] at hr
      exact wpIn_call (hnd (by rw [hd]; simp)) hr fun ρ' y w' v1 v2 => next y w' ρ' v1 v2
end
end Go.Ev
