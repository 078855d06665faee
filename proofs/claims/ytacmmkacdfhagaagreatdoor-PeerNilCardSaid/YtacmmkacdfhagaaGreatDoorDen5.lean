/- Regions that draw their order: what our own way through one says. -/
import Derived.Test.YtacmmkacdfhagaaGreatDoorDen4

set_option linter.unusedSimpArgs false
set_option linter.unusedVariables false
set_option linter.unusedSectionVars false
set_option linter.deprecated false

namespace Go.Den
open Go

structure DS where
  e : Env
  fr : T AV
  m : Me
  mh : Me

def hvO (a : AOper) : Bool := heavyC a.op.cls
/-- How many effects lie ahead of a place. -/
def CH (r : List AOper) (q : Nat) : Nat := ((r.take q).filter hvO).length

theorem CH_zero (r : List AOper) : CH r 0 = 0 := by simp [CH]
theorem CH_cons (a : AOper) (r : List AOper) (q : Nat) : CH (a :: r) (q + 1) = (if hvO a then 1 else 0) + CH r q := by
  simp only [CH, List.take_succ_cons, List.filter_cons]
  split <;> simp [Nat.add_comm]

structure Trc (callF : CallF) (round : Nat → List AV → Me → Option (AV × Me)) (r : List AOper) (st : Nat → DS) (V : Nat → AV) (wt : Nat → Bool) : Prop where
  want : ∀ q a, r[q]? = some a → wantedV (st q).e (st q).fr a.guard = some (wt q)
  run : ∀ q a, r[q]? = some a → wt q = true → operV callF round (look (st q).e (st q).fr) (st q).m a.op = some (V q, (st (q + 1)).m)
  skip : ∀ q a, r[q]? = some a → wt q = false → V q = .undef ∧ (st (q + 1)).m = (st q).m
  env : ∀ q a, r[q]? = some a → (st (q + 1)).e = putE (st q).e a.dst (V q) ∧ (st (q + 1)).fr = putV (st q).fr a.dst (V q)
  mh : ∀ q a, r[q]? = some a → (st (q + 1)).mh = if hvO a then (st (q + 1)).m else (st q).mh
  late : ∀ q a, r[q]? = some a → a.op.cls = .read → wt q = true → ∀ h b, r[h]? = some b → q < h → hvO b = true → CH r h < CH r q + a.late →
    againV (st (h + 1)).m ⟨0, a.op, (st q).e, (st q).fr, V q⟩ = true
  early : ∀ q a, r[q]? = some a → a.op.cls = .read → wt q = true → ∀ h b, r[h]? = some b → h < q → hvO b = true → CH r q < CH r h + 1 + a.early →
    againV (st h).mh ⟨0, a.op, (st q).e, (st q).fr, V q⟩ = true

theorem Trc.cons {callF : CallF} {round : Nat → List AV → Me → Option (AV × Me)} {r : List AOper} {st : Nat → DS} {V : Nat → AV} {wt : Nat → Bool} (h : Trc callF round r st V wt) (a : AOper) (d : DS) (v : AV) (b : Bool)
    (h1 : wantedV d.e d.fr a.guard = some b) (h2 : b = true → operV callF round (look d.e d.fr) d.m a.op = some (v, (st 0).m)) (h3 : b = false → v = .undef ∧ (st 0).m = d.m)
    (h4 : (st 0).e = putE d.e a.dst v ∧ (st 0).fr = putV d.fr a.dst v) (h5 : (st 0).mh = if hvO a then (st 0).m else d.mh)
    (h6 : a.op.cls = .read → b = true → ∀ h x, r[h]? = some x → hvO x = true → CH r h < a.late → againV (st (h + 1)).m ⟨0, a.op, d.e, d.fr, v⟩ = true)
    (h7 : hvO a = true → ∀ q x, r[q]? = some x → x.op.cls = .read → wt q = true → CH r q < x.early → againV d.mh ⟨0, x.op, (st q).e, (st q).fr, V q⟩ = true) :
    Trc callF round (a :: r) (fun | 0 => d | q + 1 => st q) (fun | 0 => v | q + 1 => V q) (fun | 0 => b | q + 1 => wt q) where
  want := fun q x hq => by
    cases q with
    | zero => simp only [List.getElem?_cons_zero, Option.some.injEq] at hq; subst hq; exact h1
    | succ q => exact h.want q x (by simpa using hq)
  run := fun q x hq hw => by
    cases q with
    | zero => simp only [List.getElem?_cons_zero, Option.some.injEq] at hq; subst hq; exact h2 hw
    | succ q => exact h.run q x (by simpa using hq) hw
  skip := fun q x hq hw => by
    cases q with
    | zero => exact h3 hw
    | succ q => exact h.skip q x (by simpa using hq) hw
  env := fun q x hq => by
    cases q with
    | zero => simp only [List.getElem?_cons_zero, Option.some.injEq] at hq; subst hq; exact h4
    | succ q => exact h.env q x (by simpa using hq)
  mh := fun q x hq => by
    cases q with
    | zero => simp only [List.getElem?_cons_zero, Option.some.injEq] at hq; subst hq; exact h5
    | succ q => exact h.mh q x (by simpa using hq)
  late := fun q x hq hr hw k y hk hqk hy hc => by
    cases k with
    | zero => omega
    | succ k =>
      rw [List.getElem?_cons_succ] at hk
      cases q with
      | zero =>
        simp only [List.getElem?_cons_zero, Option.some.injEq] at hq; subst hq
        refine h6 hr hw k y hk hy ?_
        rw [CH_cons, CH_zero] at hc
        omega
      | succ q =>
        rw [CH_cons, CH_cons] at hc
        exact h.late q x (by simpa using hq) hr hw k y hk (by omega) hy (by omega)
  early := fun q x hq hr hw k y hk hqk hy hc => by
    cases q with
    | zero => omega
    | succ q =>
      rw [List.getElem?_cons_succ] at hq
      cases k with
      | zero =>
        simp only [List.getElem?_cons_zero, Option.some.injEq] at hk; subst hk
        refine h7 hy q x hq hr hw ?_
        rw [CH_cons, CH_zero, if_pos hy] at hc
        omega
      | succ k =>
        rw [CH_cons, CH_cons] at hc
        exact h.early q x hq hr hw k y (by simpa using hk) (by omega) hy (by omega)

theorem again_n {m : Me} {a b : Rd} (h : a.op = b.op) (h1 : a.e = b.e) (h2 : a.fr = b.fr) (h3 : a.v = b.v) : againV m a = againV m b := by
  simp [againV, h, h1, h2, h3]

theorem draw_trace {callF : CallF} {round : Nat → List AV → Me → Option (AV × Me)} : ∀ (r : List AOper) (e : Env) (fr : T AV) (m mh : Me) (old : List Me) (rds : List Rd) (fr' : T AV) (m' : Me),
    drawV callF round r e fr m mh old rds = some (fr', m') →
    ∃ st V wt, Trc callF round r st V wt ∧ st 0 = ⟨e, fr, m, mh⟩ ∧ (st r.length).fr = fr' ∧ (st r.length).m = m' ∧
      (∀ q a, r[q]? = some a → a.op.cls = .read → wt q = true → ∀ i M, CH r q + i < a.early → old[i]? = some M → againV M ⟨0, a.op, (st q).e, (st q).fr, V q⟩ = true) ∧
      (∀ rd ∈ rds, ∀ h b, r[h]? = some b → hvO b = true → CH r h < rd.n → againV (st (h + 1)).m rd = true) := by
  intro r
  induction r with
  | nil =>
    intro e fr m mh old rds fr' m' h
    simp only [drawV, Option.some.injEq, Prod.mk.injEq] at h
    obtain ⟨rfl, rfl⟩ := h
    exact ⟨fun _ => ⟨e, fr, m, mh⟩, fun _ => .unk, fun _ => false, ⟨by simp, by simp, by simp, by simp, by simp, by simp, by simp⟩, rfl, rfl, rfl, by simp, by simp⟩
  | cons a r ih =>
    intro e fr m mh old rds fr' m' h
    simp only [drawV] at h
    -- an effect, made or not
    have heavy : ∀ (v : AV) (m1 : Me) (b : Bool), wantedV e fr a.guard = some b → (b = true → operV callF round (look e fr) m a.op = some (v, m1)) → (b = false → v = .undef ∧ m1 = m) → hvO a = true → rds.all (againV m1) = true →
        drawV callF round r (putE e a.dst v) (putV fr a.dst v) m1 m1 (mh :: old) (nextR rds) = some (fr', m') →
        ∃ st V wt, Trc callF round (a :: r) st V wt ∧ st 0 = ⟨e, fr, m, mh⟩ ∧ (st (a :: r).length).fr = fr' ∧ (st (a :: r).length).m = m' ∧
          (∀ q x, (a :: r)[q]? = some x → x.op.cls = .read → wt q = true → ∀ i M, CH (a :: r) q + i < x.early → old[i]? = some M → againV M ⟨0, x.op, (st q).e, (st q).fr, V q⟩ = true) ∧
          (∀ rd ∈ rds, ∀ h b, (a :: r)[h]? = some b → hvO b = true → CH (a :: r) h < rd.n → againV (st (h + 1)).m rd = true) := by
      intro v m1 b hw hop hsk hhv hall hd
      obtain ⟨st, V, wt, hT, h0, h1, h2, h3, h4⟩ := ih _ _ _ _ _ _ _ _ hd
      have hnr : a.op.cls ≠ .read := fun hh => by simp [hvO, hh, heavyC] at hhv
      refine ⟨_, _, _, hT.cons a ⟨e, fr, m, mh⟩ v b hw (by rw [h0]; exact hop) (by rw [h0]; exact hsk) (by rw [h0]; exact ⟨rfl, rfl⟩) (by rw [h0, if_pos hhv]) (fun hh => absurd hh hnr) ?_, rfl, h1, h2, ?_, ?_⟩
      · intro _ q x hq hr hwq hc
        exact h3 q x hq hr hwq 0 mh (by omega) rfl
      · intro q x hq hr hwq i M hc hM
        cases q with
        | zero => simp only [List.getElem?_cons_zero, Option.some.injEq] at hq; subst hq; exact absurd hr hnr
        | succ q =>
          rw [CH_cons, if_pos hhv] at hc
          exact h3 q x (by simpa using hq) hr hwq (i + 1) M (by omega) (by simpa using hM)
      · intro rd hrd k y hk hy hc
        cases k with
        | zero =>
          show againV (st 0).m rd = true
          rw [h0]
          exact List.all_eq_true.1 hall rd hrd
        | succ k =>
          rw [CH_cons, if_pos hhv] at hc
          have hmem : ({ rd with n := rd.n - 1 } : Rd) ∈ nextR rds := by
            unfold nextR
            exact List.mem_map.2 ⟨rd, List.mem_filter.2 ⟨hrd, by simp; omega⟩, rfl⟩
          have := h4 _ hmem k y (by simpa using hk) hy (by show CH r k < rd.n - 1; omega)
          rw [← this]
          exact again_n rfl rfl rfl rfl
    -- what is neither an effect nor asked again
    have plain : ∀ (v : AV) (m1 : Me) (b : Bool), wantedV e fr a.guard = some b → (b = true → operV callF round (look e fr) m a.op = some (v, m1)) → (b = false → v = .undef ∧ m1 = m) → hvO a = false → (b = true → a.op.cls ≠ .read) →
        drawV callF round r (putE e a.dst v) (putV fr a.dst v) m1 mh old rds = some (fr', m') →
        ∃ st V wt, Trc callF round (a :: r) st V wt ∧ st 0 = ⟨e, fr, m, mh⟩ ∧ (st (a :: r).length).fr = fr' ∧ (st (a :: r).length).m = m' ∧
          (∀ q x, (a :: r)[q]? = some x → x.op.cls = .read → wt q = true → ∀ i M, CH (a :: r) q + i < x.early → old[i]? = some M → againV M ⟨0, x.op, (st q).e, (st q).fr, V q⟩ = true) ∧
          (∀ rd ∈ rds, ∀ h b, (a :: r)[h]? = some b → hvO b = true → CH (a :: r) h < rd.n → againV (st (h + 1)).m rd = true) := by
      intro v m1 b hw hop hsk hhv hnr hd
      obtain ⟨st, V, wt, hT, h0, h1, h2, h3, h4⟩ := ih _ _ _ _ _ _ _ _ hd
      refine ⟨_, _, _, hT.cons a ⟨e, fr, m, mh⟩ v b hw (by rw [h0]; exact hop) (by rw [h0]; exact hsk) (by rw [h0]; exact ⟨rfl, rfl⟩) (by rw [h0, hhv]; rfl) (fun hh hb => absurd hh (hnr hb)) (fun hh => by rw [hhv] at hh; cases hh), rfl, h1, h2, ?_, ?_⟩
      · intro q x hq hr hwq i M hc hM
        cases q with
        | zero => simp only [List.getElem?_cons_zero, Option.some.injEq] at hq; subst hq; exact absurd hr (hnr hwq)
        | succ q =>
          rw [CH_cons, hhv] at hc
          exact h3 q x (by simpa using hq) hr hwq i M (by simpa using hc) hM
      · intro rd hrd k y hk hy hc
        cases k with
        | zero => simp only [List.getElem?_cons_zero, Option.some.injEq] at hk; subst hk; rw [hhv] at hy; cases hy
        | succ k =>
          rw [CH_cons, hhv] at hc
          exact h4 rd hrd k y (by simpa using hk) hy (by simpa using hc)
    split at h
    · rename_i hw
      split at h
      · rename_i v m1 hop
        split at h
        · -- a read
          rename_i hcl
          split at h
          · rename_i hearly
            obtain ⟨st, V, wt, hT, h0, h1, h2, h3, h4⟩ := ih _ _ _ _ _ _ _ _ h
            have hhv : hvO a = false := by simp [hvO, hcl, heavyC]
            refine ⟨_, _, _, hT.cons a ⟨e, fr, m, mh⟩ v true hw (by rw [h0]; exact fun _ => hop) (fun hh => by cases hh) (by rw [h0]; exact ⟨rfl, rfl⟩) (by rw [h0, hhv]; rfl) ?_ (fun hh => by rw [hhv] at hh; cases hh), rfl, h1, h2, ?_, ?_⟩
            · intro _ _ k y hk hy hc
              have hl : a.late ≠ 0 := by omega
              rw [if_neg hl] at h4
              have := h4 ⟨a.late, a.op, e, fr, v⟩ (by simp) k y hk hy hc
              rw [← this]
              exact again_n rfl rfl rfl rfl
            · intro q x hq hr hwq i M hc hM
              cases q with
              | zero =>
                simp only [List.getElem?_cons_zero, Option.some.injEq] at hq; subst hq
                rw [CH_zero] at hc
                have hmem : M ∈ old.take a.early := by
                  apply List.mem_of_getElem? (i := i)
                  rw [List.getElem?_take_of_lt (by omega)]
                  exact hM
                exact List.all_eq_true.1 hearly M hmem
              | succ q =>
                rw [CH_cons, hhv] at hc
                exact h3 q x (by simpa using hq) hr hwq i M (by simpa using hc) hM
            · intro rd hrd k y hk hy hc
              cases k with
              | zero => simp only [List.getElem?_cons_zero, Option.some.injEq] at hk; subst hk; rw [hhv] at hy; cases hy
              | succ k =>
                rw [CH_cons, hhv] at hc
                refine h4 rd ?_ k y (by simpa using hk) hy (by simpa using hc)
                split
                · exact hrd
                · exact List.mem_cons_of_mem _ hrd
          · cases h
        · rename_i hcl
          split at h
          · rename_i hall
            exact heavy v m1 true hw (fun _ => hop) (fun hh => by cases hh) (by simp [hvO, hcl, heavyC]) hall h
          · cases h
        · rename_i hcl
          split at h
          · rename_i hall
            exact heavy v m1 true hw (fun _ => hop) (fun hh => by cases hh) (by simp [hvO, hcl, heavyC]) hall h
          · cases h
        · rename_i c1 c2 c3
          refine plain v m1 true hw (fun _ => hop) (fun hh => by cases hh) ?_ (fun _ => c1) h
          unfold hvO
          generalize a.op.cls = c at c1 c2 c3
          cases c <;> simp_all [heavyC]
      · cases h
    · rename_i hw
      split at h
      · rename_i hhv
        split at h
        · rename_i hall
          exact heavy .undef m false hw (fun hh => by cases hh) (fun _ => ⟨rfl, rfl⟩) hhv hall h
        · cases h
      · rename_i hhv
        exact plain .undef m false hw (fun hh => by cases hh) (fun _ => ⟨rfl, rfl⟩) (by simpa [hvO] using hhv) (fun hh => by cases hh) h
    · cases h

end Go.Den

/- Regions that draw their order: gluing memory, operands that an operation looks at. -/
namespace Go.Den
open Go

variable {P : Program} {w0 : World} {B : Nat} {φ : Emb} {m : Me} {w : World}

/-- Less of memory. -/
def Sub (a b : Me) : Prop := ∀ x o, a.get x = some o → b.get x = some o

theorem Rel.sub {μ : Me} (h : Rel P w0 B φ μ w) (hs : Sub m μ) (hf : ∀ b, m.nx ≤ b → m.get b = none) : Rel P w0 B φ m w :=
  ⟨fun b o hb hl => h.live b o (hs _ _ hb) hl, fun b o e hb hr he => h.own b o e (hs _ _ hb) hr he,
    fun b b' o o' e e' hb hb' hr hl he he' hC => h.apart b b' o o' e e' (hs _ _ hb) (hs _ _ hb') hr hl he he' hC, h.below, h.hB, hf⟩

/-- A step that was made on a part of memory, seen from the whole. -/
theorem Rel.glue {φ' : Emb} {μ μ' m' : Me} {w' : World} (hμ : Rel P w0 B φ μ w) (hs : Sub m μ) (h' : Rel P w0 B φ' m' w') (hF : Fr φ m w φ' m' w') (hle : Le φ φ')
    (hget : ∀ b, μ'.get b = m'.get b ∨ (μ'.get b = μ.get b ∧ ∀ o, μ.get b = some o → o.live → ∀ e, φ b = some e → ∀ b0 o0 e0, m.get b0 = some o0 → o0.live → φ b0 = some e0 → e0.C ≠ e.C))
    (hfr : ∀ b, μ'.nx ≤ b → μ'.get b = none) : Rel P w0 B φ' μ' w' ∧ Fr φ μ w φ' μ' w' := by
  -- a block of the rest
  have rest : ∀ b o, μ.get b = some o → o.live → (∀ o, μ.get b = some o → o.live → ∀ e, φ b = some e → ∀ b0 o0 e0, m.get b0 = some o0 → o0.live → φ b0 = some e0 → e0.C ≠ e.C) →
      ∃ e o', φ b = some e ∧ φ' b = some e ∧ w'.heap[e.C]? = some o' ∧ OR P φ' e o o' ∧ e.C < w.heap.size := by
    intro b o hb hl hsep
    obtain ⟨e, o', h1, h2, h3⟩ := hμ.live b o hb hl
    have hlt := (Array.getElem?_eq_some_iff.1 h2).1
    refine ⟨e, o', h1, hle _ _ h1, ?_, h3.mono hle, hlt⟩
    rw [hF.keep e.C hlt fun b0 o0 e0 g1 g2 g3 => hsep o hb hl e h1 b0 o0 e0 g1 g2 g3]
    exact h2
  -- one of the step's blocks is none of the rest's
  have cross : ∀ b o e b' o' e', m'.get b = some o → o.live → φ' b = some e → μ.get b' = some o' → o'.live → φ' b' = some e' →
      (∀ o, μ.get b' = some o → o.live → ∀ e, φ b' = some e → ∀ b0 o0 e0, m.get b0 = some o0 → o0.live → φ b0 = some e0 → e0.C ≠ e.C) → e.C ≠ e'.C := by
    intro b o e b' o' e' hb hl he hb' hl' he' hsep hC
    obtain ⟨f, _, f1, f2, _, _, f5⟩ := rest b' o' hb' hl' hsep
    rw [he'] at f2; cases f2
    rcases hF.img b o e hb hl he with ⟨b0, o0, e0, g1, g2, g3, g4⟩ | g
    · exact hsep o' hb' hl' e' f1 b0 o0 e0 g1 g2 g3 (g4.trans hC)
    · omega
  refine ⟨⟨?_, ?_, ?_, h'.below, h'.hB, hfr⟩, ?_⟩
  · intro b o hb hl
    rcases hget b with hg | ⟨hg, hsep⟩
    · exact h'.live b o (hg ▸ hb) hl
    · obtain ⟨e, o', h1, h2, h3, h4, _⟩ := rest b o (hg ▸ hb) hl hsep
      exact ⟨e, o', h2, h3, h4⟩
  · intro b o e hb hr he
    rcases hget b with hg | ⟨hg, hsep⟩
    · exact h'.own b o e (hg ▸ hb) hr he
    · obtain ⟨f, _, f1, f2, _, _, _⟩ := rest b o (hg ▸ hb) hr.live hsep
      rw [he] at f2; cases f2
      exact hμ.own b o e (hg ▸ hb) hr f1
  · intro b b' o o' e e' hb hb' hr hl he he' hC
    rcases hget b with hg | ⟨hg, hsep⟩ <;> rcases hget b' with hg' | ⟨hg', hsep'⟩
    · exact h'.apart b b' o o' e e' (hg ▸ hb) (hg' ▸ hb') hr hl he he' hC
    · exact absurd hC (cross b o e b' o' e' (hg ▸ hb) hr.live he (hg' ▸ hb') hl he' hsep')
    · exact absurd hC.symm (cross b' o' e' b o e (hg' ▸ hb') hl he' (hg ▸ hb) hr.live he hsep)
    · obtain ⟨f, _, f1, f2, _, _, _⟩ := rest b o (hg ▸ hb) hr.live hsep
      obtain ⟨f', _, f1', f2', _, _, _⟩ := rest b' o' (hg' ▸ hb') hl hsep'
      rw [he] at f2; cases f2
      rw [he'] at f2'; cases f2'
      exact hμ.apart b b' o o' e e' (hg ▸ hb) (hg' ▸ hb') hr hl f1 f1' hC
  · refine ⟨hF.size, fun C hC hn => hF.keep C hC fun b o e h1 h2 h3 => hn b o e (hs _ _ h1) h2 h3, fun b o e hb hl he => ?_⟩
    rcases hget b with hg | ⟨hg, hsep⟩
    · rcases hF.img b o e (hg ▸ hb) hl he with ⟨b0, o0, e0, g1, g2, g3, g4⟩ | g
      · exact .inl ⟨b0, o0, e0, hs _ _ g1, g2, g3, g4⟩
      · exact .inr g
    · obtain ⟨f, _, f1, f2, _, _, _⟩ := rest b o (hg ▸ hb) hl hsep
      rw [he] at f2; cases f2
      exact .inl ⟨b, o, e, hg ▸ hb, hl, f1, rfl⟩

/-- m, and behind a place, up to another one, what μ has. -/
def joinT (μ : Me) : Nat → Nat → T Ob → T Ob
  | _, 0, t => t
  | a, n + 1, t => joinT μ (a + 1) n (match μ.get a with | some o => t.set a o | none => t)

theorem joinT_get (μ : Me) : ∀ (n a : Nat) (t : T Ob), (∀ b, a ≤ b → t.get b = none) → ∀ b, (joinT μ a n t).get b = if a ≤ b ∧ b < a + n then μ.get b else t.get b
  | 0, a, t, _, b => by simp only [joinT]; rw [if_neg (by omega)]
  | n + 1, a, t, h, b => by
    simp only [joinT]
    have hstep : ∀ c, (match μ.get a with | some o => t.set a o | none => t).get c = if c = a then μ.get a else t.get c := by
      intro c
      cases hm : μ.get a with
      | none => by_cases hc : c = a
                · subst hc; rw [if_pos rfl]; exact h c (Nat.le_refl _)
                · rw [if_neg hc]
      | some o => simp only [T.get_set]
    rw [joinT_get μ n (a + 1) _ (fun c hc => by rw [hstep, if_neg (by omega)]; exact h c (by omega))]
    by_cases hb : b = a
    · subst hb; rw [if_neg (by omega), hstep, if_pos rfl, if_pos (by omega)]
    · by_cases h2 : a + 1 ≤ b ∧ b < a + 1 + n
      · rw [if_pos h2, if_pos (by omega)]
      · rw [if_neg h2, hstep, if_neg hb, if_neg (by omega)]

def join (m μ : Me) (N : Nat) : Me := { m := joinT μ m.nx (N - m.nx) m.m, nx := N }

theorem join_get {m μ : Me} {N : Nat} (h : ∀ b, m.nx ≤ b → m.get b = none) (hN : m.nx ≤ N) (hμ : ∀ b, N ≤ b → μ.get b = none) (b : Nat) : (join m μ N).get b = if b < m.nx then m.get b else μ.get b := by
  show (joinT μ m.nx (N - m.nx) m.m).get b = _
  rw [joinT_get _ _ _ _ h]
  by_cases h1 : b < m.nx
  · rw [if_pos h1, if_neg (by omega)]; rfl
  · rw [if_neg h1]
    by_cases h2 : b < N
    · rw [if_pos (by omega)]
    · rw [if_neg (by omega), hμ b (by omega)]; exact h b (by omega)

/-! ## Operands -/
theorem map_congr' {r r' : Opd → AV} {l : List Opd} (h : ∀ x ∈ l, r x = r' x) : l.map r = l.map r' := List.map_congr_left h
theorem parts_congr {r r' : Opd → AV} {l : List (Nat × Nat × Opd)} (h : ∀ x ∈ l.map (·.2.2), r x = r' x) : (l.map fun (off, s, x) => (off, s, r x)) = l.map fun (off, s, x) => (off, s, r' x) :=
  List.map_congr_left fun ⟨off, s, y⟩ hx => by show (off, s, r y) = (off, s, r' y); rw [h y (List.mem_map.2 ⟨_, hx, rfl⟩)]

theorem oList_congr {r r' : Opd → AV} {x : Option Opd} (h : ∀ y ∈ oList x, r y = r' y) : x.map r = x.map r' := by
  cases x with
  | none => rfl
  | some y => simp only [Option.map_some]; rw [h y (by simp [oList])]

theorem pure_congr {r r' : Opd → AV} {a : AOp} (h : ∀ x ∈ a.opds, r x = r' x) : pureV r a = pureV r' a := by
  cases a <;> simp only [AOp.opds, List.mem_cons, List.not_mem_nil, or_false, forall_eq_or_imp, forall_eq] at h <;> first
    | rfl
    | (simp only [pureV, h]; done)
    | (simp only [pureV, parts_congr h]; done)
    | (simp only [pureV, map_congr' h]; done)
    | skip
  case mkFunc fn a b =>
    simp only [pureV, map_congr' (fun x hx => h x (List.mem_append_left _ hx)), map_congr' (fun x hx => h x (List.mem_append_right _ hx))]
  case slice k x lo hi mx =>
    obtain ⟨h1, h2⟩ := h
    simp only [pureV, h1, oList_congr (fun y hy => h2 y (List.mem_append_left _ (List.mem_append_left _ hy))), oList_congr (fun y hy => h2 y (List.mem_append_left _ (List.mem_append_right _ hy))), oList_congr (fun y hy => h2 y (List.mem_append_right _ hy))]

theorem read_congr {r r' : Opd → AV} {a : AOp} (h : ∀ x ∈ a.opds, r x = r' x) (m : Me) : readV r m a = readV r' m a := by
  cases a <;> simp only [AOp.opds, List.mem_cons, List.not_mem_nil, or_false, forall_eq_or_imp, forall_eq] at h <;> first
    | rfl
    | (simp only [readV, h]; done)
    | skip
  case conv c el x => cases c <;> simp only [readV, h]
  case slice k x lo hi mx =>
    obtain ⟨h1, h2⟩ := h
    cases k <;> simp only [readV, h1, oList_congr (fun y hy => h2 y (List.mem_append_left _ (List.mem_append_left _ hy))), oList_congr (fun y hy => h2 y (List.mem_append_left _ (List.mem_append_right _ hy))), oList_congr (fun y hy => h2 y (List.mem_append_right _ hy))]

theorem alloc_congr {r r' : Opd → AV} {a : AOp} (h : ∀ x ∈ a.opds, r x = r' x) : allocV r a = allocV r' a := by
  cases a <;> simp only [AOp.opds, List.mem_cons, List.not_mem_nil, or_false, forall_eq_or_imp, forall_eq] at h <;> first
    | rfl
    | (simp only [allocV, h]; done)
    | (simp only [allocV, parts_congr h]; done)
    | skip
  case conv c el x => cases c <;> simp only [allocV, h]

theorem eff_congr {r r' : Opd → AV} {a : AOp} (h : ∀ x ∈ a.opds, r x = r' x) (m : Me) : effV r m a = effV r' m a := by
  cases a <;> simp only [AOp.opds, List.mem_cons, List.not_mem_nil, or_false, forall_eq_or_imp, forall_eq] at h <;> first
    | rfl
    | (simp only [effV, h]; done)
    | (simp only [effV, rangeMapV, h]; done)
    | skip

theorem oper_congr {callF : CallF} {round : Nat → List AV → Me → Option (AV × Me)} {r r' : Opd → AV} {a : AOp} (h : ∀ x ∈ a.opds, r x = r' x) (m : Me) : operV callF round r m a = operV callF round r' m a := by
  have hs : simpleV r m a = simpleV r' m a := by
    unfold simpleV
    rw [pure_congr h, read_congr h, alloc_congr h, eff_congr h]
    cases hc : a.cls <;> try rfl
    cases a <;> simp only [AOp.opds, List.mem_cons, List.not_mem_nil, or_false, forall_eq_or_imp, forall_eq] at h <;> first
      | rfl
      | (simp only [storeV, h]; done)
  unfold operV
  cases a <;> try exact hs
  · simp only [AOp.opds, List.mem_cons, forall_eq_or_imp] at h
    obtain ⟨h1, h2⟩ := h
    simp only [h1, map_congr' h2]

end Go.Den

/- Regions that draw their order: what holds when some of a region's operations have been made. -/
namespace Go.Den
open Go

variable {P : Program} {w0 : World} {B : Nat} {φ : Emb} {m : Me} {w : World}

/-- What the places of a region's operations in our order are to one another. -/
structure PD (K : Nat → Bool) (nt : Nat) (r : List AOper) (MT : Nat → List Nat) (Anc : Nat → Nat → Prop) : Prop where
  pair : ∀ p q a b, r[p]? = some a → r[q]? = some b → p < q → Anc p q ∨ ((∀ k d, a.dst = some (k, d) → d ∉ MT q) ∧ (∀ k d, b.dst = some (k, d) → d ∉ MT p) ∧ memOk a.op.cls b.op.cls = true)
  dst : ∀ q a k d, r[q]? = some a → a.dst = some (k, d) → d ∈ MT q ∧ k = K d ∧ d < nt
  opd : ∀ q a, r[q]? = some a → ∀ y ∈ a.op.opds, ∀ t, (y = .tmp t ∨ y = .loc t) → t ∈ MT q
  grd : ∀ q a x b t, r[q]? = some a → a.guard = some (x, b) → (x = .tmp t ∨ x = .loc t) → t ∈ MT q ∧ x = (if K t then .tmp t else .loc t)
  late : ∀ q a, r[q]? = some a → a.op.cls = .read → ∀ n, n ≤ r.length → q < n → (∀ h b, r[h]? = some b → q < h → h < n → hvO b = true → ¬ Anc q h) → CH r n ≤ CH r q + a.late
  early : ∀ q a, r[q]? = some a → a.op.cls = .read → ∀ n, n ≤ q → (∀ h b, r[h]? = some b → n ≤ h → h < q → hvO b = true → ¬ Anc h q) → CH r q ≤ CH r n + a.early

def Wr (r : List AOper) (q t : Nat) : Prop := ∃ a k, r[q]? = some a ∧ a.dst = some (k, t)

def slotV (K : Nat → Bool) (d : DS) (t : Nat) : AV := if K t then (d.fr.get t).getD .unk else d.e.get t

section
variable {K : Nat → Bool} {nt : Nat} {r : List AOper} {MT : Nat → List Nat} {Anc : Nat → Nat → Prop} {callF : CallF} {round : Nat → List AV → Me → Option (AV × Me)} {st : Nat → DS} {V : Nat → AV} {wt : Nat → Bool}

theorem lt_of_get {α : Type} {l : List α} {q : Nat} {a : α} (h : l[q]? = some a) : q < l.length := (List.getElem?_eq_some_iff.1 h).1

theorem slot_write (hP : PD K nt r MT Anc) (hT : Trc callF round r st V wt) {q t : Nat} (h : Wr r q t) : slotV K (st (q + 1)) t = V q := by
  obtain ⟨a, k, h1, h2⟩ := h
  obtain ⟨h3, h4⟩ := hT.env q a h1
  obtain ⟨_, hk, _⟩ := hP.dst q a k t h1 h2
  unfold slotV
  rw [h3, h4, h2]
  cases k
  · rw [← hk]; simp [putE, Env.get]
  · rw [← hk]; simp [putV, T.get_set]

theorem slot_keep (hP : PD K nt r MT Anc) (hT : Trc callF round r st V wt) {q t : Nat} (hq : q < r.length) (h : ¬ Wr r q t) : slotV K (st (q + 1)) t = slotV K (st q) t := by
  have h1 : r[q]? = some r[q] := List.getElem?_eq_getElem hq
  obtain ⟨h3, h4⟩ := hT.env q _ h1
  unfold slotV
  rw [h3, h4]
  cases hd : r[q].dst with
  | none => rfl
  | some kd =>
    obtain ⟨k, d⟩ := kd
    have hne : d ≠ t := fun hh => h ⟨_, k, h1, by rw [hd, hh]⟩
    cases k
    · simp [putE, putV, Env.get, hne]
    · simp [putE, putV, T.get_set, Ne.symm hne]

theorem slot_none (hP : PD K nt r MT Anc) (hT : Trc callF round r st V wt) {t : Nat} : ∀ (q : Nat), q ≤ r.length → (∀ p, p < q → ¬ Wr r p t) → slotV K (st q) t = slotV K (st 0) t
  | 0, _, _ => rfl
  | q + 1, hq, h => by rw [slot_keep hP hT (by omega) (h q (by omega)), slot_none hP hT q (by omega) fun p hp => h p (by omega)]

theorem slot_last (hP : PD K nt r MT Anc) (hT : Trc callF round r st V wt) {t p : Nat} (hp : Wr r p t) : ∀ (q : Nat), q ≤ r.length → p < q → (∀ p', p < p' → p' < q → ¬ Wr r p' t) → slotV K (st q) t = V p
  | 0, _, h, _ => by omega
  | q + 1, hq, h, hn => by
    by_cases hpq : p = q
    · subst hpq; exact slot_write hP hT hp
    · rw [slot_keep hP hT (by omega) (hn q (by omega) (by omega)), slot_last hP hT hp q (by omega) (by omega) fun p' h1 h2 => hn p' h1 (by omega)]

/-- The slots, when the operations S have been made. -/
def Slots (r : List AOper) (V : Nat → AV) (S : Nat → Prop) (φ : Emb) (t0 t1 : Array Value) : Prop :=
  ∀ t, (∃ p, S p ∧ Wr r p t ∧ (∀ p', p < p' → S p' → ¬ Wr r p' t) ∧ VR φ (V p) (t1.getD t Go.undef)) ∨ ((∀ p, S p → ¬ Wr r p t) ∧ t1.getD t Go.undef = t0.getD t Go.undef)

theorem Slots.mono {S : Nat → Prop} {φ φ' : Emb} (h : Le φ φ') {t0 t1 : Array Value} (s : Slots r V S φ t0 t1) : Slots r V S φ' t0 t1 := fun t => by
  rcases s t with ⟨p, h1, h2, h3, h4⟩ | h2
  · exact .inl ⟨p, h1, h2, h3, h4.mono h⟩
  · exact .inr h2

theorem MT_wr (hP : PD K nt r MT Anc) {q t : Nat} (h : Wr r q t) : t ∈ MT q := by
  obtain ⟨a, k, h1, h2⟩ := h
  exact (hP.dst q a k t h1 h2).1

/-- Of two places one of which writes what the other looks at, the one must come ahead of the other. -/
theorem wr_anc (hP : PD K nt r MT Anc) {p q t : Nat} (hp : Wr r p t) (hq : t ∈ MT q) (hql : q < r.length) : (p < q → Anc p q) ∧ (q < p → Anc q p) := by
  obtain ⟨a, k, h1, h2⟩ := hp
  have hb : r[q]? = some r[q] := List.getElem?_eq_getElem hql
  refine ⟨fun h => ?_, fun h => ?_⟩
  · rcases hP.pair p q a _ h1 hb h with g | ⟨g1, _, _⟩
    · exact g
    · exact absurd hq (g1 k t h2)
  · rcases hP.pair q p _ a hb h1 h with g | ⟨_, g2, _⟩
    · exact g
    · exact absurd hq (g2 k t h2)

/-- What an operation looks at, when it is made, is what it is in our order. -/
theorem slots_look (hP : PD K nt r MT Anc) (hT : Trc callF round r st V wt) {S : Nat → Prop} (hcl : ∀ p q, Anc p q → S q → S p) {φ0 φ : Emb} (hle : Le φ0 φ) {t0 t1 : Array Value} (hs : Slots r V S φ t0 t1)
    (h0 : ∀ t, VR φ0 (slotV K (st 0) t) (t0.getD t Go.undef)) {q : Nat} (hql : q < r.length) (hq : ¬ S q) (hanc : ∀ p, Anc p q → S p) {t : Nat} (ht : t ∈ MT q) : VR φ (slotV K (st q) t) (t1.getD t Go.undef) := by
  rcases hs t with ⟨p, h1, h2, h3, h4⟩ | ⟨h2, h3⟩
  · have hlt : p < q := by
      rcases Nat.lt_trichotomy p q with h | h | h
      · exact h
      · subst h; exact absurd h1 hq
      · exact absurd (hcl _ _ ((wr_anc hP h2 ht hql).2 h) h1) hq
    rw [slot_last hP hT h2 q (by omega) hlt fun p' g1 g2 g3 => h3 p' g1 (hanc _ ((wr_anc hP g3 ht hql).1 g2)) g3]
    exact h4
  · rw [slot_none hP hT q (by omega) fun p hp hw => h2 p (hanc _ ((wr_anc hP hw ht hql).1 hp)) hw, h3]
    exact (h0 t).mono hle

/-- One more. -/
theorem Slots.step (hP : PD K nt r MT Anc) {S : Nat → Prop} (hcl : ∀ p q, Anc p q → S q → S p) {φ : Emb} {t0 t1 : Array Value} (hs : Slots r V S φ t0 t1) {q : Nat} {a : AOper} (ha : r[q]? = some a) (hq : ¬ S q)
    {dst : Option Nat} (hdst : a.dst.map (·.2) = dst) (hnt : nt ≤ t1.size) {v' : Value} (hv : VR φ (V q) v') {act : Act} (hact : act.tmps = t1) :
    Slots r V (fun p => S p ∨ p = q) φ t0 (act.put dst v').tmps := by
  subst hact
  intro t
  by_cases hw : Wr r q t
  · refine .inl ⟨q, .inr rfl, hw, fun p' h1 h2 h3 => ?_, ?_⟩
    · rcases h2 with h2 | h2
      · have := (wr_anc hP h3 (MT_wr hP hw) (lt_of_get ha)).2 h1
        exact hq (hcl _ _ this h2)
      · omega
    · obtain ⟨a', k, h1, h2⟩ := hw
      rw [ha] at h1; cases h1
      obtain ⟨_, _, h3⟩ := hP.dst q a k t ha h2
      rw [h2] at hdst
      subst hdst
      simp only [Option.map_some, Act.put]
      rw [getD_set, if_pos ⟨rfl, by omega⟩]
      exact hv
  · have hkeep : (act.put dst v').tmps.getD t Go.undef = act.tmps.getD t Go.undef := by
      cases hd : a.dst with
      | none => rw [hd] at hdst; subst hdst; rfl
      | some kd =>
        obtain ⟨k, d⟩ := kd
        rw [hd] at hdst
        subst hdst
        simp only [Option.map_some, Act.put]
        rw [getD_set, if_neg]
        rintro ⟨rfl, _⟩
        exact hw ⟨a, k, ha, hd⟩
    rw [hkeep]
    rcases hs t with ⟨p, h1, h2, h3, h4⟩ | ⟨h2, h3⟩
    · refine .inl ⟨p, .inl h1, h2, fun p' g1 g2 g3 => ?_, h4⟩
      rcases g2 with g2 | g2
      · exact h3 p' g1 g2 g3
      · subst g2; exact hw g3
    · refine .inr ⟨fun p hp => ?_, h3⟩
      rcases hp with hp | hp
      · exact h2 p hp
      · subst hp; exact hw

/-! ## Memory along our way -/
theorem st_le (hT : Trc callF round r st V wt) (hMC : MonC callF) (hMR : MonR round) : ∀ (d p : Nat), p + d ≤ r.length → (st p).m.nx ≤ (st (p + d)).m.nx
  | 0, _, _ => Nat.le_refl _
  | d + 1, p, h => by
    refine Nat.le_trans (st_le hT hMC hMR d p (by omega)) ?_
    have h1 : r[p + d]? = some r[p + d] := List.getElem?_eq_getElem (by omega)
    cases hw : wt (p + d) with
    | false => rw [show p + (d + 1) = p + d + 1 by omega, (hT.skip _ _ h1 hw).2]; exact Nat.le_refl _
    | true => exact oper_nx hMC hMR (hT.run _ _ h1 hw)

theorem st_mono (hT : Trc callF round r st V wt) (hMC : MonC callF) (hMR : MonR round) {p q : Nat} (h : p ≤ q) (hq : q ≤ r.length) : (st p).m.nx ≤ (st q).m.nx := by
  have := st_le hT hMC hMR (q - p) p (by omega)
  rwa [show p + (q - p) = q by omega] at this

theorem alloc_notRo {ρ : Opd → AV} {a : AOp} {ob : Ob} {f : Nat → AV} (h : allocV ρ a = some (ob, f)) : ob.notRo := by
  unfold allocV at h
  split at h
  case h_3 => rw [map_some] at h; obtain ⟨_, _, h⟩ := h; cases h; trivial
  all_goals
    repeat' split at h
    all_goals first | (cases h; done) | (cases h; trivial)

/-- What is no effect leaves memory, or makes one block. -/
theorem step_mem (hT : Trc callF round r st V wt) {q : Nat} {a : AOper} (ha : r[q]? = some a) (hh : hvO a = false) :
    (st (q + 1)).m = (st q).m ∨ (a.op.cls = .alloc ∧ wt q = true ∧ ∃ ob, (st (q + 1)).m = (st q).m.new ob ∧ ob.notRo) := by
  cases hw : wt q with
  | false => exact .inl (hT.skip q a ha hw).2
  | true =>
    have hr := hT.run q a ha hw
    unfold operV at hr
    split at hr
    · rename_i hop; rw [hvO, hop] at hh; cases hh
    · cases hr
    · unfold simpleV at hr
      split at hr
      · simp only [map_some, Prod.mk.injEq] at hr
        obtain ⟨_, _, _, h⟩ := hr
        exact .inl h.symm
      · simp only [map_some, Prod.mk.injEq] at hr
        obtain ⟨_, _, _, h⟩ := hr
        exact .inl h.symm
      · rename_i hcl
        simp only [map_some, Prod.mk.injEq] at hr
        obtain ⟨⟨ob, f⟩, h1, _, h⟩ := hr
        exact .inr ⟨hcl, rfl, ob, h.symm, alloc_notRo h1⟩
      · rename_i hcl; rw [hvO, hcl] at hh; cases hh
      · rename_i hcl; rw [hvO, hcl] at hh; cases hh

end
end Go.Den

/- Regions that draw their order: one operation more. -/
namespace Go.Den
open Go

variable {P : Program} {w0 : World} {B : Nat} {φ : Emb} {m : Me} {w : World}

section
variable {K : Nat → Bool} {nt : Nat} {r : List AOper} {MT : Nat → List Nat} {Anc : Nat → Nat → Prop} {callF : CallF} {round : Nat → List AV → Me → Option (AV × Me)} {st : Nat → DS} {V : Nat → AV} {wt : Nat → Bool}

/-- What holds when the operations S have been made: the effects among them are those ahead of n. -/
structure Inv (P : Program) (w0 : World) (B : Nat) (r : List AOper) (Anc : Nat → Nat → Prop) (st : Nat → DS) (V : Nat → AV) (wt : Nat → Bool) (φ0 : Emb) (w1 : World) (t0 : Array Value)
    (S : Nat → Prop) (n : Nat) (φ : Emb) (μ : Me) (w : World) (t1 : Array Value) : Prop where
  sl : ∀ p, S p → p < r.length
  clo : ∀ p q, Anc p q → S q → S p
  slots : Slots r V S φ t0 t1
  size : t1.size = t0.size
  nle : n ≤ r.length
  hv : ∀ p a, r[p]? = some a → hvO a = true → (S p ↔ p < n)
  pz : n = 0 ∨ ∃ h a, n = h + 1 ∧ r[h]? = some a ∧ hvO a = true
  pm : (st n).mh = (st n).m
  fz : ∀ b, (st n).m.nx ≤ b → (st n).m.get b = none
  rel : Rel P w0 B φ μ w
  nx : μ.nx = (st r.length).m.nx
  base : Sub (st n).m μ
  al : ∀ p a, r[p]? = some a → S p → a.op.cls = .alloc → wt p = true → n ≤ p → ∀ ob, (st (p + 1)).m.get (st p).m.nx = some ob → μ.get (st p).m.nx = some ob
  ex : ∀ b o, (st n).m.nx ≤ b → μ.get b = some o → o.notRo
  dom : ∀ x, (st 0).m.nx ≤ x → x < (st r.length).m.nx → φ x ≠ none → ∃ p, S p ∧ (st p).m.nx ≤ x ∧ x < (st (p + 1)).m.nx
  gr : Gr φ0 φ (st 0).m.nx (st r.length).m.nx
  fr : Fr φ0 (st 0).m w1 φ μ w

variable {φ0 : Emb} {w1 : World} {t0 t1 : Array Value} {S : Nat → Prop} {n : Nat} {μ : Me}

theorem Inv.room (h : Inv P w0 B r Anc st V wt φ0 w1 t0 S n φ μ w t1) (hT : Trc callF round r st V wt) (hMC : MonC callF) (hMR : MonR round) {q : Nat} (hq : q < r.length) (hS : ¬ S q) : Room φ (st q).m.nx (st (q + 1)).m.nx := by
  intro x h1 h2
  by_cases hx : φ x = none
  · exact hx
  · exfalso
    have a1 := st_mono hT hMC hMR (Nat.zero_le q) (by omega)
    have a2 := st_mono hT hMC hMR (show q + 1 ≤ r.length by omega) (Nat.le_refl _)
    obtain ⟨p, g1, g2, g3⟩ := h.dom x (by omega) (by omega) hx
    have hpl := h.sl p g1
    rcases Nat.lt_trichotomy p q with h | h | h
    · have := st_mono hT hMC hMR (show p + 1 ≤ q by omega) (by omega); omega
    · subst h; exact hS g1
    · have := st_mono hT hMC hMR (show q + 1 ≤ p by omega) (by omega); omega

/-- What our way's memory was ahead of an operation is there. -/
theorem Inv.sub_at (h : Inv P w0 B r Anc st V wt φ0 w1 t0 S n φ μ w t1) (hT : Trc callF round r st V wt) : ∀ (d q : Nat), q = n + d → q ≤ r.length → (∀ p a, r[p]? = some a → n ≤ p → p < q → hvO a = false) →
    (∀ p a, r[p]? = some a → n ≤ p → p < q → a.op.cls = .alloc → S p) → Sub (st q).m μ ∧ (∀ b, (st q).m.nx ≤ b → (st q).m.get b = none) ∧ (st n).m.nx ≤ (st q).m.nx
  | 0, q, hq, _, _, _ => by subst hq; exact ⟨h.base, h.fz, Nat.le_refl _⟩
  | d + 1, q, hq, hl, hnh, hal => by
    subst hq
    obtain ⟨h1, h2, h4⟩ := h.sub_at hT d (n + d) rfl (by omega) (fun p a g1 g2 g3 => hnh p a g1 g2 (by omega)) (fun p a g1 g2 g3 => hal p a g1 g2 (by omega))
    have ha : r[n + d]? = some r[n + d] := List.getElem?_eq_getElem (by omega)
    rcases step_mem hT ha (hnh _ _ ha (by omega) (by omega)) with g | ⟨g1, g2, ob, g3, _⟩
    · rw [show n + (d + 1) = n + d + 1 by omega, g]; exact ⟨h1, h2, h4⟩
    · rw [show n + (d + 1) = n + d + 1 by omega]
      refine ⟨fun x o hx => ?_, fun b hb => ?_, ?_⟩
      · rw [g3, Me.get_new] at hx
        split at hx
        · rename_i hxx; cases hx
          subst hxx
          exact h.al (n + d) _ ha (hal _ _ ha (by omega) (by omega) g1) g1 g2 (by omega) _ (by rw [g3, Me.get_new, if_pos rfl])
        · exact h1 x o hx
      · rw [g3] at hb ⊢
        rw [Me.nx_new] at hb
        rw [Me.get_new, if_neg (by omega)]
        exact h2 b (by omega)
      · rw [g3, Me.nx_new]; omega

/-- Ahead of an effect, or of a read, in our order: what makes memory must come ahead of it. -/
theorem alloc_anc (hP : PD K nt r MT Anc) {p q : Nat} {a b : AOper} (ha : r[p]? = some a) (hb : r[q]? = some b) (hpq : p < q) (hc : a.op.cls = .alloc) (hc2 : hvO b = true ∨ b.op.cls = .read) : Anc p q := by
  rcases hP.pair p q a b ha hb hpq with g | ⟨_, _, g⟩
  · exact g
  · rw [hc] at g
    unfold hvO at hc2
    generalize b.op.cls = c at g hc2
    cases c <;> simp_all [memOk, heavyC]

theorem heavy_anc (hP : PD K nt r MT Anc) {p q : Nat} {a b : AOper} (ha : r[p]? = some a) (hb : r[q]? = some b) (hpq : p < q) (hc : hvO a = true) (hc2 : hvO b = true) : Anc p q := by
  rcases hP.pair p q a b ha hb hpq with g | ⟨_, _, g⟩
  · exact g
  · unfold hvO at hc hc2
    generalize b.op.cls = c at g hc2
    generalize a.op.cls = c' at g hc
    cases c <;> cases c' <;> simp_all [memOk, heavyC]

/-- An effect that may be made: it is the next one. -/
theorem Inv.heavy_at (h : Inv P w0 B r Anc st V wt φ0 w1 t0 S n φ μ w t1) (hP : PD K nt r MT Anc) (hT : Trc callF round r st V wt) {q : Nat} {a : AOper} (ha : r[q]? = some a) (hh : hvO a = true) (hq : ¬ S q) (hanc : ∀ p, Anc p q → S p) :
    n ≤ q ∧ Sub (st q).m μ ∧ (∀ b, (st q).m.nx ≤ b → (st q).m.get b = none) ∧ (st n).m.nx ≤ (st q).m.nx := by
  have hnq : n ≤ q := by
    rcases Nat.lt_or_ge q n with g | g
    · exact absurd ((h.hv q a ha hh).2 g) hq
    · exact g
  refine ⟨hnq, h.sub_at hT (q - n) q (by omega) (Nat.le_of_lt (lt_of_get ha)) (fun p b hb h1 h2 => ?_) (fun p b hb h1 h2 hc => hanc _ (alloc_anc hP hb ha h2 hc (.inl hh)))⟩
  cases hbb : hvO b with
  | false => rfl
  | true =>
    have := (h.hv p b hb hbb).1 (hanc _ (heavy_anc hP hb ha h2 hbb hh))
    omega

/-- Nothing is written twice: CH does not turn where there is no effect. -/
theorem CH_step {r : List AOper} {q : Nat} {a : AOper} (ha : r[q]? = some a) : CH r (q + 1) = CH r q + (if hvO a then 1 else 0) := by
  have hq := lt_of_get ha
  unfold CH
  rw [List.take_add_one, ha]
  simp only [Option.toList_some, List.filter_append, List.length_append]
  congr 1
  cases h : hvO a <;> simp [h]

theorem CH_mono {r : List AOper} : ∀ (d p : Nat), p + d ≤ r.length → CH r p ≤ CH r (p + d)
  | 0, _, _ => Nat.le_refl _
  | d + 1, p, h => by
    have ha : r[p + d]? = some r[p + d] := List.getElem?_eq_getElem (by omega)
    have h1 := CH_mono (r := r) d p (by omega)
    rw [show p + (d + 1) = p + d + 1 by omega, CH_step ha]
    omega

theorem CH_mono' {r : List AOper} {p q : Nat} (h : p ≤ q) (hq : q ≤ r.length) : CH r p ≤ CH r q := by
  have := CH_mono (r := r) (q - p) p (by omega)
  rwa [show p + (q - p) = q by omega] at this

/-- The first effect from a place on. -/
theorem first_heavy {r : List AOper} : ∀ (d p : Nat), p + d ≤ r.length → CH r p < CH r (p + d) → ∃ h a, p ≤ h ∧ h < p + d ∧ r[h]? = some a ∧ hvO a = true ∧ ∀ k b, r[k]? = some b → p ≤ k → k < h → hvO b = false
  | 0, p, _, h => by simp at h
  | d + 1, p, hl, h => by
    have ha : r[p]? = some r[p] := List.getElem?_eq_getElem (by omega)
    cases hh : hvO r[p] with
    | true => exact ⟨p, _, Nat.le_refl _, by omega, ha, hh, fun k b _ h1 h2 => by omega⟩
    | false =>
      have h1 := CH_step ha
      rw [hh] at h1
      obtain ⟨k, b, g1, g2, g3, g4, g5⟩ := first_heavy (r := r) d (p + 1) (by omega) (by rw [show p + 1 + d = p + (d + 1) by omega, h1]; simpa using h)
      refine ⟨k, b, by omega, by omega, g3, g4, fun k' b' q1 q2 q3 => ?_⟩
      by_cases hkp : k' = p
      · rw [hkp, ha] at q1; cases q1; exact hh
      · exact g5 k' b' q1 (by omega) q3

/-- Where there is no effect, memory behind the last one stays. -/
theorem mh_keep (hT : Trc callF round r st V wt) : ∀ (d p : Nat), p + d ≤ r.length → (∀ k b, r[k]? = some b → p ≤ k → k < p + d → hvO b = false) → (st (p + d)).mh = (st p).mh
  | 0, _, _, _ => rfl
  | d + 1, p, hl, h => by
    have ha : r[p + d]? = some r[p + d] := List.getElem?_eq_getElem (by omega)
    rw [show p + (d + 1) = p + d + 1 by omega, hT.mh _ _ ha, h _ _ ha (by omega) (by omega)]
    simp only [Bool.false_eq_true, if_false]
    exact mh_keep hT d p (by omega) fun k b h1 h2 h3 => h k b h1 h2 (by omega)

/-- A read answers, when it is made, as it did on our way. -/
theorem Inv.read_at (h : Inv P w0 B r Anc st V wt φ0 w1 t0 S n φ μ w t1) (hP : PD K nt r MT Anc) (hT : Trc callF round r st V wt) {q : Nat} {a : AOper} (ha : r[q]? = some a) (hc : a.op.cls = .read) (hw : wt q = true) (hq : ¬ S q) (hanc : ∀ p, Anc p q → S p) :
    ∃ mm, Sub mm μ ∧ (∀ b, mm.nx ≤ b → mm.get b = none) ∧ readV (look (st q).e (st q).fr) mm a.op = some (V q) := by
  have hql := lt_of_get ha
  have hself : hvO a = false := by simp [hvO, hc, heavyC]
  have hv0 : readV (look (st q).e (st q).fr) (st q).m a.op = some (V q) := by
    have := hT.run q a ha hw
    unfold operV at this
    split at this
    · rename_i hop; rw [hop] at hc; simp [AOp.cls] at hc
    · cases this
    · unfold simpleV at this
      rw [hc] at this
      simp only [map_some, Prod.mk.injEq] at this
      obtain ⟨v, h1, rfl, _⟩ := this
      exact h1
  have again : ∀ mm, againV mm ⟨0, a.op, (st q).e, (st q).fr, V q⟩ = true → readV (look (st q).e (st q).fr) mm a.op = some (V q) := by
    intro mm hmm
    unfold againV at hmm
    split at hmm
    · rename_i v hv
      rw [hv, AV.beq_eq _ _ hmm]
    · cases hmm
  have fin : readV (look (st q).e (st q).fr) (st n).m a.op = some (V q) → ∃ mm, Sub mm μ ∧ (∀ b, mm.nx ≤ b → mm.get b = none) ∧ readV (look (st q).e (st q).fr) mm a.op = some (V q) := fun hr => ⟨(st n).m, h.base, h.fz, hr⟩
  rcases Nat.lt_or_ge q n with hqn | hqn
  · -- effects behind it have been made
    rcases h.pz with h0 | ⟨k, b, rfl, hb, hbh⟩
    · omega
    · have hqk : q < k := by
        rcases Nat.lt_or_ge q k with g | g
        · exact g
        · have : q = k := by omega
          subst this; rw [ha] at hb; cases hb; rw [hself] at hbh; cases hbh
      have hcnt := hP.late q a ha hc (k + 1) h.nle (by omega) (fun k' b' hb' h1 h2 h3 hAnc => hq (h.clo _ _ hAnc ((h.hv k' b' hb' h3).2 h2)))
      have hs := CH_step hb
      rw [hbh] at hs
      simp only [if_true] at hs
      exact fin (again _ (hT.late q a ha hc hw k b hb hqk hbh (by omega)))
  · by_cases hcc : CH r n < CH r q
    · -- effects ahead of it have not been made yet
      obtain ⟨k, b, g1, g2, g3, g4, g5⟩ := first_heavy (r := r) (q - n) n (by omega) (by rw [show n + (q - n) = q by omega]; exact hcc)
      have hcnt := hP.early q a ha hc n hqn (fun k' b' hb' h1 h2 h3 hAnc => by have := (h.hv k' b' hb' h3).1 (hanc _ hAnc); omega)
      have hkm : (st k).mh = (st n).m := by
        have := mh_keep hT (k - n) n (by have := lt_of_get g3; omega) (fun k' b' h1 h2 h3 => g5 k' b' h1 h2 (by omega))
        rw [show n + (k - n) = k by omega] at this
        rw [this, h.pm]
      have hck : CH r n ≤ CH r k := CH_mono' g1 (Nat.le_of_lt (lt_of_get g3))
      have hr := again _ (hT.early q a ha hc hw k b g3 (by omega) g4 (by omega))
      rw [hkm] at hr
      exact fin hr
    · obtain ⟨s1, s2, s3⟩ := h.sub_at hT (q - n) q (by omega) (by omega) (fun p b hb h1 h2 => by
          cases hbb : hvO b with
          | false => rfl
          | true =>
            have e1 := CH_step hb
            rw [hbb] at e1
            simp only [if_true] at e1
            have e2 := CH_mono' (r := r) h1 (by omega)
            have e3 := CH_mono' (r := r) (show p + 1 ≤ q by omega) (by omega)
            omega) (fun p b hb h1 h2 hcb => hanc _ (alloc_anc hP hb ha h2 hcb (.inr hc)))
      exact ⟨_, s1, s2, hv0⟩

end
end Go.Den

/- Regions that draw their order: the step. -/
namespace Go.Den
open Go Go.RowKit

variable {P : Program} {w0 : World} {B : Nat} {φ : Emb} {m : Me} {w : World}

section
variable {K : Nat → Bool} {nt : Nat} {r : List AOper} {MT : Nat → List Nat} {Anc : Nat → Nat → Prop} {callF : CallF} {round : Nat → List AV → Me → Option (AV × Me)} {st : Nat → DS} {V : Nat → AV} {wt : Nat → Bool}
variable {φ0 : Emb} {w1 : World} {t0 t1 : Array Value} {S : Nat → Prop} {n : Nat} {μ : Me}

/-- What an operation sees of our way's slots. -/
def maskV (d : DS) (l : List Nat) : Opd → AV
  | .tmp t => if t ∈ l then look d.e d.fr (.tmp t) else .unk
  | .loc t => if t ∈ l then look d.e d.fr (.loc t) else .unk
  | x => look d.e d.fr x

theorem mask_same {d : DS} {l : List Nat} {a : AOp} (h : ∀ y ∈ a.opds, ∀ t, (y = .tmp t ∨ y = .loc t) → t ∈ l) : ∀ y ∈ a.opds, look d.e d.fr y = maskV d l y := by
  intro y hy
  cases y with
  | tmp t => simp only [maskV]; rw [if_pos (h _ hy t (.inl rfl))]
  | loc t => simp only [maskV]; rw [if_pos (h _ hy t (.inr rfl))]
  | const v => rfl
  | global g => rfl
  | func f => rfl

theorem mask_OpR (hG : GlobR P φ) {d : DS} {l : List Nat} {act : Act} (h : ∀ t, t ∈ l → VR φ (slotV K d t) (act.tmps.getD t Go.undef)) : OpR P φ K (maskV d l) act.eval := by
  intro x y hx
  cases x with
  | tmp t =>
    simp only [opd, Option.some.injEq] at hx
    subst hx
    have hs := h t
    unfold slotV at hs
    cases hK : K t
    · rw [hK] at hs
      simp only [Bool.false_eq_true, if_false, maskV] at hs ⊢
      split
      · rename_i ht; exact hs ht
      · exact .unk _
    · rw [hK] at hs
      simp only [if_true, maskV] at hs ⊢
      split
      · rename_i ht; exact hs ht
      · exact .unk _
  | const v =>
    simp only [opd, map_some] at hx
    obtain ⟨b, hb, rfl⟩ := hx
    exact toAV_VR _ _ _ hb
  | global g =>
    simp only [opd] at hx
    split at hx
    · rename_i hg
      cases hx
      obtain ⟨e, h1, h2, h3⟩ := hG g hg
      have := VR.ptr (i := 0) h1
      rw [h2, h3] at this
      exact this
    · cases hx
  | func f => cases hx; exact .func (.func f) .nil .nil

theorem wanted_sound2 {e : Env} {fr : T AV} {tmps : Array Value} {ops : Array Oper} {o : Oper} {g : Option (Opd × Bool)} (hg : cGuard K ops.toList o.guard = some g)
    (hs : ∀ t x b, g = some (x, b) → x = (if K t then Opd.tmp t else .loc t) → VR φ (look e fr x) (tmps.getD t Go.undef)) {b : Bool} (hw : wantedV e fr g = some b) : Region.wanted o (yielded ops tmps) = b := by
  unfold Region.wanted
  cases ho : o.guard with
  | none =>
    rw [ho] at hg
    simp only [cGuard, Option.some.injEq] at hg
    subst hg
    simp only [wantedV, Option.some.injEq] at hw
    exact hw
  | some jb =>
    obtain ⟨j, want⟩ := jb
    rw [ho] at hg
    simp only [cGuard] at hg
    split at hg
    · rename_i t hslot
      simp only [Option.some.injEq] at hg
      subst hg
      have hv := hs t _ want rfl rfl
      have hy : yielded ops tmps j = match tmps.getD t Go.undef with | .bool b => some b | _ => none := by
        unfold yielded
        have : (ops[j]?).bind (·.dst) = some t := by
          have h2 := hslot
          unfold slotOf at h2
          rw [← h2]
          simp
        rw [this]
        simp only [Option.bind_some, Array.getD_eq_getD_getElem?]
        cases htt : tmps[t]? with
        | none => simp [Go.undef]
        | some u => simp only [Option.getD_some]; cases u <;> rfl
      simp only [wantedV] at hw
      dsimp only
      rw [hy]
      generalize look e fr (if K t = true then .tmp t else .loc t) = x at hv hw
      generalize tmps.getD t Go.undef = x' at hv
      cases hv <;> simp_all
    · cases hg

/-- The parts of the invariant that hang on memory, behind one operation more. -/
theorem Inv.next (h : Inv P w0 B r Anc st V wt φ0 w1 t0 S n φ μ w t1) (hP : PD K nt r MT Anc) (hT : Trc callF round r st V wt) (hMC : MonC callF) (hMR : MonR round) {q : Nat} {a : AOper} (ha : r[q]? = some a) (hq : ¬ S q) (hanc : ∀ p, Anc p q → S p)
    {dst : Option Nat} (hdst : a.dst.map (·.2) = dst) (hnt : nt ≤ t0.size) {act : Act} (hact : act.tmps = t1) {φ' : Emb} (hg : Gr φ φ' (st q).m.nx (st (q + 1)).m.nx) {v' : Value} (hv : VR φ' (V q) v') {n' : Nat} {μ' : Me} {w' : World}
    (nle : n' ≤ r.length) (hhv : ∀ p a, r[p]? = some a → hvO a = true → ((S p ∨ p = q) ↔ p < n')) (pz : n' = 0 ∨ ∃ h a, n' = h + 1 ∧ r[h]? = some a ∧ hvO a = true) (pm : (st n').mh = (st n').m) (fz : ∀ b, (st n').m.nx ≤ b → (st n').m.get b = none)
    (rel : Rel P w0 B φ' μ' w') (nx : μ'.nx = (st r.length).m.nx) (base : Sub (st n').m μ')
    (al : ∀ p a, r[p]? = some a → (S p ∨ p = q) → a.op.cls = .alloc → wt p = true → n' ≤ p → ∀ ob, (st (p + 1)).m.get (st p).m.nx = some ob → μ'.get (st p).m.nx = some ob)
    (ex : ∀ b o, (st n').m.nx ≤ b → μ'.get b = some o → o.notRo) (fr : Fr φ μ w φ' μ' w') :
    Inv P w0 B r Anc st V wt φ0 w1 t0 (fun p => S p ∨ p = q) n' φ' μ' w' (act.put dst v').tmps where
  sl := fun p hp => by
    rcases hp with hp | hp
    · exact h.sl p hp
    · subst hp; exact lt_of_get ha
  clo := fun p p' hA hp => by
    rcases hp with hp | hp
    · exact .inl (h.clo p p' hA hp)
    · subst hp; exact .inl (hanc p hA)
  slots := (h.slots.mono hg.le).step hP h.clo ha hq hdst (by rw [h.size]; exact hnt) hv hact
  size := by
    rw [← h.size, ← hact]
    cases dst <;> simp [Act.put]
  nle := nle
  hv := hhv
  pz := pz
  pm := pm
  fz := fz
  rel := rel
  nx := nx
  base := base
  al := al
  ex := ex
  dom := fun x h1 h2 h3 => by
    by_cases hx : φ x = none
    · obtain ⟨g1, g2⟩ := hg.new x hx h3
      exact ⟨q, .inr rfl, g1, g2⟩
    · obtain ⟨p, g1, g2, g3⟩ := h.dom x h1 h2 hx
      exact ⟨p, .inl g1, g2, g3⟩
  gr := ⟨h.gr.le.trans hg.le, fun x h1 h2 => by
    by_cases hx : φ x = none
    · obtain ⟨g1, g2⟩ := hg.new x hx h2
      have hql := lt_of_get ha
      have a1 := st_mono hT hMC hMR (Nat.zero_le q) (by omega)
      have a2 := st_mono hT hMC hMR (show q + 1 ≤ r.length by omega) (Nat.le_refl _)
      omega
    · exact h.gr.new x h1 hx, h.gr.ab⟩
  fr := h.fr.trans fr

/-- What is no effect and makes no memory: all of memory stays. -/
theorem Inv.same (h : Inv P w0 B r Anc st V wt φ0 w1 t0 S n φ μ w t1) (hP : PD K nt r MT Anc) (hT : Trc callF round r st V wt) (hMC : MonC callF) (hMR : MonR round) {q : Nat} {a : AOper} (ha : r[q]? = some a) (hq : ¬ S q) (hanc : ∀ p, Anc p q → S p)
    {dst : Option Nat} (hdst : a.dst.map (·.2) = dst) (hnt : nt ≤ t0.size) {act : Act} (hact : act.tmps = t1) {v' : Value} (hv : VR φ (V q) v') (hh : hvO a = false) (hm : (st (q + 1)).m = (st q).m) (hal : a.op.cls = .alloc → wt q = false) :
    Inv P w0 B r Anc st V wt φ0 w1 t0 (fun p => S p ∨ p = q) n φ μ w (act.put dst v').tmps :=
  h.next hP hT hMC hMR ha hq hanc hdst hnt hact (by rw [hm]; exact Gr.refl _ _) hv h.nle (fun p b hb hbh => by
      constructor
      · rintro (g | rfl)
        · exact (h.hv p b hb hbh).1 g
        · rw [ha] at hb; cases hb; rw [hh] at hbh; cases hbh
      · exact fun g => .inl ((h.hv p b hb hbh).2 g)) h.pz h.pm h.fz h.rel h.nx h.base (fun p b hb hS hc hw hn ob hob => by
      rcases hS with hS | rfl
      · exact h.al p b hb hS hc hw hn ob hob
      · rw [ha] at hb; cases hb; rw [hal hc] at hw; cases hw) h.ex (Fr.refl _ _ _)

/-- An effect that is not wanted. -/
theorem Inv.skipped (h : Inv P w0 B r Anc st V wt φ0 w1 t0 S n φ μ w t1) (hP : PD K nt r MT Anc) (hT : Trc callF round r st V wt) (hMC : MonC callF) (hMR : MonR round) {q : Nat} {a : AOper} (ha : r[q]? = some a) (hq : ¬ S q) (hanc : ∀ p, Anc p q → S p)
    {dst : Option Nat} (hdst : a.dst.map (·.2) = dst) (hnt : nt ≤ t0.size) {act : Act} (hact : act.tmps = t1) {v' : Value} (hv : VR φ (V q) v') (hh : hvO a = true) (hm : (st (q + 1)).m = (st q).m) :
    Inv P w0 B r Anc st V wt φ0 w1 t0 (fun p => S p ∨ p = q) (q + 1) φ μ w (act.put dst v').tmps := by
  obtain ⟨hnq, s1, s2, s3⟩ := h.heavy_at hP hT ha hh hq hanc
  have hql := lt_of_get ha
  refine h.next hP hT hMC hMR ha hq hanc hdst hnt hact (by rw [hm]; exact Gr.refl _ _) hv (by omega) (fun p b hb hbh => ?_) (.inr ⟨q, a, rfl, ha, hh⟩) (by rw [hT.mh q a ha, if_pos hh]) (by rw [hm]; exact s2) h.rel h.nx (by rw [hm]; exact s1) (fun p b hb hS hc hw hn ob hob => ?_)
    (fun b o hb ho => h.ex b o (by rw [hm] at hb; omega) ho) (Fr.refl _ _ _)
  · constructor
    · rintro (g | rfl)
      · have := (h.hv p b hb hbh).1 g; omega
      · omega
    · intro g
      by_cases hpq : p = q
      · exact .inr hpq
      · exact .inl (hanc _ (heavy_anc hP hb ha (by omega) hbh hh))
  · rcases hS with hS | rfl
    · exact h.al p b hb hS hc hw (by omega) ob hob
    · omega

end
end Go.Den

/- Regions that draw their order: an operation, made. -/
namespace Go.Den
open Go Go.RowKit

variable {P : Program} {w0 : World} {B : Nat} {φ : Emb} {m : Me} {w : World}

section
variable {K : Nat → Bool} {nt : Nat} {r : List AOper} {MT : Nat → List Nat} {Anc : Nat → Nat → Prop} {callF : CallF} {round : Nat → List AV → Me → Option (AV × Me)} {st : Nat → DS} {V : Nat → AV} {wt : Nat → Bool}
variable {φ0 : Emb} {w1 : World} {t0 t1 : Array Value} {S : Nat → Prop} {n : Nat} {μ : Me}

theorem alloc_new (hT : Trc callF round r st V wt) {q : Nat} {a : AOper} (ha : r[q]? = some a) (hc : a.op.cls = .alloc) (hw : wt q = true) :
    ∃ ob f, allocV (look (st q).e (st q).fr) a.op = some (ob, f) ∧ V q = f (st q).m.nx ∧ (st (q + 1)).m = (st q).m.new ob := by
  have hr := hT.run q a ha hw
  unfold operV at hr
  split at hr
  · rename_i hop; rw [hop] at hc; cases hc
  · cases hr
  · unfold simpleV at hr
    rw [hc] at hr
    simp only [map_some, Prod.mk.injEq] at hr
    obtain ⟨⟨ob, f⟩, h1, h2, h3⟩ := hr
    exact ⟨ob, f, h1, h2.symm, h3.symm⟩

theorem oper_alloc {rr : Opd → AV} {a : AOp} {ob : Ob} {f : Nat → AV} (hc : a.cls = .alloc) (h : allocV rr a = some (ob, f)) (m : Me) : operV callF round rr m a = some (f m.nx, m.new ob) := by
  have : simpleV rr m a = some (f m.nx, m.new ob) := by
    unfold simpleV
    rw [hc]
    simp [h]
  unfold operV
  cases a <;> first | exact this | cases hc

theorem oper_pure {rr : Opd → AV} {a : AOp} {v : AV} (hc : a.cls = .pure) (h : pureV rr a = some v) (m : Me) : operV callF round rr m a = some (v, m) := by
  have : simpleV rr m a = some (v, m) := by
    unfold simpleV
    rw [hc]
    simp [h]
  unfold operV
  cases a <;> first | exact this | cases hc

theorem oper_pure' {rr : Opd → AV} {a : AOp} {v : AV} {m m' : Me} (hc : a.cls = .pure) (h : operV callF round rr m a = some (v, m')) : pureV rr a = some v ∧ m' = m := by
  unfold operV at h
  split at h
  · cases hc
  · cases h
  · unfold simpleV at h
    rw [hc] at h
    simp only [map_some, Prod.mk.injEq] at h
    obtain ⟨_, h1, rfl, h2⟩ := h
    exact ⟨h1, h2.symm⟩

/-- What makes memory. -/
theorem Inv.allocd (h : Inv P w0 B r Anc st V wt φ0 w1 t0 S n φ μ w t1) (hP : PD K nt r MT Anc) (hT : Trc callF round r st V wt) (hMC : MonC callF) (hMR : MonR round) {q : Nat} {a : AOper} (ha : r[q]? = some a) (hq : ¬ S q) (hanc : ∀ p, Anc p q → S p)
    {dst : Option Nat} (hdst : a.dst.map (·.2) = dst) (hnt : nt ≤ t0.size) {act : Act} (hact : act.tmps = t1) (hc : a.op.cls = .alloc) (hw : wt q = true) {ob : Ob} (hm : (st (q + 1)).m = (st q).m.new ob) (hnr : ob.notRo)
    {v' : Value} {w' : World} (hA : Aft P w0 B φ ⟨.e, (st q).m.nx⟩ w (V q) (Me.new ⟨.e, (st q).m.nx⟩ ob) v' w') :
    ∃ φ' μ', Inv P w0 B r Anc st V wt φ0 w1 t0 (fun p => S p ∨ p = q) n φ' μ' w' (act.put dst v').tmps := by
  obtain ⟨φ', h1, h2, h3, h4⟩ := hA
  have hql := lt_of_get ha
  have hh : hvO a = false := by simp [hvO, hc, heavyC]
  have hN : (st q).m.nx < (st r.length).m.nx := by
    have := st_mono hT hMC hMR (show q + 1 ≤ r.length by omega) (Nat.le_refl _)
    rw [hm, Me.nx_new] at this
    omega
  have hnq : n ≤ q := by
    rcases Nat.lt_or_ge q n with g | g
    · exfalso
      rcases h.pz with h0 | ⟨k, b, rfl, hb, hbh⟩
      · omega
      · have hqk : q ≠ k := fun e => by subst e; rw [ha] at hb; cases hb; rw [hh] at hbh; cases hbh
        exact hq (h.clo _ _ (alloc_anc hP ha hb (by omega) hc (.inl hbh)) ((h.hv k b hb hbh).2 (by omega)))
    · exact g
  have hge : ∀ b, (μ.put (st q).m.nx ob).get b = if b = (st q).m.nx then some ob else μ.get b := fun b => Me.get_put _ _ _ _
  have hge' : ∀ b, (Me.new ⟨.e, (st q).m.nx⟩ ob).get b = if b = (st q).m.nx then some ob else none := fun b => by
    rw [Me.get_new]
    split
    · rfl
    · exact T.get_e b
  obtain ⟨g1, g2⟩ := h.rel.glue (m := ⟨.e, (st q).m.nx⟩) (μ' := μ.put (st q).m.nx ob) (fun x o hx => by rw [show (Me.mk .e (st q).m.nx).get x = none from T.get_e x] at hx; cases hx) h3 h4 h2.le
    (fun b => by
      by_cases hb : b = (st q).m.nx
      · left; rw [hge, hge', if_pos hb, if_pos hb]
      · right; rw [hge, if_neg hb]
        exact ⟨rfl, fun o _ _ e _ b0 o0 e0 hb0 => by rw [show (Me.mk .e (st q).m.nx).get b0 = none from T.get_e b0] at hb0; cases hb0⟩)
    (fun b hb => by
      rw [Me.nx_put] at hb
      rw [hge, if_neg (by rw [h.nx] at hb; omega)]
      exact h.rel.fresh b hb)
  refine ⟨φ', _, h.next hP hT hMC hMR ha hq hanc hdst hnt hact (by rw [hm]; exact h2) h1 h.nle (fun p b hb hbh => ?_) h.pz h.pm h.fz g1 (by rw [Me.nx_put]; exact h.nx) (fun x o hx => ?_) (fun p b hb hS hcb hwb hn ob' hob => ?_) (fun b o hb ho => ?_) g2⟩
  · constructor
    · rintro (g | rfl)
      · exact (h.hv p b hb hbh).1 g
      · rw [ha] at hb; cases hb; rw [hh] at hbh; cases hbh
    · exact fun g => .inl ((h.hv p b hb hbh).2 g)
  · have hlt : x < (st n).m.nx := by
      rcases Nat.lt_or_ge x (st n).m.nx with g | g
      · exact g
      · rw [h.fz x g] at hx; cases hx
    have := st_mono hT hMC hMR hnq (by omega)
    rw [hge, if_neg (by omega)]
    exact h.base x o hx
  · by_cases hpq : p = q
    · subst hpq
      rw [hge, if_pos rfl]
      rw [hm, Me.get_new, if_pos rfl] at hob
      exact hob
    · have hSp : S p := hS.resolve_right hpq
      obtain ⟨ob2, _, _, _, hm2⟩ := alloc_new hT hb hcb hwb
      have hpl := lt_of_get hb
      have hne : (st p).m.nx ≠ (st q).m.nx := by
        rcases Nat.lt_or_ge p q with g | g
        · have := st_mono hT hMC hMR (show p + 1 ≤ q by omega) (by omega)
          rw [hm2, Me.nx_new] at this; omega
        · have := st_mono hT hMC hMR (show q + 1 ≤ p by omega) (by omega)
          rw [hm, Me.nx_new] at this; omega
      rw [hge, if_neg hne]
      exact h.al p b hb hSp hcb hwb hn ob' hob
  · rw [hge] at ho
    split at ho
    · cases ho; exact hnr
    · exact h.ex b o hb ho

/-- An effect, made. -/
theorem Inv.effd (h : Inv P w0 B r Anc st V wt φ0 w1 t0 S n φ μ w t1) (hP : PD K nt r MT Anc) (hT : Trc callF round r st V wt) (hMC : MonC callF) (hMR : MonR round) {q : Nat} {a : AOper} (ha : r[q]? = some a) (hq : ¬ S q) (hanc : ∀ p, Anc p q → S p)
    {dst : Option Nat} (hdst : a.dst.map (·.2) = dst) (hnt : nt ≤ t0.size) {act : Act} (hact : act.tmps = t1) (hh : hvO a = true)
    {v' : Value} {w' : World} (hA : Aft P w0 B φ (st q).m w (V q) (st (q + 1)).m v' w') :
    ∃ φ' μ', Inv P w0 B r Anc st V wt φ0 w1 t0 (fun p => S p ∨ p = q) (q + 1) φ' μ' w' (act.put dst v').tmps := by
  obtain ⟨φ', h1, h2, h3, h4⟩ := hA
  obtain ⟨hnq, s1, s2, s3⟩ := h.heavy_at hP hT ha hh hq hanc
  have hql := lt_of_get ha
  have hN := st_mono hT hMC hMR (show q + 1 ≤ r.length by omega) (Nat.le_refl _)
  have hq1 := st_mono hT hMC hMR (show q ≤ q + 1 by omega) (by omega)
  have hfr' : ∀ b, (st r.length).m.nx ≤ b → μ.get b = none := fun b hb => h.rel.fresh b (by rw [h.nx]; exact hb)
  have hge := join_get (μ := μ) (N := (st r.length).m.nx) h3.fresh hN hfr'
  obtain ⟨g1, g2⟩ := h.rel.glue (m := (st q).m) (μ' := join (st (q + 1)).m μ (st r.length).m.nx) s1 h3 h4 h2.le
    (fun b => by
      by_cases hb : b < (st (q + 1)).m.nx
      · left; rw [hge, if_pos hb]
      · right; rw [hge, if_neg hb]
        refine ⟨rfl, fun o ho hl e he b0 o0 e0 hb0 hl0 he0 hC => ?_⟩
        have := h.rel.apart b b0 o o0 e e0 ho (s1 _ _ hb0) (h.ex b o (by omega) ho) hl0 he he0 hC.symm
        subst this
        rw [s2 b (by omega)] at hb0
        cases hb0)
    (fun b hb => by
      have hb' : (st r.length).m.nx ≤ b := hb
      rw [hge, if_neg (by omega)]
      exact hfr' b hb')
  refine ⟨φ', _, h.next hP hT hMC hMR ha hq hanc hdst hnt hact h2 h1 (by omega) (fun p b hb hbh => ?_) (.inr ⟨q, a, rfl, ha, hh⟩) (by rw [hT.mh q a ha, if_pos hh]) h3.fresh g1 rfl (fun x o hx => ?_) (fun p b hb hS hcb hwb hn ob' hob => ?_) (fun b o hb ho => ?_) g2⟩
  · constructor
    · rintro (g | rfl)
      · have := (h.hv p b hb hbh).1 g; omega
      · omega
    · intro g
      by_cases hpq : p = q
      · exact .inr hpq
      · exact .inl (hanc _ (heavy_anc hP hb ha (by omega) hbh hh))
  · have hlt : x < (st (q + 1)).m.nx := by
      rcases Nat.lt_or_ge x (st (q + 1)).m.nx with g | g
      · exact g
      · rw [h3.fresh x g] at hx; cases hx
    rw [hge, if_pos hlt]; exact hx
  · have hpl := lt_of_get hb
    have hSp : S p := hS.resolve_right (by omega)
    have := st_mono hT hMC hMR hn (by omega)
    rw [hge, if_neg (by omega)]
    exact h.al p b hb hSp hcb hwb (by omega) ob' hob
  · rw [hge, if_neg (by omega)] at ho
    exact h.ex b o (by omega) ho

/-- An operation, as it comes. -/
theorem Inv.step (hC : CallS P w0 B callF) (hD : RoundS P w0 B round) (hMC : MonC callF) (hMR : MonR round) (hG : GlobR P φ0) (hP : PD K nt r MT Anc) (hT : Trc callF round r st V wt) (h0 : ∀ t, VR φ0 (slotV K (st 0) t) (t0.getD t Go.undef)) (hnt : nt ≤ t0.size)
    {act : Act} (h : Inv P w0 B r Anc st V wt φ0 w1 t0 S n φ μ w act.tmps) {q : Nat} {a : AOper} (ha : r[q]? = some a) (hq : ¬ S q) (hanc : ∀ p, Anc p q → S p)
    {ops : Array Oper} {o : Oper} (hc : cOp K P o.op = some a.op) (hgd : cGuard K ops.toList o.guard = some a.guard) (hd : a.dst = o.dst.map fun d => (K d, d)) {rr : Option Nat} {next : Act → World → Prop} {Q : Exit → Act → World → Prop}
    (hnext : ∀ act' w', act'.defers = act.defers → (∃ n' φ' μ', Inv P w0 B r Anc st V wt φ0 w1 t0 (fun p => S p ∨ p = q) n' φ' μ' w' act'.tmps) → next act' w') :
    if Region.wanted o (yielded ops act.tmps) then o.wpIn (Fw rr) 0 P act w next Q else (∀ f, o.about P w act.eval = some f → (Fw rr).fn f) ∧ next (act.put o.dst Go.undef) w := by
  have hql := lt_of_get ha
  have hGφ : GlobR P φ := hG.mono h.gr.le
  have hslot : ∀ t, t ∈ MT q → VR φ (slotV K (st q) t) (act.tmps.getD t Go.undef) := fun t ht => slots_look hP hT h.clo h.gr.le h.slots h0 hql hq hanc ht
  have hρ : OpR P φ K (maskV (st q) (MT q)) act.eval := mask_OpR hGφ hslot
  have hsame : ∀ y ∈ a.op.opds, look (st q).e (st q).fr y = maskV (st q) (MT q) y := mask_same (hP.opd q a ha)
  have hdst : a.dst.map (·.2) = o.dst := by rw [hd]; cases o.dst <;> rfl
  have hwant : Region.wanted o (yielded ops act.tmps) = wt q := by
    refine wanted_sound2 (φ := φ) hgd (fun t x b hx hxt => ?_) (hT.want q a ha)
    obtain ⟨g1, g2⟩ := hP.grd q a x b t ha hx (by rw [hxt]; cases K t <;> simp)
    have := hslot t g1
    unfold slotV at this
    rw [hxt]
    cases hK : K t
    · rw [hK] at this; exact this
    · rw [hK] at this; exact this
  have hdef : ∀ v', (act.put o.dst v').defers = act.defers := fun v' => by cases o.dst <;> rfl
  rw [hwant]
  cases hw : wt q with
  | false =>
    simp only [Bool.false_eq_true, if_false]
    refine ⟨fun _ _ => trivial, ?_⟩
    obtain ⟨s1, s2⟩ := hT.skip q a ha hw
    have hv : VR φ (V q) Go.undef := by rw [s1]; exact VR.undef φ
    refine hnext _ _ (hdef _) ?_
    cases hh : hvO a with
    | true => exact ⟨_, φ, μ, h.skipped hP hT hMC hMR ha hq hanc hdst hnt rfl hv hh s2⟩
    | false => exact ⟨_, φ, μ, h.same hP hT hMC hMR ha hq hanc hdst hnt rfl hv hh s2 fun _ => hw⟩
  | true =>
    simp only [if_true]
    have hrun := hT.run q a ha hw
    rw [oper_congr hsame] at hrun
    have plain : (∃ v', (execOp act.eval o).run P w = .ok (.value v') w ∧ VR φ (V q) v') → hvO a = false → (st (q + 1)).m = (st q).m → a.op.cls ≠ .alloc → o.wpIn (Fw rr) 0 P act w next Q := by
      rintro ⟨v', g1, g2⟩ hh hm hna
      refine ⟨fun _ _ => trivial, ?_⟩
      rw [Oper.semAt_eq _ _ _ (fun c h => by rw [h] at hc; simp [cOp] at hc), g1]
      exact hnext _ _ (hdef _) ⟨_, φ, μ, h.same hP hT hMC hMR ha hq hanc hdst hnt rfl g2 hh hm fun h => absurd h hna⟩
    cases hcl : a.op.cls with
    | pure =>
      obtain ⟨p1, p2⟩ := oper_pure' hcl hrun
      obtain ⟨v', g1, g2⟩ := pure_sound hρ hc hcl p1
      exact plain ⟨v', g1 w, g2⟩ (by simp [hvO, hcl, heavyC]) p2 (by rw [hcl]; simp)
    | read =>
      obtain ⟨mm, m1, m2, m3⟩ := h.read_at hP hT ha hcl hw hq hanc
      rw [read_congr hsame] at m3
      have hm : (st (q + 1)).m = (st q).m := by
        rcases step_mem hT ha (by simp [hvO, hcl, heavyC]) with g | ⟨g, _⟩
        · exact g
        · rw [hcl] at g; cases g
      exact plain (read_sound (h.rel.sub m1 m2) hρ hc hcl m3) (by simp [hvO, hcl, heavyC]) hm (by rw [hcl]; simp)
    | alloc =>
      obtain ⟨ob, f, a1, a2, a3⟩ := alloc_new hT ha hcl hw
      have hroom := h.room hT hMC hMR hql hq
      rw [a3, Me.nx_new] at hroom
      rw [alloc_congr hsame] at a1
      refine oper_wp (m := ⟨.e, (st q).m.nx⟩) (v := V q) (m' := Me.new ⟨.e, (st q).m.nx⟩ ob) hC hD hGφ ⟨fun b o hb => ?_, fun b o e hb => ?_, fun b b' o o' e e' hb => ?_, h.rel.below, h.rel.hB, fun b _ => T.get_e b⟩ hρ hc
        (by rw [oper_alloc hcl a1, a2]) hroom fun v' w' hA => ?_
      · rw [show (Me.mk .e (st q).m.nx).get b = none from T.get_e b] at hb; cases hb
      · rw [show (Me.mk .e (st q).m.nx).get b = none from T.get_e b] at hb; cases hb
      · rw [show (Me.mk .e (st q).m.nx).get b = none from T.get_e b] at hb; cases hb
      · obtain ⟨φ', μ', hI⟩ := h.allocd hP hT hMC hMR ha hq hanc hdst hnt rfl hcl hw a3 (alloc_notRo a1) hA
        exact hnext _ _ (hdef _) ⟨_, φ', μ', hI⟩
    | store =>
      have hh : hvO a = true := by simp [hvO, hcl, heavyC]
      obtain ⟨_, s1, s2, _⟩ := h.heavy_at hP hT ha hh hq hanc
      refine oper_wp hC hD hGφ (h.rel.sub s1 s2) hρ hc hrun (h.room hT hMC hMR hql hq) fun v' w' hA => ?_
      obtain ⟨φ', μ', hI⟩ := h.effd hP hT hMC hMR ha hq hanc hdst hnt rfl hh hA
      exact hnext _ _ (hdef _) ⟨_, φ', μ', hI⟩
    | eff =>
      have hh : hvO a = true := by simp [hvO, hcl, heavyC]
      obtain ⟨_, s1, s2, _⟩ := h.heavy_at hP hT ha hh hq hanc
      refine oper_wp hC hD hGφ (h.rel.sub s1 s2) hρ hc hrun (h.room hT hMC hMR hql hq) fun v' w' hA => ?_
      obtain ⟨φ', μ', hI⟩ := h.effd hP hT hMC hMR ha hq hanc hdst hnt rfl hh hA
      exact hnext _ _ (hdef _) ⟨_, φ', μ', hI⟩

end
end Go.Den

/- Regions that draw their order: the whole. -/
namespace Go.Den
open Go Go.RowKit

variable {P : Program} {w0 : World} {B : Nat} {φ : Emb} {m : Me} {w : World}

/-! ## What must come ahead of what -/
/-- Whatever is closed under what binds holds all that must come ahead. -/
theorem anc_closed (ops : List Oper) {S : Nat → Prop} (hS : ∀ j o, S j → ops[j]? = some o → ∀ i ∈ bindsOn o, S i) :
    ∀ (l : List Nat) (acc : List (Nat × Nat)), (∀ j mk, acc.lookup j = some mk → (∀ o, ops[j]? = some o → ∀ i ∈ bindsOn o, S i) → ∀ k, mk.testBit k = true → S k) →
      ∀ j mk, (ancs ops l acc).lookup j = some mk → (∀ o, ops[j]? = some o → ∀ i ∈ bindsOn o, S i) → ∀ k, mk.testBit k = true → S k
  | [], acc, h => h
  | i :: l, acc, h => by
    simp only [ancs]
    refine anc_closed ops hS l _ fun j mk hj hb k hk => ?_
    rw [List.lookup_cons] at hj
    split at hj
    · rename_i hji
      have hji : j = i := by simpa using hji
      subst hji
      simp only [Option.some.injEq] at hj
      subst hj
      cases ho : ops[j]? with
      | none => rw [ho] at hk; simp at hk
      | some o =>
        rw [ho] at hk
        simp only at hk
        have fold : ∀ (bs : List Nat), (∀ b ∈ bs, S b) → ∀ (s : Nat), (∀ k, s.testBit k = true → S k) → ∀ k, (bs.foldl (fun s j => s ||| 2 ^ j ||| ((acc.lookup j).getD 0)) s).testBit k = true → S k := by
          intro bs
          induction bs with
          | nil => intro _ s hs k hk; exact hs k hk
          | cons b bs ih =>
            intro hbs s hs k hk
            refine ih (fun x hx => hbs x (List.mem_cons_of_mem _ hx)) _ (fun k hk => ?_) k hk
            simp only [Nat.testBit_or, Bool.or_eq_true] at hk
            rcases hk with (hk | hk) | hk
            · exact hs k hk
            · rw [Nat.testBit_two_pow] at hk
              have : b = k := by simpa using hk
              subst this; exact hbs b (by simp)
            · have hb1 := hbs b (by simp)
              cases hl : acc.lookup b with
              | none => rw [hl] at hk; simp at hk
              | some mk =>
                rw [hl] at hk
                exact h b mk hl (fun o2 ho2 => hS b o2 hb1 ho2) k hk
        exact fold (bindsOn o) (hb o ho) 0 (fun k hk => by simp at hk) k hk
    · exact h j mk hj hb k hk

theorem anc_closed' {ops : List Oper} {l : List Nat} {S : Nat → Prop} (hS : ∀ j o, S j → ops[j]? = some o → ∀ i ∈ bindsOn o, S i) {i j : Nat} (h : ancB (ancs ops l []) i j = true) (hb : ∀ o, ops[j]? = some o → ∀ i ∈ bindsOn o, S i) : S i := by
  unfold ancB at h
  cases hl : (ancs ops l []).lookup j with
  | none => rw [hl] at h; simp at h
  | some mk =>
    rw [hl] at h
    exact anc_closed ops hS l [] (fun j mk hj => by simp at hj) j mk hl hb i h

theorem pairs_get {ops : List Oper} {as : List AOper} {an : List (Nat × Nat)} : ∀ {l : List Nat}, pairsOk ops as an l = true → ∀ (p q i j : Nat), l[p]? = some i → l[q]? = some j → p < q → pairOk ops as an i j = true
  | [], _, p, q, i, j, h, _, _ => by simp at h
  | x :: l, h, 0, q + 1, i, j, hp, hq, _ => by
    simp only [pairsOk, Bool.and_eq_true] at h
    simp only [List.getElem?_cons_zero, Option.some.injEq] at hp
    subst hp
    exact List.all_eq_true.1 h.1 j (List.mem_of_getElem? (by simpa using hq))
  | x :: l, h, p + 1, q + 1, i, j, hp, hq, hpq => by
    simp only [pairsOk, Bool.and_eq_true] at h
    exact pairs_get h.2 p q i j (by simpa using hp) (by simpa using hq) (by omega)
  | _ :: _, _, _, 0, _, _, _, _, h => by omega

theorem topo_get {ops : List Oper} : ∀ {l done : List Nat}, topoOk ops l done = true → ∀ (q j : Nat), l[q]? = some j → ∃ o, ops[j]? = some o ∧ ∀ i ∈ bindsOn o, i ∈ done ∨ ∃ p, p < q ∧ l[p]? = some i
  | [], _, _, q, j, h => by simp at h
  | x :: l, done, h, 0, j, hq => by
    simp only [topoOk, Bool.and_eq_true] at h
    simp only [List.getElem?_cons_zero, Option.some.injEq] at hq
    subst hq
    cases ho : ops[x]? with
    | none => rw [ho] at h; simp at h
    | some o =>
      rw [ho] at h
      exact ⟨o, rfl, fun i hi => .inl (by simpa using List.all_eq_true.1 h.1 i hi)⟩
  | x :: l, done, h, q + 1, j, hq => by
    simp only [topoOk, Bool.and_eq_true] at h
    obtain ⟨o, h1, h2⟩ := topo_get h.2 q j (by simpa using hq)
    refine ⟨o, h1, fun i hi => ?_⟩
    rcases h2 i hi with g | ⟨p, g1, g2⟩
    · rcases List.mem_cons.1 g with rfl | g
      · exact .inr ⟨0, by omega, rfl⟩
      · exact .inl g
    · exact .inr ⟨p + 1, by omega, by simpa using g2⟩

theorem mapM_get {α β : Type} {f : α → Option β} : ∀ {l : List α} {l' : List β}, l.mapM f = some l' → l'.length = l.length ∧ ∀ (i : Nat) (a : α), l[i]? = some a → ∃ b, f a = some b ∧ l'[i]? = some b
  | [], l', h => by simp only [List.mapM_nil, pure_some] at h; subst h; exact ⟨rfl, fun i a h => by simp at h⟩
  | x :: l, l', h => by
    simp only [List.mapM_cons, bind_some, pure_some] at h
    obtain ⟨b, hb, bs, hbs, rfl⟩ := h
    obtain ⟨h1, h2⟩ := mapM_get hbs
    refine ⟨by simp [h1], fun i a hi => ?_⟩
    cases i with
    | zero => simp only [List.getElem?_cons_zero, Option.some.injEq] at hi; subst hi; exact ⟨b, hb, rfl⟩
    | succ i => simpa using h2 i a (by simpa using hi)

/-- Counting those of a part. -/
theorem cnt_part {α : Type} (H G : α → Bool) {l' l : List α} (hs : l'.Sublist l) (h : ∀ x ∈ l', H x = true → G x = true) : (l'.filter H).length ≤ (l.filter fun x => H x && G x).length := by
  have : l'.filter H = l'.filter fun x => H x && G x := List.filter_congr fun x hx => by
    cases hH : H x with
    | false => rfl
    | true => rw [h x hx hH]; rfl
  rw [this]
  exact List.Sublist.length_le (hs.filter _)

theorem withEarly_same {as : List AOper} {l : List Nat} {an : List (Nat × Nat)} {j q : Nat} {a : AOper} : (withEarly as l an j q a).op = a.op ∧ (withEarly as l an j q a).dst = a.dst ∧ (withEarly as l an j q a).guard = a.guard := by
  unfold withEarly; split <;> exact ⟨rfl, rfl, rfl⟩

end Go.Den
