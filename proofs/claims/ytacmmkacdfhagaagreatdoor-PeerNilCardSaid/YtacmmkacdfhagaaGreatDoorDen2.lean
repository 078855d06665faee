/- The soundness of 'pureV', operation by operation. -/
import Derived.Test.YtacmmkacdfhagaaGreatDoorDen1

set_option linter.unusedSimpArgs false
set_option linter.unusedVariables false
set_option linter.unusedSectionVars false
set_option linter.deprecated false

namespace Go.Den
open Go Go.RowKit

variable {P : Program} {w0 : World} {B : Nat} {φ : Emb} {m : Me} {w : World}

/-- An operation that yields v' in every world. -/
def Py (P : Program) (φ : Emb) (ρ : Operand → Value) (o : Oper) (v : AV) : Prop := ∃ v', (∀ w, (execOp ρ o).run P w = .ok (.value v') w) ∧ VR φ v v'

theorem Py.of {ρ : Operand → Value} {o : Oper} {v : AV} {s : Sem Value} (he : execOp ρ o = (do pure (.value (← s)))) (h : Yi P φ s v) : Py P φ ρ o v := by
  obtain ⟨v', h1, h2⟩ := h
  exact ⟨v', fun w => by rw [he]; simp [h1], h2⟩

theorem opdO_rel {K : Nat → Bool} {r : Opd → AV} {ρ : Operand → Value} (hρ : OpR P φ K r ρ) {x : Option Operand} {y : Option Opd} (h : opdO P K x = some y) :
    (∀ v, y.map r = some v → ∃ v', x.map ρ = some v' ∧ VR φ v v') ∧ (y.map r = none → x.map ρ = none) := by
  cases x with
  | none =>
    simp only [opdO, Option.some.injEq] at h
    subst h
    exact ⟨fun v hv => by simp at hv, fun _ => rfl⟩
  | some x =>
    simp only [opdO, map_some] at h
    obtain ⟨z, hz, rfl⟩ := h
    refine ⟨fun v hv => ?_, fun hn => by simp at hn⟩
    simp only [Option.map_some, Option.some.injEq] at hv
    subst hv
    exact ⟨_, rfl, hρ _ _ hz⟩

theorem placesOf_sound {t : TypeId} {pl : Nat → Option (Nat × Nat)} (h : placesOf P t = some pl) :
    (∃ fs, und P t = some (.struct fs) ∧ ∃ ps : Array (Nat × Nat), (∀ w, (fs.mapM fun f => do pure (f.offset, ← sizeOf f.type) : Sem (Array (Nat × Nat))).run P w = .ok ps w) ∧ ∀ i x, pl i = some x → ps[i]? = some x) ∨
    (∃ n e s, und P t = some (.array n e) ∧ sz P e = some s ∧ ∀ i x, pl i = some x → some (i * s, s) = some x) := by
  unfold placesOf at h
  split at h
  · rename_i fs hu
    simp only [bind_some, pure_some] at h
    obtain ⟨l, hl, rfl⟩ := h
    refine .inl ⟨fs, hu, l.toArray, ?_, fun i x hx => by simpa using hx⟩
    have key : ∀ (fs : List Field) (l : List (Nat × Nat)), (fs.mapM fun f => do let s ← sz P f.type; pure (f.offset, s)) = some l → ∀ w, (fs.mapM fun f => do pure (f.offset, ← sizeOf f.type) : Sem (List (Nat × Nat))).run P w = .ok l w := by
      intro fs
      induction fs with
      | nil => intro l hl w; simp [pure] at hl; subst hl; rfl
      | cons f fs ih =>
        intro l hl w
        rw [List.mapM_cons] at hl
        simp only [bind_some, pure_some] at hl
        obtain ⟨p, ⟨s, hs, rfl⟩, l2, hl2, rfl⟩ := hl
        simp only [List.mapM_cons, Sem.run_bind, run_sz hs, Result.andThen_ok, Sem.run_pure, ih l2 hl2]
    intro w
    have := key fs.toList l hl w
    rw [Array.mapM_eq_mapM_toList]
    simp only [Sem.run_map, this, Result.andThen_ok]
  · rename_i n e hu
    simp only [bind_some, pure_some] at h
    obtain ⟨s, hs, rfl⟩ := h
    exact .inr ⟨n, e, s, hu, hs, fun i x hx => hx⟩
  · cases h

theorem run_zcells {t : TypeId} {z : List AV} (h : zcells P t = some z) : ∃ v : Value, (∀ w, (zeroValue t).run P w = .ok v w) ∧ (∀ φ, VRs φ z v.cells.toList) ∧ z.all AV.one = true := by
  unfold zcells at h
  split at h
  · rename_i z' hz
    split at h
    · rename_i hall
      cases h
      obtain ⟨v, h1, h2⟩ := run_zero' (P := P) hz
      exact ⟨v, h1, fun φ => (h2 φ).cells hall, hall⟩
    · cases h
  · cases h

theorem run_builtin {ρ : Operand → Value} {o : Oper} {c : Call} {b : Builtin} (ho : o.op = .call c) (hb : c.callee = .builtin b) :
    ∃ cs, execOp ρ o = builtin b c.argTypes o.type cs (c.args.map ρ) := by
  refine ⟨(c.args.map fun | .const _ => true | _ => false), ?_⟩
  simp only [execOp, ho, resolve, hb]
  rfl

theorem arr_of {α : Type} {a : Array α} {l : List α} (h : a.toList = l) : a = l.toArray := by rw [← h]

theorem opds_one {K : Nat → Bool} {l : List Operand} {x : Opd} (h : opds P K l = some [x]) : ∃ x', l = [x'] ∧ opd P K x' = some x := by
  cases l with
  | nil => simp [opds, pure] at h
  | cons a l =>
    unfold opds at h
    rw [List.mapM_cons] at h
    simp only [bind_some, pure_some] at h
    obtain ⟨y, hy, l2, hl, he⟩ := h
    cases he
    cases l with
    | nil => exact ⟨a, rfl, hy⟩
    | cons b l =>
      rw [List.mapM_cons] at hl
      simp only [bind_some, pure_some] at hl
      obtain ⟨_, _, _, _, h⟩ := hl
      cases h

theorem opds_two {K : Nat → Bool} {l : List Operand} {x y : Opd} (h : opds P K l = some [x, y]) : ∃ x' y', l = [x', y'] ∧ opd P K x' = some x ∧ opd P K y' = some y := by
  cases l with
  | nil => simp [opds, pure] at h
  | cons a l =>
    unfold opds at h
    rw [List.mapM_cons] at h
    simp only [bind_some, pure_some] at h
    obtain ⟨z, hz, l2, hl, he⟩ := h
    cases he
    obtain ⟨y', rfl, hy⟩ := opds_one (P := P) (K := K) (l := l) hl
    exact ⟨a, y', rfl, hz, hy⟩

theorem usd_none (T : Array TypeId) (t : TypeId) (n c : Nat) : Builtin.unsafeSliceData_ T t #[.slice none n c] = pure (.pointer none) := rfl
theorem usd_some (T : Array TypeId) (t : TypeId) (a : Addr) (n c : Nat) (h : c ≠ 0) : Builtin.unsafeSliceData_ T t #[.slice (some a) n c] = pure (.pointer (some a)) := by
  have : Builtin.unsafeSliceData_ T t #[.slice (some a) n c] = (do
    if c ≠ 0 then pure (.pointer (some a))
    else if (← viewAt a.block).isSome then pure (.pointer (some a))
    else pure (.pointer (some ⟨← newObj (.view a (← elemOf t)), 0, none⟩))) := rfl
  rw [this, if_pos h]

set_option maxHeartbeats 1000000 in
theorem builtin_pure_sound {K : Nat → Bool} {r : Opd → AV} {ρ : Operand → Value} (hρ : OpR P φ K r ρ) {o : Oper} {c : Call} {b : Builtin} (ho : o.op = .call c) (hb : c.callee = .builtin b) {a : AOp}
    (hc : cBuiltin K P b c.argTypes.toList c.args.toList = some a) (hcl : a.cls = .pure) {v : AV} (hv : pureV r a = some v) : Py P φ ρ o v := by
  obtain ⟨cs, he⟩ := run_builtin (ρ := ρ) ho hb
  unfold cBuiltin at hc
  simp only [bind_some] at hc
  obtain ⟨as, has, hc⟩ := hc
  have fin : ∀ {s : Sem Value}, execOp ρ o = (do pure (.value (← s))) → Yi P φ s v → Py P φ ρ o v := fun h1 h2 => Py.of h1 h2
  split at hc
  · -- len
    rename_i t x ht
    obtain ⟨x', hl, hx'⟩ := opds_one has
    have ha := arr_of hl
    have hT := arr_of ht
    rw [ha, hT] at he
    have hr := hρ x' x hx'
    split at hc
    · rename_i hu
      cases hc
      simp only [pureV] at hv
      split at hv
      · rename_i s heq; rw [heq] at hr; cases hv
        refine fin he ?_
        simp only [List.map_toArray, List.map_cons, List.map_nil]
        generalize ρ x' = xx at hr
        cases hr
        exact ⟨_, fun w => by simp [Builtin.len_, run_und hu]; rfl, .int _ _⟩
      · cases hv
    · rename_i e hu
      cases hc
      simp only [pureV] at hv
      split at hv
      · rename_i a n c' heq; rw [heq] at hr; cases hv
        refine fin he ?_
        simp only [List.map_toArray, List.map_cons, List.map_nil]
        generalize ρ x' = xx at hr
        cases hr <;> exact ⟨_, fun w => by simp [Builtin.len_, run_und hu]; rfl, .int _ _⟩
      · cases hv
    · rename_i n e hu
      cases hc
      simp only [pureV, Option.some.injEq] at hv
      subst hv
      refine fin he ?_
      simp only [List.map_toArray, List.map_cons, List.map_nil]
      exact ⟨_, fun w => by simp [Builtin.len_, run_und hu]; rfl, .int _ _⟩
    · cases hc; simp [AOp.cls] at hcl
    · rename_i e hu
      split at hc
      · rename_i n e2 hu2
        cases hc
        simp only [pureV, Option.some.injEq] at hv
        subst hv
        refine fin he ?_
        simp only [List.map_toArray, List.map_cons, List.map_nil]
        exact ⟨_, fun w => by simp [Builtin.len_, run_und hu, run_und hu2]; rfl, .int _ _⟩
      · cases hc
    · cases hc
  · -- cap
    rename_i t x ht
    obtain ⟨x', hl, hx'⟩ := opds_one has
    have ha := arr_of hl
    have hT := arr_of ht
    rw [ha, hT] at he
    have hr := hρ x' x hx'
    split at hc
    · rename_i e hu
      cases hc
      simp only [pureV] at hv
      split at hv
      · rename_i n c' heq; rw [heq] at hr; cases hv
        refine fin he ?_
        simp only [List.map_toArray, List.map_cons, List.map_nil]
        generalize ρ x' = xx at hr
        cases hr
        exact ⟨_, fun w => by simp [Builtin.cap_, run_und hu]; rfl, .int _ _⟩
      · cases hv
    · cases hc
  · split at hc
    · cases hc
    · simp only [bind_some] at hc
      obtain ⟨_, _, _, _, _, _, hc⟩ := hc
      split at hc
      · cases hc
      · simp only [pure_some] at hc; subst hc; simp [AOp.cls] at hcl
    · cases hc
  · split at hc
    · simp only [bind_some] at hc
      obtain ⟨_, _, hc⟩ := hc
      split at hc
      · cases hc
      · simp only [pure_some] at hc; subst hc; simp [AOp.cls] at hcl
    · cases hc
  · split at hc
    · simp only [bind_some, pure_some] at hc
      obtain ⟨_, _, rfl⟩ := hc
      simp [AOp.cls] at hcl
    · cases hc
  · split at hc
    · cases hc; simp [AOp.cls] at hcl
    · simp only [bind_some] at hc
      obtain ⟨_, _, _, _, hc⟩ := hc
      split at hc
      · cases hc
      · simp only [pure_some] at hc; subst hc; simp [AOp.cls] at hcl
    · cases hc
  · -- max
    cases hc
    simp only [pureV] at hv
    have hs := opds_VRs hρ has
    split at hv
    · rename_i u us heq
      rw [heq] at hs
      refine fin he ?_
      generalize hL : List.map ρ c.args.toList = L at hs
      cases hs with
      | cons hu hus =>
        rename_i u' us'
        have := mxn_sound (P := P) true us u v us' u' hv hu hus
        simp only [Builtin.max_, Array.toList_map, hL]
        exact this
    · cases hv
  · -- min
    cases hc
    simp only [pureV] at hv
    have hs := opds_VRs hρ has
    split at hv
    · rename_i u us heq
      rw [heq] at hs
      refine fin he ?_
      generalize hL : List.map ρ c.args.toList = L at hs
      cases hs with
      | cons hu hus =>
        rename_i u' us'
        have := mxn_sound (P := P) false us u v us' u' hv hu hus
        simp only [Builtin.min_, Array.toList_map, hL]
        exact this
    · cases hv
  · -- unsafe.SliceData
    rename_i x
    obtain ⟨x', hl, hx'⟩ := opds_one has
    have ha := arr_of hl
    rw [ha] at he
    have hr := hρ x' x hx'
    cases hc
    simp only [pureV] at hv
    split at hv
    · rename_i n c' heq; rw [heq] at hr; cases hv
      refine fin he ?_
      simp only [List.map_toArray, List.map_cons, List.map_nil]
      generalize ρ x' = xx at hr
      cases hr
      exact ⟨_, fun w => by rw [usd_none]; rfl, .ptrN⟩
    · rename_i bb i z n c' heq
      rw [heq] at hr
      split at hv
      · cases hv
      · rename_i hc0
        cases hv
        refine fin he ?_
        simp only [List.map_toArray, List.map_cons, List.map_nil]
        generalize ρ x' = xx at hr
        cases hr with
        | slice hf ho' => exact ⟨_, fun w => by rw [usd_some _ _ _ _ _ hc0]; rfl, .ptr hf⟩
        | sliceO hf ho' hz hcc hK =>
          rename_i c2 f
          have : c2 ≠ 0 := by omega
          exact ⟨_, fun w => by rw [usd_some _ _ _ _ _ this]; rfl, .ptr hf⟩
        | sliceE => exact absurd rfl hc0
    · cases hv
  · split at hc
    · split at hc
      · cases hc; simp [AOp.cls] at hcl
      · cases hc
    · cases hc
  · cases hc

set_option maxHeartbeats 1000000 in
theorem pure_sound {K : Nat → Bool} {r : Opd → AV} {ρ : Operand → Value} (hρ : OpR P φ K r ρ) {o : Oper} {a : AOp} (hc : cOp K P o.op = some a) (hcl : a.cls = .pure) {v : AV} (hv : pureV r a = some v) :
    Py P φ ρ o v := by
  cases ho : o.op <;> rw [ho] at hc <;> simp only [cOp] at hc
  case move x =>
    simp only [map_some] at hc
    obtain ⟨y, hy, rfl⟩ := hc
    simp only [pureV, Option.some.injEq] at hv
    subst hv
    exact ⟨ρ x, fun w => by simp [execOp, ho], hρ x y hy⟩
  case assign x =>
    simp only [map_some] at hc
    obtain ⟨y, hy, rfl⟩ := hc
    simp only [pureV, Option.some.injEq] at hv
    subst hv
    exact ⟨ρ x, fun w => by simp [execOp, ho], hρ x y hy⟩
  case pick c x y =>
    simp only [bind_some, pure_some] at hc
    obtain ⟨c', h1, x', h2, y', h3, rfl⟩ := hc
    simp only [pureV] at hv
    have hcr := hρ c c' h1
    split at hv
    · rename_i hb
      rw [hb] at hcr
      cases hv
      have : ρ c = .bool true := by generalize ρ c = u at hcr; cases hcr; rfl
      exact ⟨ρ x, fun w => by simp [execOp, ho, this, asBool], hρ x x' h2⟩
    · rename_i hb
      rw [hb] at hcr
      cases hv
      have : ρ c = .bool false := by generalize ρ c = u at hcr; cases hcr; rfl
      exact ⟨ρ y, fun w => by simp [execOp, ho, this, asBool], hρ y y' h3⟩
    · cases hv
  case alloc el =>
    simp only [bind_some, pure_some] at hc
    obtain ⟨z, _, rfl⟩ := hc
    simp [AOp.cls] at hcl
  case box el x =>
    simp only [bind_some, pure_some] at hc
    obtain ⟨z, _, rfl⟩ := hc
    simp [AOp.cls] at hcl
  case build t ps =>
    simp only [bind_some, pure_some] at hc
    obtain ⟨z, hz, pl, hpl, l, hl, rfl⟩ := hc
    simp only [pureV, map_some] at hv
    obtain ⟨cs, hcs, rfl⟩ := hv
    obtain ⟨zv, hzv, hzr, _⟩ := run_zcells hz
    rcases placesOf_sound hpl with ⟨fs, hu, pp, hpp, hple⟩ | ⟨n, e, s, hu, hs, hple⟩
    · obtain ⟨cs', hf, hr⟩ := fill_sound (pl' := (pp[·]?)) hρ hple ps.toList l hl z cs zv.cells (hzr φ) hcs
      refine Py.of (s := Instr.build t (ps.map fun (i, x) => (i, ρ x))) (by simp [execOp, ho]) ⟨.agg cs', fun w => ?_, .agg hr⟩
      simp only [Instr.build, Sem.run_bind, hzv, Result.andThen_ok, run_und hu]
      rw [hpp w]
      simp only [Result.andThen_ok, Array.toList_map]
      rw [hf]
      rfl
    · obtain ⟨cs', hf, hr⟩ := fill_sound (pl' := fun i => some (i * s, s)) hρ hple ps.toList l hl z cs zv.cells (hzr φ) hcs
      refine Py.of (s := Instr.build t (ps.map fun (i, x) => (i, ρ x))) (by simp [execOp, ho]) ⟨.agg cs', fun w => ?_, .agg hr⟩
      simp only [Instr.build, Sem.run_bind, hzv, Result.andThen_ok, run_und hu, run_sz hs, Array.toList_map]
      rw [hf]
      rfl
  case buildSlice t len ps =>
    split at hc
    · simp only [bind_some] at hc
      obtain ⟨s, _, z, _, l, _, hc⟩ := hc
      split at hc
      · cases hc
      · simp only [pure_some] at hc; subst hc; simp [AOp.cls] at hcl
    · cases hc
  case insert t m k v =>
    split at hc
    · simp only [bind_some, pure_some] at hc
      obtain ⟨_, _, _, _, _, _, _, _, rfl⟩ := hc
      simp [AOp.cls] at hcl
    · cases hc
  case load t x =>
    simp only [bind_some, pure_some] at hc
    obtain ⟨_, _, _, _, rfl⟩ := hc
    simp [AOp.cls] at hcl
  case store t x y =>
    simp only [bind_some, pure_some] at hc
    obtain ⟨_, _, _, _, _, _, rfl⟩ := hc
    simp [AOp.cls] at hcl
  case ready => cases hc
  case waits => cases hc
  case nilCheck x =>
    simp only [map_some] at hc
    obtain ⟨y, hy, rfl⟩ := hc
    have hr := hρ x y hy
    simp only [pureV] at hv
    generalize hx : ρ x = x' at hr
    refine ⟨x', fun w => ?_, ?_⟩
    · simp only [execOp, ho, hx]
      split at hv <;> (first | cases hv | skip)
      all_goals (rename_i heq; rw [heq] at hr; cases hr)
      all_goals (first | rfl | skip)
      all_goals (rename_i hf _ _; cases hf; rfl)
    · split at hv <;> (first | cases hv | skip)
      all_goals (rename_i heq; rw [heq] at hr; exact hr)
  case binOp op t x y yT =>
    simp only [bind_some, pure_some] at hc
    obtain ⟨q, hq, x', hx, y', hy, rfl⟩ := hc
    simp only [pureV] at hv
    refine Py.of (s := do eqGuard op t x y (ρ x) (ρ y); binOp op t (ρ x) (ρ y)) (by simp [execOp, ho]) (binV_sound (q := q) (fun hop => ?_) hv (hρ x x' hx) (hρ y y' hy))
    have hq' : (do
        let q ← eqT P 8 t
        match q with
        | .iface => if (isNilConst x || isNilConst y) = true then some q else none
        | .parts _ => if P.eqGuardType P.depth t = true then none else some q
        | q => some q) = some q := by
      rcases hop with rfl | rfl <;> exact hq
    simp only [bind_some] at hq'
    obtain ⟨q2, h1, h2⟩ := hq'
    split at h2
    · split at h2
      · rename_i hn
        cases h2
        exact ⟨h1, (fun _ => by simpa using hn), (fun l hl => by cases hl)⟩
      · cases h2
    · split at h2
      · cases h2
      · rename_i hn
        cases h2
        exact ⟨h1, (fun h => by cases h), (fun l hl => by simpa using hn)⟩
    · rename_i h3 h4
      cases h2
      exact ⟨h1, fun h => absurd h h3, fun l hl => (h4 l hl).elim⟩
  case unOp op t x =>
    simp only [map_some] at hc
    obtain ⟨y, hy, rfl⟩ := hc
    have hr := hρ x y hy
    simp only [pureV] at hv
    refine Py.of (s := Op.unary op (ρ x)) (by simp [execOp, ho]) ?_
    generalize ρ x = x' at hr
    unfold unV at hv
    split at hv
    · rename_i heq; rw [heq] at hr; cases hr; cases hv
      exact ⟨_, fun w => rfl, .int _ _⟩
    · rename_i heq; rw [heq] at hr; cases hr; cases hv
      exact ⟨_, fun w => rfl, .int _ _⟩
    · rename_i heq; rw [heq] at hr; cases hr; cases hv
      exact ⟨_, fun w => rfl, .bool _⟩
    · cases hv
  case convert src dst x =>
    rw [Option.bind_eq_some_iff] at hc
    obtain ⟨y, hy, hc⟩ := hc
    have hr := hρ x y hy
    refine Py.of (s := convert src dst (ρ x)) (by simp [execOp, ho]) ?_
    generalize ρ x = x' at hr
    unfold cConv at hc
    split at hc
    · rename_i k1 k2 hs hd
      cases hc
      simp only [pureV] at hv
      split at hv
      · rename_i h1 h2; cases h1; rw [h2] at hr; cases hr; cases hv
        exact ⟨_, fun w => by simp only [convert, Sem.run_bind, run_und hs, run_und hd, Result.andThen_ok]; rfl, .int _ _⟩
      · rename_i h1 h2; cases h1
      · rename_i h1 h2; cases h1
      · cases hv
    · rename_i hs hd
      cases hc
      simp only [pureV] at hv
      split at hv
      · rename_i h1 h2; cases h1
      · rename_i h1 h2; rw [h2] at hr; cases hr; cases hv
        exact ⟨_, fun w => by simp only [convert, Sem.run_bind, run_und hs, run_und hd, Result.andThen_ok]; rfl, .str _⟩
      · rename_i h1 h2; cases h1
      · cases hv
    · rename_i k1 hs hd
      cases hc
      simp only [pureV] at hv
      split at hv
      · rename_i h1 h2; cases h1
      · rename_i h1 h2; cases h1
      · rename_i h1 h2; rw [h2] at hr; cases hr; cases hv
        refine ⟨_, fun w => by simp only [convert, Sem.run_bind, run_und hs, run_und hd, Result.andThen_ok]; rfl, ?_⟩
        exact .str _
      · cases hv
    all_goals (first | (split at hc <;> cases hc <;> simp [AOp.cls] at hcl) | cases hc)
  case makeInterface t x =>
    split at hc
    · cases hc
    · rename_i d hn hu
      simp only [map_some] at hc
      obtain ⟨y, hy, rfl⟩ := hc
      simp only [pureV, Option.some.injEq] at hv
      subst hv
      refine Py.of (s := Instr.makeInterface t (ρ x)) (by simp [execOp, ho]) ⟨.iface t (ρ x), fun w => ?_, .iface t (hρ x y hy)⟩
      simp only [Instr.makeInterface, Sem.run_bind, run_und hu, Result.andThen_ok]
      rfl
    · cases hc
  case typeAssert x xt t ok =>
    split at hc
    · cases hc
    · rename_i hok
      split at hc
      · cases hc
      · rename_i d hn hu
        simp only [map_some] at hc
        obtain ⟨y, hy, rfl⟩ := hc
        simp only [pureV] at hv
        split at hv
        · rename_i u v1 hx
          split at hv
          · rename_i hut
            cases hv
            have hr := hρ x y hy
            rw [hx] at hr
            refine Py.of (s := Instr.typeAssert (ρ x) xt t ok) (by simp [execOp, ho]) ?_
            generalize ρ x = xv at hr
            cases hr with
            | iface _ h =>
              refine ⟨_, fun w => ?_, h⟩
              simp only [Instr.typeAssert, Sem.run_bind, run_und hu, Result.andThen_ok]
              have hok' : ok = false := by simpa using hok
              subst hok' hut
              first
                | rfl
                | (cases d <;> first | exact absurd rfl (hn _) | simp)
          · cases hv
        · cases hv
      · cases hc
  case makeFunc fn a b =>
    split at hc
    · rename_i f
      simp only [bind_some, pure_some] at hc
      obtain ⟨a', ha, b', hb, rfl⟩ := hc
      simp only [pureV, Option.some.injEq] at hv
      subst hv
      refine Py.of (s := Instr.makeFunc (.func f) (a.map ρ) (b.map ρ)) (by simp [execOp, ho]) ⟨_, fun w => rfl, .func (.func f) ?_ ?_⟩
      · simpa using opds_VRs hρ ha
      · simpa using opds_VRs hρ hb
    · cases hc
  case makeMap t r =>
    split at hc <;> cases hc
    simp [AOp.cls] at hcl
  case makeSlice t l c =>
    split at hc
    · simp only [bind_some] at hc
      obtain ⟨_, _, _, _, _, _, hc⟩ := hc
      split at hc
      · cases hc
      · simp only [bind_some, pure_some] at hc
        obtain ⟨_, _, _, _, rfl⟩ := hc
        simp [AOp.cls] at hcl
    · cases hc
  case slice t x lo hi mx =>
    simp only [bind_some, pure_some] at hc
    obtain ⟨k, hk, x', hx, lo', hlo, hi', hhi, mx', hmx, rfl⟩ := hc
    obtain ⟨l1, l2⟩ := opdO_rel hρ hlo
    obtain ⟨h1, h2⟩ := opdO_rel hρ hhi
    obtain ⟨m1, m2⟩ := opdO_rel hρ hmx
    have hr := hρ x x' hx
    refine Py.of (s := Instr.sliceAt t (ρ x) (lo.map ρ) (hi.map ρ) (mx.map ρ)) (by simp [execOp, ho]) ?_
    unfold cSlice at hk
    split at hk
    · rename_i hu
      cases hk
      simp only [pureV] at hv
      generalize hxx : ρ x = xx at hr
      generalize r x' = rx at hr hv
      unfold sliceV at hv
      split at hv
      · rename_i s _
        cases hr
        simp only [bind_some, pure_some] at hv
        split at hv
        · cases hv
        · rename_i hmn
          simp only [bind_some, pure_some] at hv
          obtain ⟨⟨l, h, k⟩, hb, hv⟩ := hv
          subst hv
          have hmx0 : mx'.map r = none := by simpa using hmn
          have hsz : ByteArray.size ⟨⟨s⟩⟩ = s.length := rfl
          refine ⟨.string (ByteArray.extract ⟨⟨s⟩⟩ l h), fun w => ?_, ?_⟩
          · obtain ⟨hrun, _⟩ := bounds_sound (P := P) (φ := φ) (isSlice := false) (mx' := none) hb l1 l2 h1 h2 (fun v hv => by cases hv) (fun _ => rfl) (Nat.le_refl _) w
            simp only [Instr.sliceAt, Sem.run_bind, run_und hu, Result.andThen_ok, Instr.slice, m2 hmx0, hsz]
            simp [hrun]
          · have := Go.ByteArray.extract_mk s l h
            rw [this]
            exact .str _
      · rename_i heq; cases heq
      · cases hv
    · rename_i e hu
      rw [Option.bind_eq_some_iff] at hk
      obtain ⟨z, hz, hk⟩ := hk
      split at hk
      · cases hk
      · rename_i hz0
        cases hk
        simp only [pureV] at hv
        generalize hxx : ρ x = xx at hr
        generalize r x' = rx at hr hv
        unfold sliceV at hv
        split at hv
        · rename_i heq; cases heq
        · rename_i z' a len cap hzz
          cases hzz
          simp only [bind_some, pure_some] at hv
          obtain ⟨⟨l, h, k⟩, hb, hv⟩ := hv
          have := slice_sl_sound (P := P) hu hz hz0 hb hr l1 l2 h1 h2 m1 m2 (v := v) (by
            cases a with
            | none => simpa [pure] using hv
            | some x => obtain ⟨b, i, zz⟩ := x; simpa [pure] using hv)
          obtain ⟨v', hrun, hvr⟩ := this
          refine ⟨v', fun w => ?_, hvr⟩
          simp only [Instr.sliceAt, Sem.run_bind, run_und hu, Result.andThen_ok]
          exact hrun w
        · cases hv
    · rename_i n e hu
      rw [Option.bind_eq_some_iff] at hk
      obtain ⟨z, hz, hk⟩ := hk
      split at hk
      · cases hk
      · cases hk; simp [AOp.cls] at hcl
    · split at hk
      · rw [Option.bind_eq_some_iff] at hk
        obtain ⟨z, hz, hk⟩ := hk
        split at hk
        · cases hk
        · cases hk; simp [AOp.cls] at hcl
      · cases hk
    · cases hk
  case fieldAddr s x f =>
    split at hc
    · rename_i fs hu
      split at hc
      · rename_i fd hf
        split at hc
        · cases hc
        · rename_i n hs hn
          simp only [map_some] at hc
          obtain ⟨y, hy, rfl⟩ := hc
          have hr := hρ x y hy
          simp only [pureV] at hv
          split at hv
          · rename_i b i heq
            rw [heq] at hr
            cases hv
            refine Py.of (s := Instr.fieldAt s (ρ x) f) (by simp [execOp, ho]) ?_
            generalize ρ x = xx at hr
            cases hr
            rename_i e he
            have hn0 : n ≠ 0 := fun h => hs h
            refine ⟨.pointer (some ⟨e.C, e.o + (i + fd.offset), none⟩), fun w => ?_, .ptr he⟩
            simp only [Instr.fieldAt, Sem.run_bind, run_und hu, Result.andThen_ok, hf, Instr.sureAddr, fieldPlace, Sem.run_pure, run_sz hn, if_neg hn0, add_off, Nat.add_assoc]
          · cases hv
        · cases hc
      · cases hc
    · cases hc
  case field s x f =>
    split at hc
    · rename_i fs hu
      split at hc
      · rename_i fd hf
        simp only [bind_some, pure_some] at hc
        obtain ⟨k, hk, y, hy, rfl⟩ := hc
        have hr := hρ x y hy
        simp only [pureV] at hv
        split at hv
        · rename_i cs heq
          rw [heq] at hr
          refine Py.of (s := Instr.field s (ρ x) f) (by simp [execOp, ho]) ?_
          generalize ρ x = xx at hr
          cases hr
          rename_i cs' hcs
          obtain ⟨v', h1, h2⟩ := run_part (P := P) hk hcs hv
          exact ⟨v', fun w => by simp [Instr.field, run_und hu, hf, asAgg, h1], h2⟩
        · cases hv
      · cases hc
    · cases hc
  case indexAddr t x i =>
    split at hc
    · rename_i len e hu
      simp only [bind_some, pure_some] at hc
      obtain ⟨z, hz, x', hx, i', hi, rfl⟩ := hc
      have hr := hρ x x' hx
      simp only [pureV] at hv
      split at hv
      · rename_i b j heq
        rw [heq] at hr
        simp only [map_some] at hv
        obtain ⟨k, hk, rfl⟩ := hv
        obtain ⟨kk, n, hin, hn0, hn1, hnk⟩ := idx_sound hk (hρ i i' hi)
        refine Py.of (s := Instr.indexAt t (ρ x) (ρ i)) (by simp [execOp, ho]) ?_
        rw [hin]
        generalize ρ x = xx at hr
        cases hr
        rename_i f hf
        refine ⟨.pointer (some ⟨f.C, f.o + (j + k * z), none⟩), fun w => ?_, .ptr hf⟩
        simp only [Instr.indexAt, asIntOf, Sem.run_bind, Sem.run_pure, run_und hu, Result.andThen_ok, Instr.sureAddr]
        simp [hn0, hn1, run_sz hz, add_off, hnk, Nat.add_assoc]
      · cases hv
    · rename_i e hu
      simp only [bind_some, pure_some] at hc
      obtain ⟨z, hz, x', hx, i', hi, rfl⟩ := hc
      have hr := hρ x x' hx
      simp only [pureV] at hv
      split at hv
      · rename_i b j zz len cap heq
        rw [heq] at hr
        simp only [map_some] at hv
        obtain ⟨k, hk, rfl⟩ := hv
        obtain ⟨kk, n, hin, hn0, hn1, hnk⟩ := idx_sound hk (hρ i i' hi)
        refine Py.of (s := Instr.indexAt t (ρ x) (ρ i)) (by simp [execOp, ho]) ?_
        rw [hin]
        generalize ρ x = xx at hr
        cases hr with
        | slice hf hop =>
          rename_i f
          refine ⟨.pointer (some ⟨f.C, f.o + (j + k * z), none⟩), fun w => ?_, .ptr hf⟩
          simp only [Instr.indexAt, asIntOf, Sem.run_bind, Sem.run_pure, run_und hu, Result.andThen_ok]
          simp [hn0, hn1, run_sz hz, add_off, hnk, Nat.add_assoc]
        | sliceO hf hop hzz hc hK =>
          rename_i c' f
          refine ⟨.pointer (some ⟨f.C, f.o + (j + k * z), none⟩), fun w => ?_, .ptr hf⟩
          simp only [Instr.indexAt, asIntOf, Sem.run_bind, Sem.run_pure, run_und hu, Result.andThen_ok]
          simp [hn0, hn1, run_sz hz, add_off, hnk, Nat.add_assoc]
        | sliceE hf hop hzz ha => omega
      · cases hv
    · cases hc
  case index t x i =>
    split at hc
    · rename_i len e hu
      simp only [bind_some, pure_some] at hc
      obtain ⟨z, hz, ag, hag, x', hx, i', hi, rfl⟩ := hc
      have hr := hρ x x' hx
      simp only [pureV] at hv
      split at hv
      · rename_i cs heq
        rw [heq] at hr
        rw [Option.bind_eq_some_iff] at hv
        obtain ⟨k, hk, hv⟩ := hv
        obtain ⟨kk, n, hin, hn0, hn1, hnk⟩ := idx_sound hk (hρ i i' hi)
        refine Py.of (s := Instr.index t (ρ x) (ρ i)) (by simp [execOp, ho]) ?_
        rw [hin]
        generalize ρ x = xx at hr
        cases hr
        rename_i cs' hcs
        obtain ⟨v', h1, h2⟩ := run_part (P := P) hag hcs hv
        refine ⟨v', fun w => ?_, h2⟩
        simp only [Instr.index, asIntOf, Sem.run_bind, Sem.run_pure, run_und hu, Result.andThen_ok]
        simp [hn0, hn1, run_sz hz, hnk, h1]
      · cases hv
    · rename_i hu
      simp only [bind_some, pure_some] at hc
      obtain ⟨x', hx, i', hi, rfl⟩ := hc
      have hr := hρ x x' hx
      simp only [pureV] at hv
      split at hv
      · rename_i s heq
        rw [heq] at hr
        rw [Option.bind_eq_some_iff] at hv
        obtain ⟨k, hk, hv⟩ := hv
        simp only [map_some] at hv
        obtain ⟨c, hcc, rfl⟩ := hv
        obtain ⟨kk, n, hin, hn0, hn1, hnk⟩ := idx_sound hk (hρ i i' hi)
        refine Py.of (s := Instr.index t (ρ x) (ρ i)) (by simp [execOp, ho]) ?_
        rw [hin]
        generalize ρ x = xx at hr
        cases hr
        refine ⟨.int .u8 c.toNat, fun w => ?_, .int _ _⟩
        have hlt : k < s.length := (List.getElem?_eq_some_iff.1 hcc).1
        have hgc : (⟨⟨s⟩⟩ : ByteArray)[n.toNat]? = some c := by
          rw [hnk, Go.ByteArray.getElem?_lt' _ _ (show k < (⟨⟨s⟩⟩ : ByteArray).size from hlt)]
          have := (List.getElem?_eq_some_iff.1 hcc).2
          rw [← this]; rfl
        simp only [Instr.index, asIntOf, Sem.run_bind, Sem.run_pure, run_und hu, Result.andThen_ok]
        simp [hn0, hgc]
      · cases hv
    · cases hc
  case lookup t x i ok =>
    split at hc
    · simp only [bind_some, pure_some] at hc
      obtain ⟨_, _, _, _, _, _, _, _, rfl⟩ := hc
      simp [AOp.cls] at hcl
    · cases hc
  case mapUpdate t m k v =>
    split at hc
    · simp only [bind_some, pure_some] at hc
      obtain ⟨_, _, _, _, _, _, _, _, rfl⟩ := hc
      simp [AOp.cls] at hcl
    · cases hc
  case mapEntry t m k =>
    split at hc
    · simp only [bind_some, pure_some] at hc
      obtain ⟨_, _, _, _, _, _, _, _, rfl⟩ := hc
      simp [AOp.cls] at hcl
    · cases hc
  case entryStore t m s x =>
    simp only [bind_some, pure_some] at hc
    obtain ⟨_, _, _, _, _, _, rfl⟩ := hc
    simp [AOp.cls] at hcl
  case range t x =>
    split at hc
    · simp only [map_some] at hc
      obtain ⟨_, _, rfl⟩ := hc
      simp [AOp.cls] at hcl
    · simp only [map_some] at hc
      obtain ⟨_, _, rfl⟩ := hc
      simp [AOp.cls] at hcl
    · cases hc
  case next it isS =>
    simp only [map_some] at hc
    obtain ⟨_, _, rfl⟩ := hc
    split at hcl <;> simp [AOp.cls] at hcl
  case entry it =>
    simp only [map_some] at hc
    obtain ⟨_, _, rfl⟩ := hc
    simp [AOp.cls] at hcl
  case extract x i =>
    simp only [map_some] at hc
    obtain ⟨y, hy, rfl⟩ := hc
    have hr := hρ x y hy
    simp only [pureV] at hv
    split at hv
    · rename_i vs heq
      rw [heq] at hr
      refine Py.of (s := Instr.extract (ρ x) i) (by simp [execOp, ho]) ?_
      generalize ρ x = xx at hr
      cases hr
      rename_i vs' hvs
      obtain ⟨v', h1, h2⟩ := hvs.get i v hv
      refine ⟨v', fun w => ?_, h2⟩
      have : vs'[i]? = some v' := by simpa using h1
      simp [Instr.extract, this]
    · cases hv
  case call c =>
    split at hc
    · simp only [bind_some, pure_some] at hc
      obtain ⟨_, _, _, _, rfl⟩ := hc
      simp [AOp.cls] at hcl
    · rename_i b hb
      exact builtin_pure_sound hρ ho hb hc hcl hv
    · simp only [bind_some, pure_some] at hc
      obtain ⟨_, _, _, _, rfl⟩ := hc
      simp [AOp.cls] at hcl
  all_goals cases hc

end Go.Den

/- Operations that read memory: the soundness of 'readV'. -/
namespace Go.Den
open Go Go.RowKit

variable {P : Program} {w0 : World} {B : Nat} {φ : Emb} {m : Me} {w : World}

theorem Ob.cell_live {ob : Ob} {i : Nat} {v : AV} (h : ob.cell i = some v) : ob.live ∧ ∃ t size d el md, ob = .cells t size d el md ∧ i < size := by
  unfold Ob.cell at h
  split at h
  · rename_i t size d el md
    split at h
    · rename_i hi; exact ⟨trivial, _, _, _, _, _, rfl, hi⟩
    · cases h
  · cases h

/-- Where a block of cells lies, and what it holds. -/
theorem Rel.cells (h : Rel P w0 B φ m w) {b : Nat} {t : T AV} {size : Nat} {d : Option AV} {el : TypeId} {md : Md} (hg : m.get b = some (.cells t size d el md)) {e : E} (he : φ b = some e) :
    ∃ cc el' fz, w.heap[e.C]? = some (.cells cc el' fz) ∧ (∀ i, i < size → ∃ v', cc[e.o + i]? = some v' ∧ ∀ v, (Ob.cells t size d el md).cell i = some v → VR φ v v') ∧
      size ≤ e.K ∧ e.o + e.K ≤ cc.size ∧ MdR P e size el cc el' fz md := by
  obtain ⟨e', o', h1, h2, h3⟩ := h.live b _ hg trivial
  rw [he] at h1; cases h1
  cases h3 with
  | cells hc hK hs hm => exact ⟨_, _, _, h2, hc, hK, hs, hm⟩

theorem cellsFrom_sound {t : T AV} {size : Nat} {d : Option AV} {el : TypeId} {md : Md} {cc : Array Value} {o : Nat}
    (hc : ∀ i, i < size → ∃ v', cc[o + i]? = some v' ∧ ∀ v, (Ob.cells t size d el md).cell i = some v → VR φ v v') :
    ∀ (n i : Nat) (vs : List AV), (Ob.cells t size d el md).cellsFrom i n = some vs → VRs φ vs ((cc.toList.drop (o + i)).take n) ∧ (n ≠ 0 → i + n ≤ size) ∧ vs.length = n
  | 0, i, vs, h => by simp only [Ob.cellsFrom, Option.some.injEq] at h; subst h; simp only [List.take_zero]; exact ⟨.nil, fun h => absurd rfl h, rfl⟩
  | n + 1, i, vs, h => by
    simp only [Ob.cellsFrom] at h
    split at h
    · rename_i v hv
      simp only [map_some] at h
      obtain ⟨vs2, h2, rfl⟩ := h
      obtain ⟨_, _, _, _, _, _, heq, hi⟩ := Ob.cell_live hv
      cases heq
      obtain ⟨v', h3, h4⟩ := hc i hi
      obtain ⟨h5, h6, h7⟩ := cellsFrom_sound hc n (i + 1) vs2 h2
      have hlt : o + i < cc.toList.length := by have := (Array.getElem?_eq_some_iff.1 h3).1; simpa using this
      have : cc.toList.drop (o + i) = v' :: cc.toList.drop (o + (i + 1)) := by
        rw [List.drop_eq_getElem_cons hlt]
        congr 1
        have := (Array.getElem?_eq_some_iff.1 h3).2
        simpa using this
      rw [this, List.take_succ_cons]
      refine ⟨.cons (h4 v hv) h5, fun _ => ?_, by simp [h7]⟩
      by_cases hn : n = 0
      · subst hn; omega
      · have := h6 hn; omega
    · cases h

/-- What is laid at an address, read off. -/
theorem load_sound (h : Rel P w0 B φ m w) {b i : Nat} {e : E} (he : φ b = some e) {n : Option Nat} {t : TypeId} (ht : aggN P t = some n) {ob : Ob} (hg : m.get b = some ob) {v : AV}
    (hv : ob.loadV i n = some v) (hz : n ≠ some 0) :
    ∃ v', (loadVar t ⟨e.C, e.o + i, none⟩).run P w = .ok v' w ∧ VR φ v v' := by
  cases n with
  | none =>
    simp only [Ob.loadV] at hv
    obtain ⟨_, tt, size, d, el, md, rfl, hi⟩ := Ob.cell_live hv
    obtain ⟨cc, el', fz, h1, h2, h3, h4, h5⟩ := h.cells hg he
    obtain ⟨v', h6, h7⟩ := h2 i hi
    refine ⟨v', ?_, h7 v hv⟩
    simp only [loadVar, Sem.run_bind, aggN_none ht, Result.andThen_ok, Bool.false_eq_true, if_false, run_load, cell_of h1, h6]
  | some n =>
    simp only [Ob.loadV, map_some] at hv
    obtain ⟨vs, hvs, rfl⟩ := hv
    have hn : n ≠ 0 := fun h => hz (by rw [h])
    obtain ⟨t0, size, d, el, md, rfl⟩ : ∃ t0 size d el md, ob = .cells t0 size d el md := by
      cases n with
      | zero => exact absurd rfl hn
      | succ n =>
        simp only [Ob.cellsFrom] at hvs
        split at hvs
        · rename_i u hu
          obtain ⟨_, t0, size, d, el, md, rfl, _⟩ := Ob.cell_live hu
          exact ⟨_, _, _, _, _, rfl⟩
        · cases hvs
    obtain ⟨cc, el', fz, h1, h2, h3, h4, h5⟩ := h.cells hg he
    obtain ⟨g1, g2, g3⟩ := cellsFrom_sound h2 n i vs hvs
    have := g2 hn
    obtain ⟨a1, a2⟩ := aggN_some ht w
    refine ⟨.agg ((cc.toList.drop (e.o + i)).take n).toArray, ?_, .agg g1⟩
    simp only [loadVar, Sem.run_bind, a1, a2, Result.andThen_ok, if_true, run_loadCells_of h1 (show e.o + i + n ≤ cc.size by omega)]
    rfl

theorem bytesV_sound : ∀ (vs : List AV) (bs : List UInt8) (vs' : List Value), bytesV vs = some bs → VRs φ vs vs' → ∀ (s : ByteArray) (w : World),
    (forIn vs' s fun (c : Value) (__s : ByteArray) => (match c with
              | Value.int IntKind.u8 n => pure (ForInStep.yield (__s.push (UInt8.ofNat n.toNat)))
              | _ => do
                stuck "bytesToString: byte expected"
                pure (ForInStep.yield __s) : Sem (ForInStep ByteArray))).run P w = .ok ⟨⟨s.data.toList ++ bs⟩⟩ w := by
  intro vs
  induction vs with
  | nil =>
    intro bs vs' h hr s w
    cases hr
    simp only [bytesV, Option.some.injEq] at h
    subst h
    simp
  | cons v vs ih =>
    intro bs vs' h hr s w
    cases hr with
    | cons hv ht =>
      unfold bytesV at h
      split at h
      · rename_i heq; cases heq
      · rename_i n l heq
        cases heq
        simp only [map_some] at h
        obtain ⟨bs2, h2, rfl⟩ := h
        cases hv
        rw [List.forIn_cons]
        simp only [pure_bind]
        rw [ih bs2 _ h2 ht]
        congr 3
        simp
      · cases h

theorem findV_sound {t : TypeId} {q : EqT} (hq : eqT P 6 t = some q) {k : AV} {k' : Value} (hk : VR φ k k') : ∀ (es : List (AV × AV × Nat)) (es' : List MapEntry), MR φ es es' → ∀ (i : Nat) (r : Option (Nat × AV)), findV q k es i = some r →
    ∃ r', (∀ w, (Instr.findAsking t k' es' i).run P w = .ok r' w) ∧
      (match r with | none => r' = none | some (j, v) => ∃ v', r' = some (j, v') ∧ VR φ v v' ∧ i ≤ j ∧ ∃ k0 n e, es[j - i]? = some (k0, v, n) ∧ es'[j - i]? = some e ∧ e.val = v' ∧ eqV 400 q k k0 = some true) := by
  intro es es' h
  induction h with
  | nil =>
    intro i r hr
    simp only [findV, Option.some.injEq] at hr
    subst hr
    exact ⟨none, fun w => rfl, rfl⟩
  | cons hk0 hv hb t2 ih =>
    rename_i k0 v n e l l'
    intro i r hr
    simp only [findV] at hr
    split at hr
    · rename_i heq
      cases hr
      have := fun w => equal_sound (P := P) (by omega) hq heq hk hk0 w
      exact ⟨some (i, e.val), fun w => by simp [Instr.findAsking, this], e.val, rfl, hv, Nat.le_refl _, k0, n, e, by simp, by simp, rfl, heq⟩
    · rename_i heq
      have := fun w => equal_sound (P := P) (by omega) hq heq hk hk0 w
      obtain ⟨r', h1, h2⟩ := ih (i + 1) r hr
      refine ⟨r', fun w => by simp [Instr.findAsking, this, h1], ?_⟩
      cases r with
      | none => exact h2
      | some jv =>
        obtain ⟨j, v2⟩ := jv
        obtain ⟨v', g1, g2, g3, k1, n1, e1, g4, g5, g6, g7⟩ := h2
        refine ⟨v', g1, g2, by omega, k1, n1, e1, ?_, ?_, g6, g7⟩
        · rw [show j - i = (j - (i + 1)) + 1 by omega]; simpa using g4
        · rw [show j - i = (j - (i + 1)) + 1 by omega]; simpa using g5
    · cases hr

/-- A key's type, and what is done with a key of it. -/
theorem keyT_eqT {t : TypeId} {q : EqT} (h : keyT P t = some q) : eqT P 6 t = some q := by
  unfold keyT at h
  simp only [bind_some] at h
  obtain ⟨q', h1, h2⟩ := h
  split at h2
  · cases h2; exact h1
  · cases h2; exact h1
  · cases h2; exact h1
  · split at h2
    · cases h2; exact h1
    · cases h2
  · cases h2


theorem sameNow_sound {d : TypeDesc} {q : EqT} {k k0 : AV} {k' k0' : Value} {b c : Bool} (h : Instr.sameNow d k' k0' = some b) (hc : eqV 400 q k k0 = some c) (hk : VR φ k k') (hk0 : VR φ k0 k0') : b = c := by
  unfold Instr.sameNow at h
  split at h
  · split at h
    · cases h
      cases hk <;> cases hk0 <;> cases q <;> simp [eqV] at hc
      simp_all
    · cases h
  · cases h
    cases hk <;> cases hk0 <;> cases q <;> simp [eqV] at hc
    rename_i s s'
    have : ((⟨⟨s⟩⟩ : ByteArray) == ⟨⟨s'⟩⟩) = (s == s') := by
      show ((⟨s⟩ : Array UInt8) == ⟨s'⟩) = (s == s')
      simp
    rw [this, ← hc]
  · cases h
    cases hk <;> cases hk0 <;> cases q <;> simp [eqV] at hc
    rw [← hc]
  · cases h

def FoundR (P : Program) (φ : Emb) (q : EqT) (k : AV) (es : List (AV × AV × Nat)) (es' : List MapEntry) (i : Nat) (r : Option (Nat × AV)) (r' : Option (Nat × Value)) : Prop :=
  match r with | none => r' = none | some (j, v) => ∃ v', r' = some (j, v') ∧ VR φ v v' ∧ i ≤ j ∧ ∃ k0 n e, es[j - i]? = some (k0, v, n) ∧ es'[j - i]? = some e ∧ e.val = v' ∧ eqV 400 q k k0 = some true

theorem FoundR.step {q : EqT} {k : AV} {x : AV × AV × Nat} {es : List (AV × AV × Nat)} {e : MapEntry} {es' : List MapEntry} {i : Nat} {r : Option (Nat × AV)} {r' : Option (Nat × Value)} (h : FoundR P φ q k es es' (i + 1) r r') :
    FoundR P φ q k (x :: es) (e :: es') i r r' := by
  cases r with
  | none => exact h
  | some jv =>
    obtain ⟨j, v2⟩ := jv
    obtain ⟨v', g1, g2, g3, k1, n1, e1, g4, g5, g6, g7⟩ := h
    refine ⟨v', g1, g2, by omega, k1, n1, e1, ?_, ?_, g6, g7⟩
    · rw [show j - i = (j - (i + 1)) + 1 by omega]; simpa using g4
    · rw [show j - i = (j - (i + 1)) + 1 by omega]; simpa using g5

theorem findNow_sound {d : TypeDesc} {q : EqT} {k : AV} {k' : Value} (hk : VR φ k k') : ∀ (es : List (AV × AV × Nat)) (es' : List MapEntry), MR φ es es' → ∀ (i : Nat) (r : Option (Nat × AV)) (r' : Option (Nat × Value)), findV q k es i = some r →
    Instr.findNow d k' es' i = some r' → FoundR P φ q k es es' i r r' := by
  intro es es' h
  induction h with
  | nil =>
    intro i r r' hr hr'
    simp only [findV, Option.some.injEq] at hr
    simp only [Instr.findNow, Option.some.injEq] at hr'
    subst hr hr'
    rfl
  | cons hk0 hv hb t2 ih =>
    rename_i k0 v n e l l'
    intro i r r' hr hr'
    simp only [findV] at hr
    simp only [Instr.findNow] at hr'
    split at hr
    · rename_i heq
      cases hr
      split at hr'
      · cases hr'
        exact ⟨e.val, rfl, hv, Nat.le_refl _, k0, n, e, by simp, by simp, rfl, heq⟩
      · rename_i h2; have := sameNow_sound h2 heq hk hk0; cases this
      · cases hr'
    · rename_i heq
      split at hr'
      · rename_i h2; have := sameNow_sound h2 heq hk hk0; cases this
      · exact (ih (i + 1) r r' hr hr').step
      · cases hr'
    · cases hr

theorem findKey_sound {t : TypeId} {q : EqT} (hq : eqT P 6 t = some q) {k : AV} {k' : Value} (hk : VR φ k k') {es : List (AV × AV × Nat)} {es' : List MapEntry} (hm : MR φ es es') {r : Option (Nat × AV)} (hr : findV q k es 0 = some r) :
    ∃ r', (∀ w, (Instr.findKey t k' es').run P w = .ok r' w) ∧ FoundR P φ q k es es' 0 r r' := by
  obtain ⟨d, hd⟩ : ∃ d, und P t = some d := by
    unfold eqT at hq
    cases hu : und P t with
    | none => rw [hu] at hq; cases hq
    | some d => exact ⟨d, rfl⟩
  cases hn : Instr.findNow d k' es' 0 with
  | some r' => exact ⟨r', fun w => by simp [Instr.findKey, run_und hd, hn], findNow_sound hk es es' hm 0 r r' hr hn⟩
  | none =>
    obtain ⟨r', h1, h2⟩ := findV_sound hq hk es es' hm 0 r hr
    exact ⟨r', fun w => by simp [Instr.findKey, run_und hd, hn, h1], h2⟩

/-! ## Keys -/
theorem und_of_flat {k : Nat} {t : TypeId} {q : EqT} (h : eqT P k t = some q) (hq : q = .bool ∨ q = .int ∨ q = .str) : und P t = some .bool ∨ (∃ i, und P t = some (.int i)) ∨ und P t = some .string := by
  cases k with
  | zero => simp [eqT] at h
  | succ k =>
    unfold eqT at h
    split at h
    · rename_i hu; exact .inl hu
    · rename_i i hu; exact .inr (.inl ⟨i, hu⟩)
    · rename_i hu; exact .inr (.inr hu)
    · split at h <;> (first | cases h | skip)
      rcases hq with hq | hq | hq <;> cases hq
    · rcases hq with hq | hq | hq <;> subst hq <;> cases h
    · rcases hq with hq | hq | hq <;> subst hq <;> cases h
    · split at h
      · cases h
      · simp only [map_some] at h
        obtain ⟨_, _, rfl⟩ := h
        rcases hq with h | h | h <;> cases h
    · rcases hq with hq | hq | hq <;> subst hq <;> cases h
    · rcases hq with hq | hq | hq <;> subst hq <;> cases h
    · rcases hq with hq | hq | hq <;> subst hq <;> cases h
    · cases h

theorem checkKey_flat {t : TypeId} (h : und P t = some .bool ∨ (∃ i, und P t = some (.int i)) ∨ und P t = some .string) (empty : Bool) (n : Nat) (v : Value) (w : World) : (Instr.checkKey empty (n + 1) t v).run P w = .ok () w := by
  rcases h with h | ⟨i, h⟩ | h <;> simp [Instr.checkKey, run_und h]

theorem checkFields {k : Nat} {xs : List AV} {xs' : Array Value} (hx : VRs φ xs xs'.toList) (empty : Bool) (d : Nat) (hd : ∀ (t : TypeId), (und P t = some .bool ∨ (∃ i, und P t = some (.int i)) ∨ und P t = some .string) → ∀ (v : Value) (w : World), (Instr.checkKey empty d t v).run P w = .ok () w) : ∀ (fs : List Field) (l : List (Nat × Option Nat × EqT)), fieldsT P k fs = some l →
    (∀ x ∈ l, x.2.2 = .bool ∨ x.2.2 = .int ∨ x.2.2 = .str) → ∀ (n : Nat), eqV.go n l xs xs = some true → ∀ w,
      (forIn fs PUnit.unit fun (f : Field) (_ : PUnit) =>
            if f.name ≠ "_" then do
              let a ← part f.type xs' f.offset
              Instr.checkKey empty d f.type a
              pure (ForInStep.yield PUnit.unit)
            else (pure (ForInStep.yield PUnit.unit) : Sem (ForInStep PUnit))).run P w = .ok PUnit.unit w := by
  intro fs
  induction fs with
  | nil => intro l hl _ n _ w; rfl
  | cons f fs ih =>
    intro l hl hfl n hb w
    unfold fieldsT at hl
    rw [List.mapM_cons] at hl
    simp only [bind_some, pure_some] at hl
    obtain ⟨p, hp, l2, hl2, rfl⟩ := hl
    split at hp
    · cases hp
    · rename_i hname
      simp only [bind_some, pure_some] at hp
      obtain ⟨q, hq, a, ha, rfl⟩ := hp
      cases n with
      | zero => simp [eqV.go] at hb
      | succ n =>
        simp only [eqV.go] at hb
        split at hb
        · rename_i u v hu hv
          obtain ⟨u', hu1, hu2⟩ := run_part (P := P) ha hx hu
          have hf := hfl _ (List.mem_cons_self ..)
          rw [List.forIn_cons]
          simp only [ne_eq, hname, not_false_eq_true, if_true, Sem.run_bind, hu1, Result.andThen_ok, hd _ (und_of_flat hq hf), Sem.run_pure]
          cases hc : eqV n q u v with
          | none => rw [hc] at hb; cases hb
          | some c =>
            rw [hc] at hb
            cases c with
            | true => simp only at hb; exact ih l2 hl2 (fun x hx => hfl x (List.mem_cons_of_mem _ hx)) n hb w
            | false => cases hb
        · cases hb

theorem checkKey_sound' {t : TypeId} {q : EqT} (hq : keyT P t = some q) {k : AV} {k' : Value} (hk : VR φ k k') (hok : keyOk q k = true) (empty : Bool) (n : Nat) (w : World) : (Instr.checkKey empty (n + 2) t k').run P w = .ok () w := by
  have he := keyT_eqT hq
  unfold keyT at hq
  simp only [bind_some] at hq
  obtain ⟨q', h1, h2⟩ := hq
  split at h2
  · cases h2; exact checkKey_flat (und_of_flat he (.inl rfl)) _ _ _ _
  · cases h2; exact checkKey_flat (und_of_flat he (.inr (.inl rfl))) _ _ _ _
  · cases h2; exact checkKey_flat (und_of_flat he (.inr (.inr rfl))) _ _ _ _
  · rename_i l
    split at h2
    · rename_i hall
      cases h2
      simp only [keyOk, beq_iff_eq] at hok
      have hfl : ∀ x ∈ l, x.2.2 = .bool ∨ x.2.2 = .int ∨ x.2.2 = .str := by
        intro x hx
        have := (List.all_eq_true.1 hall) x hx
        split at this <;> simp_all
      unfold eqT at he
      split at he <;> (first | cases he | skip)
      · split at he <;> cases he
      · rename_i fs hu
        split at he
        · cases he
        · simp only [map_some] at he
          obtain ⟨l2, hl, he⟩ := he
          cases he
          cases k with
          | agg xs =>
            simp only [eqV] at hok
            cases hk
            rename_i xs' hxs
            obtain ⟨d, hd⟩ : ∃ d, d = n + 1 := ⟨_, rfl⟩
            have := checkFields (P := P) hxs empty d (fun t ht v w => by rw [hd]; exact checkKey_flat ht _ _ _ _) fs.toList l hl hfl _ hok w
            rw [Array.forIn_toList] at this
            rw [show n + 2 = d + 1 by omega]
            clear hd
            simp only [Instr.checkKey, Sem.run_bind, run_und hu, Result.andThen_ok]
            rw [this]
            rfl
          | _ => simp [eqV] at hok
    · cases h2
  · cases h2

theorem checkKey_sound {t : TypeId} {q : EqT} (hq : keyT P t = some q) {k : AV} {k' : Value} (hk : VR φ k k') (hok : keyOk q k = true) (empty : Bool) (w : World) : (Instr.checkKey empty 10000 t k').run P w = .ok () w :=
  checkKey_sound' hq hk hok empty 9998 w

end Go.Den

/- The soundness of 'readV'. -/
namespace Go.Den
open Go Go.RowKit

variable {P : Program} {w0 : World} {B : Nat} {φ : Emb} {m : Me} {w : World}

/-- An operation that yields v' in this world, and leaves it alone. -/
def Ry (P : Program) (φ : Emb) (w : World) (ρ : Operand → Value) (o : Oper) (v : AV) : Prop := ∃ v', (execOp ρ o).run P w = .ok (.value v') w ∧ VR φ v v'

theorem Ry.of {ρ : Operand → Value} {o : Oper} {v : AV} {s : Sem Value} (he : execOp ρ o = (do pure (.value (← s)))) (h : ∃ v', s.run P w = .ok v' w ∧ VR φ v v') : Ry P φ w ρ o v := by
  obtain ⟨v', h1, h2⟩ := h
  exact ⟨v', by rw [he]; simp [h1], h2⟩

theorem MR.length {es : List (AV × AV × Nat)} {es' : List MapEntry} (h : MR φ es es') : es'.length = es.length := by
  induction h with
  | nil => rfl
  | cons _ _ _ _ ih => simp [ih]

theorem Rel.obj (h : Rel P w0 B φ m w) {b : Nat} {ob : Ob} (hg : m.get b = some ob) (hl : ob.live) {e : E} (he : φ b = some e) : ∃ o', w.heap[e.C]? = some o' ∧ OR P φ e ob o' := by
  obtain ⟨e', o', h1, h2, h3⟩ := h.live b ob hg hl
  rw [he] at h1; cases h1
  exact ⟨o', h2, h3⟩

theorem run_getObj {r : Nat} {o : Obj} (h : w.heap[r]? = some o) (hn : ∀ c e f, o ≠ .cells c e f) : (getObj r).run P w = .ok o w := by
  simp only [getObj, Sem.run, h]

theorem find_MR {es : List (AV × AV × Nat)} {es' : List MapEntry} (h : MR φ es es') (n : Nat) : match es.find? (fun e => e.2.2 == n) with
    | some e => ∃ e', es'.find? (·.born == n) = some e' ∧ VR φ e.1 e'.key ∧ VR φ e.2.1 e'.val
    | none => True := by
  induction h with
  | nil => trivial
  | cons hk hv hb t ih =>
    rename_i k v n' e l l'
    simp only [List.find?_cons, hb]
    by_cases hn : n' = n
    · simp only [hn, beq_self_eq_true]
      exact ⟨e, rfl, hk, hv⟩
    · have : (n' == n) = false := by simpa using hn
      simp only [this]
      exact ih

def lookRest (kt e : TypeId) (i : Value) (ok : Bool) (es : Array MapEntry) : Sem Value := do
  Instr.checkKey es.isEmpty 10000 kt i
  match ← Instr.findKey kt i es.toList with
  | some (_, v) => do
    let x ← pure (v, true)
    pure (if ok then Value.tuple #[x.1, .bool x.2] else x.1)
  | none => do
    let z ← zeroValue e
    let x ← pure (z, false)
    pure (if ok then Value.tuple #[x.1, .bool x.2] else x.1)

theorem lookup_none {t : TypeId} {kt e : TypeId} (hu : und P t = some (.map kt e)) (i : Value) (ok : Bool) (w : World) : (Instr.lookup t (.map none) i ok).run P w = (lookRest kt e i ok #[]).run P w := by
  simp only [Instr.lookup, Sem.run_bind, run_und hu, Result.andThen_ok, lookRest]
  rfl

theorem lookup_some {t : TypeId} {kt e : TypeId} (hu : und P t = some (.map kt e)) {C : Nat} {es : Array MapEntry} {clock : Nat} (h : w.heap[C]? = some (.map es clock)) (i : Value) (ok : Bool) :
    (Instr.lookup t (.map (some C)) i ok).run P w = (lookRest kt e i ok es).run P w := by
  have hgo : (getObj C).run P w = .ok (.map es clock) w := run_getObj h (fun _ _ _ h => by cases h)
  simp only [Instr.lookup, Sem.run_bind, run_und hu, Result.andThen_ok, hgo, lookRest]
  rfl

set_option maxHeartbeats 1000000 in
theorem read_sound (hR : Rel P w0 B φ m w) {K : Nat → Bool} {r : Opd → AV} {ρ : Operand → Value} (hρ : OpR P φ K r ρ) {o : Oper} {a : AOp} (hc : cOp K P o.op = some a) (hcl : a.cls = .read) {v : AV}
    (hv : readV r m a = some v) : Ry P φ w ρ o v := by
  cases ho : o.op <;> rw [ho] at hc <;> simp only [cOp] at hc
  case load t x =>
    simp only [bind_some, pure_some] at hc
    obtain ⟨n, hn, y, hy, rfl⟩ := hc
    have hr := hρ x y hy
    simp only [readV] at hv
    split at hv
    · rename_i b i heq
      rw [heq] at hr
      split at hv
      · rename_i ob hg
        refine Ry.of (s := Instr.loadAt t (ρ x)) (by simp [execOp, ho]) ?_
        generalize ρ x = xx at hr
        cases hr
        rename_i e he
        by_cases hz : n = some 0
        · subst hz
          simp only [Ob.loadV, Ob.cellsFrom, Option.map_some, Option.some.injEq] at hv
          subst hv
          obtain ⟨a1, a2⟩ := aggN_some hn w
          refine ⟨.agg #[], ?_, .agg .nil⟩
          simp only [Instr.loadAt, Instr.sureAddr, Sem.run_bind, Sem.run_pure, Result.andThen_ok, loadVar, a1, a2, if_true, loadCells, loadCellsFrom]
        · obtain ⟨v', h1, h2⟩ := load_sound hR he hn hg hv hz
          exact ⟨v', by simp [Instr.loadAt, Instr.sureAddr, h1], h2⟩
      · cases hv
    · cases hv
  case convert src dst x =>
    rw [Option.bind_eq_some_iff] at hc
    obtain ⟨y, hy, hc⟩ := hc
    have hr := hρ x y hy
    refine Ry.of (s := convert src dst (ρ x)) (by simp [execOp, ho]) ?_
    generalize ρ x = x' at hr
    unfold cConv at hc
    split at hc
    · cases hc; simp [AOp.cls] at hcl
    · cases hc; simp [AOp.cls] at hcl
    · cases hc; simp [AOp.cls] at hcl
    · split at hc <;> cases hc; simp [AOp.cls] at hcl
    · rename_i e hs hd
      split at hc <;> cases hc
      rename_i hu
      simp only [readV] at hv
      split at hv
      · rename_i n c heq
        rw [heq] at hr; cases hr; cases hv
        refine ⟨.string .empty, ?_, .str []⟩
        simp [convert, run_und hs, run_und hd, run_und hu, Conv.bytesToString]
      · rename_i b i z n c heq
        rw [heq] at hr
        have fin : ∀ (a : Addr) (cs : List Value) (c' : Nat) (bs : List UInt8) (vs : List AV), (loadCells a n).run P w = .ok cs.toArray w → VRs φ vs cs → bytesV vs = some bs →
            (convert src dst (.slice (some a) n c')).run P w = .ok (.string ⟨⟨bs⟩⟩) w := by
          intro a cs c' bs vs hl hvs hbs
          have := bytesV_sound (P := P) vs bs cs hbs hvs ByteArray.empty w
          simp only [convert, Sem.run_bind, run_und hs, run_und hd, Result.andThen_ok, run_und hu, Conv.bytesToString, hl]
          rw [← List.forIn_toArray] at this
          refine Eq.trans (congrArg (fun r => Result.andThen r fun a w' => Sem.run P (pure (Value.string a)) w') this) ?_
          simp
        split at hv
        · rename_i hn
          cases hv; subst hn
          cases hr with
          | slice he ho' => exact ⟨_, fin _ [] _ [] [] (by simp [loadCells, loadCellsFrom]) .nil rfl, .str []⟩
          | sliceO he ho' hz hcc hK => exact ⟨_, fin _ [] _ [] [] (by simp [loadCells, loadCellsFrom]) .nil rfl, .str []⟩
          | sliceE he ho' hz ha => exact ⟨_, fin _ [] _ [] [] (by simp [loadCells, loadCellsFrom]) .nil rfl, .str []⟩
        · rename_i hn
          split at hv
          · rename_i ob hg
            simp only [map_some] at hv
            obtain ⟨bs, hbs, rfl⟩ := hv
            rw [Option.bind_eq_some_iff] at hbs
            obtain ⟨vs, hvs, hbs⟩ := hbs
            have main : ∀ (e : E), φ b = some e → ∃ cs : List Value, (loadCells ⟨e.C, e.o + i, none⟩ n).run P w = .ok cs.toArray w ∧ VRs φ vs cs := by
              intro e he
              obtain ⟨t0, size, d, el, md, rfl⟩ : ∃ t0 size d el md, ob = .cells t0 size d el md := by
                cases n with
                | zero => exact absurd rfl hn
                | succ n =>
                  simp only [Ob.cellsFrom] at hvs
                  split at hvs
                  · rename_i u hu
                    obtain ⟨_, t0, size, d, el, md, rfl, _⟩ := Ob.cell_live hu
                    exact ⟨_, _, _, _, _, rfl⟩
                  · cases hvs
              obtain ⟨cc, el', fz, h1, h2, h3, h4, h5⟩ := hR.cells hg he
              obtain ⟨g1, g2, g3⟩ := cellsFrom_sound h2 n i vs hvs
              have := g2 hn
              exact ⟨_, run_loadCells_of h1 (show e.o + i + n ≤ cc.size by omega), g1⟩
            cases hr with
            | slice he ho' =>
              obtain ⟨cs, h1, h2⟩ := main _ he
              exact ⟨_, fin _ cs _ bs vs h1 h2 hbs, .str _⟩
            | sliceO he ho' hz hcc hK =>
              obtain ⟨cs, h1, h2⟩ := main _ he
              exact ⟨_, fin _ cs _ bs vs h1 h2 hbs, .str _⟩
            | sliceE => exact absurd rfl hn
          · cases hv
      · cases hv
    · rename_i t hs hd
      split at hc
      · cases hc
      · rename_i n hsz hn0
        cases hc
        simp only [readV] at hv
        split at hv
        · rename_i heq; rw [heq] at hr; cases hr; cases hv
          exact ⟨_, by simp [convert, run_und hs, run_und hd, Conv.unsafePointer], .ptrN⟩
        · rename_i b i heq
          rw [heq] at hr
          split at hv
          · rename_i tt size d el hg
            split at hv
            · rename_i hcnd
              obtain ⟨h1, h2, h3⟩ := hcnd
              cases hv
              cases hr
              rename_i e he
              obtain ⟨cc, el', fz, g1, g2, g3, g4, g5⟩ := hR.cells hg he
              obtain ⟨q1, q2, q3, q4, q5, q6⟩ := g5
              subst h2
              have hsh : w.shape? e.C = some (el', cc.size) := by simp [World.shape?, g1]
              have hn1 : n ≠ 0 := fun h => hsz h
              have hcs : ¬ (cc.size ≤ e.o + 0) := by omega
              refine ⟨_, ?_, .ptr he⟩
              simp [convert, run_und hs, run_und hd, Conv.unsafePointer, Conv.seenAt, viewAt, cellsIn, hsh, run_sz hn0, hn1]
              omega
            · cases hv
          · cases hv
        · cases hv
      · cases hc
    · rename_i t hs hd
      split at hc
      · cases hc
      · rename_i n hsz hn0
        cases hc
        simp only [readV] at hv
        split at hv
        · rename_i heq; rw [heq] at hr; cases hr; cases hv
          exact ⟨_, by simp [convert, run_und hs, run_und hd, Conv.unsafePointer], .ptrN⟩
        · rename_i b i heq
          rw [heq] at hr
          split at hv
          · rename_i tt size d el hg
            split at hv
            · rename_i hcnd
              obtain ⟨h1, h2, h3⟩ := hcnd
              cases hv
              cases hr
              rename_i e he
              obtain ⟨cc, el', fz, g1, g2, g3, g4, g5⟩ := hR.cells hg he
              obtain ⟨q1, q2, q3, q4, q5, q6⟩ := g5
              subst h2
              have hsh : w.shape? e.C = some (el', cc.size) := by simp [World.shape?, g1]
              have hn1 : n ≠ 0 := fun h => hsz h
              have hcells : P.cellsOf t = n := by
                simp only [sz, map_some] at hn0
                obtain ⟨ii, hi, hii⟩ := hn0
                simp [Program.cellsOf, hi, hii]
              have hlies : liesAt P P.depth t (cc.size / P.cellsOf t) (e.o + 0) t 1 = true := by
                have hdep : ∃ d, P.depth = d + 1 := ⟨_, rfl⟩
                obtain ⟨dd, hdd⟩ := hdep
                have hlay : sameLayout P (dd + 1) t t = true := by simp [sameLayout]
                have hdiv : 1 ≤ cc.size / n := by
                  rw [Nat.le_div_iff_mul_le (Nat.pos_of_ne_zero hn1)]; omega
                rw [hdd]
                simp only [liesAt, hdd, rowAt, hcells, if_neg hn1, q2, Nat.add_zero, Nat.zero_div, Nat.zero_mod, Nat.zero_add, hlay, beq_self_eq_true, Bool.true_and, Bool.and_true, hdiv, decide_true, Bool.true_or]
              refine ⟨_, ?_, .ptr he⟩
              have e1 : el' = t := by rw [q5]; exact h1.symm
              subst e1
              simp [convert, run_und hs, run_und hd, Conv.unsafePointer, Conv.seenAt, viewAt, hsh, run_sz hn0, hn1, variablesAt]
              simp at hlies
              simp [hlies]
            · cases hv
          · cases hv
        · cases hv
      · cases hc
    · cases hc
  case slice t x lo hi mx =>
    simp only [bind_some, pure_some] at hc
    obtain ⟨k, hk, x', hx, lo', hlo, hi', hhi, mx', hmx, rfl⟩ := hc
    obtain ⟨l1, l2⟩ := opdO_rel hρ hlo
    obtain ⟨h1, h2⟩ := opdO_rel hρ hhi
    obtain ⟨m1, m2⟩ := opdO_rel hρ hmx
    have hr := hρ x x' hx
    refine Ry.of (s := Instr.sliceAt t (ρ x) (lo.map ρ) (hi.map ρ) (mx.map ρ)) (by simp [execOp, ho]) ?_
    have main : ∀ (n z : Nat) (e : TypeId), k = .arr n z → sz P e = some z → (∀ (a : Addr), Instr.sliceAt t (.pointer (some a)) (lo.map ρ) (hi.map ρ) (mx.map ρ) = Instr.sliceAt t (.pointer (some a)) (lo.map ρ) (hi.map ρ) (mx.map ρ) ∧
        (∀ w, (Instr.sliceAt t (.pointer (some a)) (lo.map ρ) (hi.map ρ) (mx.map ρ)).run P w = (do
          let (l, h, m) ← Instr.sliceBounds false n n (lo.map ρ) (hi.map ρ) (mx.map ρ)
          let size ← sizeOf e
          pure (Value.slice (some (if m = l then a else a.add (l * size))) (h - l) (m - l)) : Sem Value).run P w)) →
        ∃ v', (Instr.sliceAt t (ρ x) (lo.map ρ) (hi.map ρ) (mx.map ρ)).run P w = .ok v' w ∧ VR φ v v' := by
      intro n z e hkk hz heq
      subst hkk
      simp only [readV] at hv
      split at hv
      · rename_i b i hbi
        rw [hbi] at hr
        split at hv
        · rename_i tt size d el md hg
          split at hv
          · rename_i hmd
            split at hv
            · rename_i l h k hb
              cases hv
              generalize ρ x = xx at hr
              cases hr
              rename_i f hf
              obtain ⟨cc, el', fz, g1, g2, g3, g4, g5⟩ := hR.cells hg hf
              have hop : f.opn = false := by
                rcases hmd with rfl | rfl
                · exact g5.1
                · exact g5
              obtain ⟨v', r1, r2⟩ := slice_ptr_sound (P := P) (b := b) (i := i) hz hb hf hop l1 l2 h1 h2 m1 m2
              exact ⟨v', by rw [(heq _).2 w]; exact r1 w, r2⟩
            · cases hv
          · cases hv
        · cases hv
      · cases hv
    unfold cSlice at hk
    split at hk
    · cases hk; simp [AOp.cls] at hcl
    · rename_i e hu
      rw [Option.bind_eq_some_iff] at hk
      obtain ⟨z, hz, hk⟩ := hk
      split at hk
      · cases hk
      · cases hk; simp [AOp.cls] at hcl
    · rename_i n e hu
      rw [Option.bind_eq_some_iff] at hk
      obtain ⟨z, hz, hk⟩ := hk
      split at hk
      · cases hk
      · cases hk
        exact main n z e rfl hz (fun a => ⟨rfl, fun w => by simp [Instr.sliceAt, run_und hu, Instr.sureAddr]⟩)
    · rename_i ar hu
      split at hk
      · rename_i n e hu2
        rw [Option.bind_eq_some_iff] at hk
        obtain ⟨z, hz, hk⟩ := hk
        split at hk
        · cases hk
        · cases hk
          exact main n z e rfl hz (fun a => ⟨rfl, fun w => by simp [Instr.sliceAt, run_und hu, Instr.slice, asAddr, run_und hu2]⟩)
      · cases hk
    · cases hk
  case lookup t x i ok =>
    split at hc
    · rename_i kt e hu
      simp only [bind_some, pure_some] at hc
      obtain ⟨q, hq, z, hz, mm, hm, kk, hk, rfl⟩ := hc
      have hrm := hρ x mm hm
      have hrk := hρ i kk hk
      simp only [readV] at hv
      obtain ⟨zv, hz1, hz2⟩ := run_zero' (P := P) hz
      refine Ry.of (s := Instr.lookup t (ρ x) (ρ i) ok) (by simp [execOp, ho]) ?_
      have main : ∀ (es : List (AV × AV × Nat)) (es' : Array MapEntry) (rr : Option (Nat × AV)), MR φ es es'.toList → keyOk q (r kk) = true → findV q (r kk) es 0 = some rr →
          ((Instr.lookup t (ρ x) (ρ i) ok).run P w = (lookRest kt e (ρ i) ok es').run P w) →
          (match rr with | some (_, v0) => some (if ok then AV.tuple [v0, .bool true] else v0) | none => some (if ok then AV.tuple [z, .bool false] else z)) = some v →
          ∃ v', (Instr.lookup t (ρ x) (ρ i) ok).run P w = .ok v' w ∧ VR φ v v' := by
        intro es es' rr hm hok hfv hes hvv
        obtain ⟨r', hr1, hr2⟩ := findKey_sound (keyT_eqT hq) hrk hm hfv
        have hk1 := fun w => checkKey_sound hq hrk hok es'.isEmpty w
        cases rr with
        | none =>
          simp only [Option.some.injEq] at hvv
          have : r' = none := hr2
          subst this hvv
          refine ⟨if ok then .tuple #[zv, .bool false] else zv, ?_, ?_⟩
          · rw [hes]
            simp only [lookRest, Sem.run_bind, hk1, hr1, Result.andThen_ok, hz1, Sem.run_pure]
          · cases ok
            · exact hz2 φ
            · exact .tuple (.cons (hz2 φ) (.cons (.bool _) .nil))
        | some jv =>
          obtain ⟨j, v0⟩ := jv
          simp only [Option.some.injEq] at hvv
          obtain ⟨v', h1, h2, _⟩ := hr2
          subst h1 hvv
          refine ⟨if ok then .tuple #[v', .bool true] else v', ?_, ?_⟩
          · rw [hes]
            simp only [lookRest, Sem.run_bind, hk1, hr1, Result.andThen_ok, Sem.run_pure]
          · cases ok
            · exact h2
            · exact .tuple (.cons h2 (.cons (.bool _) .nil))
      split at hv
      · rename_i heq
        rw [heq] at hrm
        split at hv
        · rename_i hok
          generalize ρ x = xx at hrm main
          cases hrm
          exact main [] #[] none .nil hok rfl (lookup_none hu _ _ _) hv
        · cases hv
      · rename_i rb heq
        rw [heq] at hrm
        split at hv
        · cases hv
        · rename_i hok
          simp only [Bool.not_eq_true, Bool.not_eq_false', Bool.not_eq_eq_eq_not, Bool.not_false] at hok
          split at hv
          · rename_i es clock hg
            generalize ρ x = xx at hrm main
            cases hrm
            rename_i e he
            obtain ⟨o', g1, g2⟩ := hR.obj hg trivial he
            cases g2 with
            | map hm =>
              rename_i es'
              cases hf : findV q (r kk) es 0 with
              | none => rw [hf] at hv; cases hv
              | some rr =>
                rw [hf] at hv
                refine main es es' rr hm (by simpa using hok) hf (lookup_some hu g1 _ _) ?_
                cases rr with
                | none => exact hv
                | some jv => exact hv
          · cases hv
      · cases hv
    · cases hc
  case entry it =>
    simp only [map_some] at hc
    obtain ⟨x', hx, rfl⟩ := hc
    have hr := hρ it x' hx
    simp only [readV] at hv
    refine Ry.of (s := Instr.entry (ρ it)) (by simp [execOp, ho]) ?_
    split at hv
    · rename_i rb heq
      rw [heq] at hr
      split at hv
      · rename_i mp since seen last hg
        split at hv
        · rename_i es clock st hg2 hlast
          split at hv
          · rename_i hcl2
            split at hv
            · rename_i e hfe
              cases hv
              generalize ρ it = xx at hr
              cases hr
              rename_i f hf
              obtain ⟨o', g1, g2⟩ := hR.obj hg trivial hf
              cases g2 with
              | miter hmo hoz =>
                cases hmo with
                | some hmp =>
                  rename_i fm
                  obtain ⟨o2, q1, q2⟩ := hR.obj hg2 trivial hmp
                  cases q2 with
                  | map hm =>
                    rename_i es'
                    have hgo := run_getObj (P := P) g1 (fun _ _ _ h => by cases h)
                    have hgo2 := run_getObj (P := P) q1 (fun _ _ _ h => by cases h)
                    have := find_MR hm st
                    rw [hfe] at this
                    obtain ⟨e', h1, h2, h3⟩ := this
                    have hfa : es'.find? (·.born == st) = some e' := by rw [← Array.find?_toList]; exact h1
                    refine ⟨.tuple #[e'.key, e'.val], ?_, .tuple (.cons h2 (.cons h3 .nil))⟩
                    have hbk : seen.toArray.back? = some st := by simpa using hlast
                    have hst : (clock != last) = false := by simpa using hcl2
                    rw [hoz]
                    simp only [Instr.entry, Sem.run_bind, hgo, hgo2, hbk, Result.andThen_ok, hst, Bool.false_eq_true, if_false, hfa]
                    rfl
            · cases hv
          · cases hv
        · cases hv
      · cases hv
    · cases hv
  case call c =>
    split at hc
    · simp only [bind_some, pure_some] at hc
      obtain ⟨_, _, _, _, rfl⟩ := hc
      simp [AOp.cls] at hcl
    · rename_i b hb
      obtain ⟨cs, he⟩ := run_builtin (ρ := ρ) ho hb
      unfold cBuiltin at hc
      simp only [bind_some] at hc
      obtain ⟨as, has, hc⟩ := hc
      split at hc
      · rename_i t x ht
        obtain ⟨x', hl, hx'⟩ := opds_one has
        have ha := arr_of hl
        have hT := arr_of ht
        rw [ha, hT] at he
        have hr := hρ x' x hx'
        split at hc
        · cases hc; simp [AOp.cls] at hcl
        · cases hc; simp [AOp.cls] at hcl
        · cases hc; simp [AOp.cls] at hcl
        · rename_i kt e hu
          cases hc
          simp only [readV] at hv
          refine Ry.of he ?_
          simp only [List.map_toArray, List.map_cons, List.map_nil]
          split at hv
          · rename_i heq
            rw [heq] at hr
            cases hv
            generalize ρ x' = xx at hr
            cases hr
            exact ⟨goInt 0, by simp [Builtin.len_, run_und hu], .int _ _⟩
          · rename_i rb heq
            rw [heq] at hr
            split at hv
            · rename_i es clock hg
              cases hv
              generalize ρ x' = xx at hr
              cases hr
              rename_i f hf
              obtain ⟨o', g1, g2⟩ := hR.obj hg trivial hf
              cases g2 with
              | map hm =>
                rename_i es'
                have hgo := run_getObj (P := P) g1 (fun _ _ _ h => by cases h)
                refine ⟨goInt es'.size, by simp [Builtin.len_, run_und hu, hgo], ?_⟩
                have := hm.length
                have e1 : es'.size = es.length := by simpa using this
                rw [e1]; exact .int _ _
            · cases hv
          · cases hv
        · split at hc
          · cases hc; simp [AOp.cls] at hcl
          · cases hc
        · cases hc
      · split at hc
        · cases hc; simp [AOp.cls] at hcl
        · cases hc
      · split at hc
        · cases hc
        · simp only [bind_some] at hc
          obtain ⟨_, _, _, _, _, _, hc⟩ := hc
          split at hc
          · cases hc
          · simp only [pure_some] at hc; subst hc; simp [AOp.cls] at hcl
        · cases hc
      · split at hc
        · simp only [bind_some] at hc
          obtain ⟨_, _, hc⟩ := hc
          split at hc
          · cases hc
          · simp only [pure_some] at hc; subst hc; simp [AOp.cls] at hcl
        · cases hc
      · split at hc
        · simp only [bind_some, pure_some] at hc
          obtain ⟨_, _, rfl⟩ := hc
          simp [AOp.cls] at hcl
        · cases hc
      · split at hc
        · cases hc; simp [AOp.cls] at hcl
        · simp only [bind_some] at hc
          obtain ⟨_, _, _, _, hc⟩ := hc
          split at hc
          · cases hc
          · simp only [pure_some] at hc; subst hc; simp [AOp.cls] at hcl
        · cases hc
      · cases hc; simp [AOp.cls] at hcl
      · cases hc; simp [AOp.cls] at hcl
      · cases hc; simp [AOp.cls] at hcl
      · split at hc
        · split at hc
          · cases hc; simp [AOp.cls] at hcl
          · cases hc
        · cases hc
      · cases hc
    · simp only [bind_some, pure_some] at hc
      obtain ⟨_, _, _, _, rfl⟩ := hc
      simp [AOp.cls] at hcl
  case next it isS =>
    simp only [map_some] at hc
    obtain ⟨_, _, rfl⟩ := hc
    split at hcl <;> simp [AOp.cls] at hcl
  all_goals first
    | cases hc; done
    | (simp only [map_some] at hc; obtain ⟨_, _, rfl⟩ := hc; simp [AOp.cls] at hcl; done)
    | (simp only [bind_some, pure_some] at hc; obtain ⟨_, _, rfl⟩ := hc; simp [AOp.cls] at hcl; done)
    | (simp only [bind_some, pure_some] at hc; obtain ⟨_, _, _, _, rfl⟩ := hc; simp [AOp.cls] at hcl; done)
    | (simp only [bind_some, pure_some] at hc; obtain ⟨_, _, _, _, _, _, rfl⟩ := hc; simp [AOp.cls] at hcl; done)
    | (simp only [bind_some, pure_some] at hc; obtain ⟨_, _, _, _, _, _, _, _, rfl⟩ := hc; simp [AOp.cls] at hcl; done)
    | skip
  case buildSlice t len ps =>
    split at hc
    · simp only [bind_some] at hc
      obtain ⟨s, _, z, _, l, _, hc⟩ := hc
      split at hc
      · cases hc
      · simp only [pure_some] at hc; subst hc; simp [AOp.cls] at hcl
    · cases hc
  case insert t m k v =>
    split at hc
    · simp only [bind_some, pure_some] at hc
      obtain ⟨_, _, _, _, _, _, _, _, rfl⟩ := hc
      simp [AOp.cls] at hcl
    · cases hc
  case makeInterface t x =>
    split at hc
    · cases hc
    · simp only [map_some] at hc
      obtain ⟨y, hy, rfl⟩ := hc
      simp [AOp.cls] at hcl
    · cases hc
  case makeFunc fn a b =>
    split at hc
    · simp only [bind_some, pure_some] at hc
      obtain ⟨a', ha, b', hb, rfl⟩ := hc
      simp [AOp.cls] at hcl
    · cases hc
  case makeMap t r =>
    split at hc <;> cases hc
    simp [AOp.cls] at hcl
  case makeSlice t l c =>
    split at hc
    · simp only [bind_some] at hc
      obtain ⟨_, _, _, _, _, _, hc⟩ := hc
      split at hc
      · cases hc
      · simp only [bind_some, pure_some] at hc
        obtain ⟨_, _, _, _, rfl⟩ := hc
        simp [AOp.cls] at hcl
    · cases hc
  case fieldAddr s x f =>
    split at hc
    · split at hc
      · split at hc
        · cases hc
        · simp only [map_some] at hc
          obtain ⟨y, hy, rfl⟩ := hc
          simp [AOp.cls] at hcl
        · cases hc
      · cases hc
    · cases hc
  case field s x f =>
    split at hc
    · split at hc
      · simp only [bind_some, pure_some] at hc
        obtain ⟨k, hk, y, hy, rfl⟩ := hc
        simp [AOp.cls] at hcl
      · cases hc
    · cases hc
  case indexAddr t x i =>
    split at hc
    · simp only [bind_some, pure_some] at hc
      obtain ⟨z, hz, x', hx, i', hi, rfl⟩ := hc
      simp [AOp.cls] at hcl
    · simp only [bind_some, pure_some] at hc
      obtain ⟨z, hz, x', hx, i', hi, rfl⟩ := hc
      simp [AOp.cls] at hcl
    · cases hc
  case index t x i =>
    split at hc
    · simp only [bind_some, pure_some] at hc
      obtain ⟨z, hz, ag, hag, x', hx, i', hi, rfl⟩ := hc
      simp [AOp.cls] at hcl
    · simp only [bind_some, pure_some] at hc
      obtain ⟨x', hx, i', hi, rfl⟩ := hc
      simp [AOp.cls] at hcl
    · cases hc
  case mapUpdate t m k v =>
    split at hc
    · simp only [bind_some, pure_some] at hc
      obtain ⟨_, _, _, _, _, _, _, _, rfl⟩ := hc
      simp [AOp.cls] at hcl
    · cases hc
  case mapEntry t m k =>
    split at hc
    · simp only [bind_some, pure_some] at hc
      obtain ⟨_, _, _, _, _, _, _, _, rfl⟩ := hc
      simp [AOp.cls] at hcl
    · cases hc
  case range t x =>
    split at hc
    · simp only [map_some] at hc
      obtain ⟨_, _, rfl⟩ := hc
      simp [AOp.cls] at hcl
    · simp only [map_some] at hc
      obtain ⟨_, _, rfl⟩ := hc
      simp [AOp.cls] at hcl
    · cases hc
  case typeAssert x xt t ok =>
    split at hc
    · cases hc
    · split at hc
      · cases hc
      · simp only [map_some] at hc
        obtain ⟨_, _, rfl⟩ := hc
        simp [AOp.cls] at hcl
      · cases hc

end Go.Den
