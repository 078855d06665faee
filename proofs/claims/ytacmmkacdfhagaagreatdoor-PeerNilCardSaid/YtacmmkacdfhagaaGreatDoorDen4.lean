/- The soundness of what changes maps and iterators. -/
import Derived.Test.YtacmmkacdfhagaaGreatDoorDen3

set_option linter.unusedSimpArgs false
set_option linter.unusedVariables false
set_option linter.unusedSectionVars false
set_option linter.deprecated false

namespace Go.Den
open Go Go.RowKit

variable {P : Program} {w0 : World} {B : Nat} {φ : Emb} {m : Me} {w : World}

theorem put_obj (hR : Rel P w0 B φ m w) {b : Nat} {o ob : Ob} {e : E} {o' o'' : Obj} (hg : m.get b = some o) (hr : o.notRo) (he : φ b = some e) (ho' : w.heap[e.C]? = some o') (hn : ∀ c el f, o' ≠ .cells c el f) (hor : OR P φ e ob o'') :
    (setObj e.C o'').run P w = .ok () (w.putObj e.C o'') ∧ Rel P w0 B φ (m.put b ob) (w.putObj e.C o'') ∧ Fr φ m w φ (m.put b ob) (w.putObj e.C o'') := by
  have hlt := (Array.getElem?_eq_some_iff.1 ho').1
  obtain ⟨h1, h2⟩ := hR.put hg hr he (OnlyAt.putObj w e.C o'') (World.putObj_heap_same hlt) hor
  refine ⟨?_, h1, h2⟩
  cases o' <;> first | exact absurd rfl (hn _ _ _) | simp [setObj, Sem.run, ho', World.putObj]

theorem str_beq (s : List UInt8) : ((⟨⟨s⟩⟩ : ByteArray) == ⟨⟨s⟩⟩) = true := by
  show ((⟨s⟩ : Array UInt8) == ⟨s⟩) = true
  simp

theorem same_flat : ∀ {a : AV} {x y : Value} (n : Nat), flatV a = true → VR φ a x → VR φ a y → Instr.sameBits n x y = true
  | .bool _, _, _, n, _, .bool _, .bool _ => by cases n <;> simp [Instr.sameBits]
  | .int _ _, _, _, n, _, .int _ _, .int _ _ => by cases n <;> simp [Instr.sameBits]
  | .str _, _, _, n, _, .str _, .str _ => by cases n <;> simp [Instr.sameBits, str_beq]

theorem sames_flat : ∀ {a : List AV} {x y : List Value} (n : Nat), a.all flatV = true → VRs φ a x → VRs φ a y → ((x.zip y).all fun (u, v) => Instr.sameBits n u v) = true
  | _, _, _, n, _, .nil, .nil => rfl
  | _, _, _, n, h, .cons h1 t1, .cons h2 t2 => by
    simp only [List.all_cons, Bool.and_eq_true] at h
    simp only [List.zip_cons_cons, List.all_cons, same_flat n h.1 h1 h2, Bool.true_and]
    exact sames_flat n h.2 t1 t2

theorem keyT_cases {t : TypeId} {q : EqT} (h : keyT P t = some q) : q = .bool ∨ q = .int ∨ q = .str ∨ ∃ l, q = .parts l := by
  unfold keyT at h
  simp only [bind_some] at h
  obtain ⟨q', h1, h2⟩ := h
  split at h2
  · cases h2; simp
  · cases h2; simp
  · cases h2; simp
  · split at h2
    · cases h2; simp
    · cases h2
  · cases h2

theorem same_sound {t : TypeId} {q : EqT} (hq : keyT P t = some q) {k k0 : AV} (hs : keySame q k k0 = true) (he : eqV 400 q k k0 = some true) {k' k0' : Value} (hk : VR φ k k') (hk0 : VR φ k0 k0') :
    Instr.sameBits 10000 k0' k' = true := by
  rcases keyT_cases hq with rfl | rfl | rfl | ⟨l, rfl⟩
  · cases hk <;> cases hk0 <;> simp_all [eqV, Instr.sameBits]
  · cases hk <;> cases hk0 <;> simp_all [eqV, Instr.sameBits]
  · cases hk <;> cases hk0 <;> simp_all [eqV, Instr.sameBits, str_beq]
  · simp only [keySame] at hs
    split at hs
    · simp only [Bool.and_eq_true] at hs
      have hab := AV.beqs_eq _ _ hs.1
      subst hab
      cases hk with
      | agg h1 => cases hk0 with
        | agg h2 =>
          have e1 := h1.length
          have e2 := h2.length
          simp only [Instr.sameBits, Bool.and_eq_true, beq_iff_eq]
          refine ⟨by simpa using e2.trans e1.symm, sames_flat _ hs.2 h2 h1⟩
    · cases hs

theorem keyStays {t : TypeId} {q : EqT} (hq : keyT P t = some q) {k k0 : AV} (hs : keySame q k k0 = true) (he : eqV 400 q k k0 = some true) {k' k0' : Value} (hk : VR φ k k') (hk0 : VR φ k0 k0') (w : World) :
    (Instr.keyThatStays k0' k').run P w = .ok k' w := by
  simp [Instr.keyThatStays, same_sound hq hs he hk hk0]

theorem MR.get : ∀ {es : List (AV × AV × Nat)} {es' : List MapEntry}, MR φ es es' → ∀ (i : Nat) (x : AV × AV × Nat), es[i]? = some x → ∃ e, es'[i]? = some e ∧ VR φ x.1 e.key ∧ VR φ x.2.1 e.val ∧ e.born = x.2.2
  | _, _, .nil, i, x, h => by simp at h
  | _, _, .cons hk hv hb t, 0, x, h => by simp at h; subst h; exact ⟨_, rfl, hk, hv, hb⟩
  | _, _, .cons hk hv hb t, i + 1, x, h => by simpa using MR.get t i x (by simpa using h)

theorem MR.snoc {k v : AV} {n : Nat} {e : MapEntry} (hk : VR φ k e.key) (hv : VR φ v e.val) (hb : e.born = n) : ∀ {es : List (AV × AV × Nat)} {es' : List MapEntry}, MR φ es es' → MR φ (es ++ [(k, v, n)]) (es' ++ [e])
  | _, _, .nil => .cons hk hv hb .nil
  | _, _, .cons h1 h2 h3 t => .cons h1 h2 h3 (MR.snoc hk hv hb t)

theorem MR.erase : ∀ {es : List (AV × AV × Nat)} {es' : List MapEntry}, MR φ es es' → ∀ i, MR φ (es.eraseIdx i) (es'.eraseIdx i)
  | _, _, .nil, _ => .nil
  | _, _, .cons _ _ _ t, 0 => t
  | _, _, .cons h1 h2 h3 t, i + 1 => .cons h1 h2 h3 (MR.erase t i)

theorem MR.modAt {f : AV × AV × Nat → AV × AV × Nat} {g : MapEntry → MapEntry} (hfg : ∀ x e, VR φ x.1 e.key → VR φ x.2.1 e.val → e.born = x.2.2 → VR φ (f x).1 (g e).key ∧ VR φ (f x).2.1 (g e).val ∧ (g e).born = (f x).2.2) :
    ∀ {es : List (AV × AV × Nat)} {es' : List MapEntry}, MR φ es es' → ∀ i, MR φ (modAt f i es) (es'.modify i g)
  | _, _, .nil, i => by cases i <;> exact .nil
  | _, _, .cons (k := k) (v := v) (n := n) h1 h2 h3 t, 0 => by
    obtain ⟨a, b, c⟩ := hfg (k, v, n) _ h1 h2 h3
    simp only [Den.modAt, List.modify_zero_cons]
    exact .cons a b c t
  | _, _, .cons h1 h2 h3 t, i + 1 => by
    simp only [Den.modAt, List.modify_succ_cons]
    exact .cons h1 h2 h3 (MR.modAt hfg t i)

/-- The map behind a value. -/
theorem map_at (hR : Rel P w0 B φ m w) {r : Nat} {es : List (AV × AV × Nat)} {clock : Nat} (hg : m.get r = some (.map es clock)) {e : E} (he : φ r = some e) :
    ∃ es', w.heap[e.C]? = some (.map es' clock) ∧ MR φ es es'.toList ∧ (getObj e.C).run P w = .ok (.map es' clock) w := by
  obtain ⟨o', g1, g2⟩ := hR.obj hg trivial he
  cases g2 with
  | map hm => exact ⟨_, g1, hm, run_getObj g1 (fun _ _ _ h => by cases h)⟩

theorem put_map (hR : Rel P w0 B φ m w) {r : Nat} {es es2 : List (AV × AV × Nat)} {clock clock2 : Nat} (hg : m.get r = some (.map es clock)) {e : E} (he : φ r = some e) {es' : Array MapEntry} (hh : w.heap[e.C]? = some (.map es' clock))
    {es2' : Array MapEntry} (h2 : MR φ es2 es2'.toList) :
    (setObj e.C (.map es2' clock2)).run P w = .ok () (w.putObj e.C (.map es2' clock2)) ∧ Rel P w0 B φ (m.put r (.map es2 clock2)) (w.putObj e.C (.map es2' clock2)) ∧ Fr φ m w φ (m.put r (.map es2 clock2)) (w.putObj e.C (.map es2' clock2)) :=
  put_obj hR hg trivial he hh (fun _ _ _ h => by cases h) (.map h2)

theorem mapPut_sound (hR : Rel P w0 B φ m w) {t kt vt : TypeId} {q : EqT} (hu : und P t = some (.map kt vt)) (hq : keyT P kt = some q) {mp k v : AV} {mp' k' v' : Value} (hm : VR φ mp mp') (hk : VR φ k k') (hv : VR φ v v') {m' : Me}
    (h : mapPutV m q mp k v = some m') : ∃ w', (Instr.mapUpdate t mp' k' v').run P w = .ok () w' ∧ m'.nx = m.nx ∧ Rel P w0 B φ m' w' ∧ Fr φ m w φ m' w' := by
  unfold mapPutV at h
  split at h
  · rename_i r
    split at h
    · cases h
    · rename_i hok
      simp only [Bool.not_eq_true, Bool.not_eq_false'] at hok
      split at h
      · rename_i es clock hg
        cases hm with
        | map he =>
          obtain ⟨es', g1, g2, g3⟩ := map_at hR hg he
          split at h
          · rename_i i v0 hf
            split at h
            · rename_i hsame
              cases h
              obtain ⟨r', f1, f2⟩ := findKey_sound (keyT_eqT hq) hk g2 hf
              obtain ⟨v0', rfl, _, _, k0, n0, e0, f3, f4, _, f5⟩ := f2
              rw [Nat.sub_zero] at f3 f4
              obtain ⟨e1, q1, q2, q3, q4⟩ := g2.get _ _ f3
              rw [f4] at q1; cases q1
              have hka : keyAt es i = k0 := by simp [keyAt, f3]
              rw [hka] at hsame
              have hst := fun w => keyStays (P := P) hq hsame f5 hk q2 w
              have hput := put_map hR (clock2 := clock) hg he g1 (es2 := modAt (fun e => (k, v, e.2.2)) i es) (es2' := es'.modify i fun e => { e with key := k', val := v' })
                (by rw [Array.toList_modify]; refine MR.modAt (fun x e _ _ h3 => ?_) g2 i; exact ⟨hk, hv, h3⟩)
              refine ⟨_, ?_, rfl, hput.2⟩
              have hgi : es'[i]? = some e0 := by simpa using f4
              simp only [Instr.mapUpdate, Sem.run_bind, run_und hu, Result.andThen_ok, g3, checkKey_sound hq hk hok, f1, hgi, Option.map_some, Option.getD_some, hst, hput.1]
            · cases h
          · rename_i hf
            cases h
            obtain ⟨r', f1, f2⟩ := findKey_sound (keyT_eqT hq) hk g2 hf
            have : r' = none := f2
            subst this
            have hput := put_map hR (clock2 := clock + 1) hg he g1 (es2 := es ++ [(k, v, clock)]) (es2' := es'.push { key := k', val := v', born := clock })
              (by rw [Array.toList_push]; refine MR.snoc ?_ ?_ ?_ g2; exact hk; exact hv; rfl)
            refine ⟨_, ?_, rfl, hput.2⟩
            simp only [Instr.mapUpdate, Sem.run_bind, run_und hu, Result.andThen_ok, g3, checkKey_sound hq hk hok, f1, hput.1]
          · cases h
      · cases h
  · cases h

theorem mapEntry_sound (hR : Rel P w0 B φ m w) {t kt vt : TypeId} {q : EqT} {z : AV} (hu : und P t = some (.map kt vt)) (hq : keyT P kt = some q) (hz : zeroAV P vt = some z) {r : Nat} {e : E} {k : AV} {k' : Value} (he : φ r = some e) (hk : VR φ k k') {v : AV} {m' : Me}
    {es : List (AV × AV × Nat)} {clock : Nat} (hok : keyOk q k = true) (hg : m.get r = some (.map es clock))
    (h : (match findV q k es 0 with
        | some (some (i, v)) => if keySame q k (keyAt es i) then some (AV.tuple [v, .int .i64 (((es[i]?).map (·.2.2)).getD 0)], m.put r (.map (modAt (fun e => (k, e.2)) i es) clock)) else none
        | some none => some (.tuple [z, .int .i64 clock], m.put r (.map (es ++ [(k, z, clock)]) (clock + 1)))
        | none => none) = some (v, m')) : Ey P w0 B φ m w (Instr.mapEntry t (.map (some e.C)) k') v m' := by
  obtain ⟨es', g1, g2, g3⟩ := map_at hR hg he
  obtain ⟨zv, hz1, hz2⟩ := run_zero' (P := P) hz
  split at h
  · rename_i i v0 hf
    split at h
    · rename_i hsame
      cases h
      obtain ⟨r', f1, f2⟩ := findKey_sound (keyT_eqT hq) hk g2 hf
      obtain ⟨v0', rfl, f6, _, k0, n0, e0, f3, f4, _, f5⟩ := f2
      rw [Nat.sub_zero] at f3 f4
      obtain ⟨e1, q1, q2, q3, q4⟩ := g2.get _ _ f3
      rw [f4] at q1; cases q1
      have hka : keyAt es i = k0 := by simp [keyAt, f3]
      rw [hka] at hsame
      have hst := fun w => keyStays (P := P) hq hsame f5 hk q2 w
      have hput := put_map hR (clock2 := clock) hg he g1 (es2 := modAt (fun e => (k, e.2)) i es) (es2' := es'.modify i fun e => { e with key := k' })
        (by rw [Array.toList_modify]; refine MR.modAt (fun x e _ h2 h3 => ?_) g2 i; exact ⟨hk, h2, h3⟩)
      have hgi : es'[i]? = some e0 := by simpa using f4
      refine ⟨.tuple #[v0', goInt e0.born], _, φ, ?_, ?_, Gr.refl _ _, hput.2⟩
      · simp only [Instr.mapEntry, Sem.run_bind, run_und hu, Result.andThen_ok, g3, checkKey_sound hq hk hok, f1, hgi, Option.map_some, Option.getD_some, hst, hput.1, Sem.run_pure]
      · rw [f3]
        simp only [Option.map_some, Option.getD_some]
        rw [q4]
        exact .tuple (.cons f6 (.cons (.int _ _) .nil))
    · cases h
  · rename_i hf
    cases h
    obtain ⟨r', f1, f2⟩ := findKey_sound (keyT_eqT hq) hk g2 hf
    have : r' = none := f2
    subst this
    have hput := put_map hR (clock2 := clock + 1) hg he g1 (es2 := es ++ [(k, z, clock)]) (es2' := es'.push { key := k', val := zv, born := clock })
      (by rw [Array.toList_push]; refine MR.snoc ?_ ?_ ?_ g2; exact hk; exact hz2 φ; rfl)
    refine ⟨.tuple #[zv, goInt clock], _, φ, ?_, .tuple (.cons (hz2 φ) (.cons (.int _ _) .nil)), Gr.refl _ _, hput.2⟩
    simp only [Instr.mapEntry, Sem.run_bind, run_und hu, Result.andThen_ok, g3, checkKey_sound hq hk hok, f1, hz1, hput.1, Sem.run_pure]
  · cases h

theorem findIdx_MR (st : Int) : ∀ {es : List (AV × AV × Nat)} {es' : List MapEntry}, MR φ es es' → es'.findIdx? (fun e => (e.born : Int) == st) = es.findIdx? (fun e => (e.2.2 : Int) == st)
  | _, _, .nil => rfl
  | _, _, .cons h1 h2 h3 t => by
    simp only [List.findIdx?_cons, h3, findIdx_MR st t]

theorem entryStore_sound (hR : Rel P w0 B φ m w) {t : TypeId} {r : Nat} {e : E} {ki : IntKind} {st : Int} {x : AV} {x' : Value} (he : φ r = some e) (hx : VR φ x x') {v : AV} {m' : Me}
    {es : List (AV × AV × Nat)} {clock : Nat} (hg : m.get r = some (.map es clock))
    (h : (match es.findIdx? (fun e => (e.2.2 : Int) == st) with
        | some i => some (AV.undef, m.put r (.map (modAt (fun e => (e.1, x, e.2.2)) i es) clock))
        | none => none) = some (v, m')) : ∃ w', (Instr.entryStore t (.map (some e.C)) (.int ki st) x').run P w = .ok () w' ∧ v = .undef ∧ m'.nx = m.nx ∧ Rel P w0 B φ m' w' ∧ Fr φ m w φ m' w' := by
  obtain ⟨es', g1, g2, g3⟩ := map_at hR hg he
  split at h
  · rename_i i hf
    cases h
    have hf' : es'.findIdx? (fun e => (e.born : Int) == st) = some i := by
      have : es'.findIdx? (fun e => (e.born : Int) == st) = es'.toList.findIdx? (fun e => (e.born : Int) == st) := by cases es'; simp
      rw [this, findIdx_MR st g2, hf]
    have hput := put_map hR (clock2 := clock) hg he g1 (es2 := modAt (fun e => (e.1, x, e.2.2)) i es) (es2' := es'.modify i fun e => { e with val := x' })
      (by rw [Array.toList_modify]; refine MR.modAt (fun x e h1 _ h3 => ?_) g2 i; exact ⟨h1, hx, h3⟩)
    refine ⟨_, ?_, rfl, rfl, hput.2⟩
    simp only [Instr.entryStore, Sem.run_bind, g3, Result.andThen_ok, asInt, asIntOf, Sem.run_pure, hf', hput.1]
  · cases h

theorem del_sound (hR : Rel P w0 B φ m w) {t kt vt ty : TypeId} {ts : List TypeId} {q : EqT} (hu : und P t = some (.map kt vt)) (hq : keyT P kt = some q) {mp k : AV} {mp' k' : Value} (hm : VR φ mp mp') (hk : VR φ k k') {m' : Me}
    (h : mapDelV m q mp k = some m') : ∃ w', (Builtin.delete_ (t :: ts).toArray ty #[mp', k']).run P w = .ok (.tuple #[]) w' ∧ m'.nx = m.nx ∧ Rel P w0 B φ m' w' ∧ Fr φ m w φ m' w' := by
  unfold mapDelV at h
  have ht : (t :: ts).toArray[0]? = some t := by simp
  split at h
  · split at h
    · rename_i hok
      cases h; cases hm
      refine ⟨w, ?_, rfl, hR, Fr.refl _ _ _⟩
      simp only [Builtin.delete_, ht, List.getElem?_toArray, List.getElem?_cons_zero, List.getElem?_cons_succ, Sem.run_bind, run_und hu, Result.andThen_ok, checkKey_sound hq hk hok, Sem.run_pure]
    · cases h
  · rename_i r
    split at h
    · cases h
    · rename_i hok
      simp only [Bool.not_eq_true, Bool.not_eq_false'] at hok
      split at h
      · rename_i es clock hg
        cases hm with
        | map he =>
          rename_i f
          obtain ⟨es', g1, g2, g3⟩ := map_at hR hg he
          split at h
          · rename_i i v0 hf
            cases h
            obtain ⟨r', f1, f2⟩ := findKey_sound (keyT_eqT hq) hk g2 hf
            obtain ⟨v0', rfl, f6, _, k0, n0, e0, f3, f4, _, f5⟩ := f2
            have hput := put_map hR (clock2 := clock) hg he g1 (es2 := es.eraseIdx i) (es2' := es'.eraseIdxIfInBounds i)
              (by rw [Array.toList_eraseIdxIfInBounds]; exact g2.erase i)
            refine ⟨_, ?_, rfl, hput.2⟩
            simp only [Builtin.delete_, ht, List.getElem?_toArray, List.getElem?_cons_zero, List.getElem?_cons_succ, Sem.run_bind, run_und hu, Result.andThen_ok, g3, checkKey_sound hq hk hok, f1, hput.1, Sem.run_pure]
          · rename_i hf
            cases h
            obtain ⟨r', f1, f2⟩ := findKey_sound (keyT_eqT hq) hk g2 hf
            have : r' = none := f2
            subst this
            have hput := put_map hR (clock2 := clock) hg he g1 (es2 := es) (es2' := es') g2
            have hkeep : Rel P w0 B φ m (w.putObj f.C (.map es' clock)) ∧ Fr φ m w φ m (w.putObj f.C (.map es' clock)) := by
              have hsame : w.putObj f.C (.map es' clock) = w := by
                have hlt := (Array.getElem?_eq_some_iff.1 g1).1
                unfold World.putObj
                have : w.heap.setIfInBounds f.C (.map es' clock) = w.heap := by
                  apply Array.ext'
                  rw [Array.toList_setIfInBounds]
                  apply List.ext_getElem?
                  intro j
                  rw [List.getElem?_set]
                  split
                  · rename_i hj; subst hj; simp [hlt]; exact (Array.getElem?_eq_some_iff.1 g1).2.symm
                  · rfl
                rw [this]
              rw [hsame]
              exact ⟨hR, Fr.refl _ _ _⟩
            refine ⟨_, ?_, rfl, hkeep⟩
            simp only [Builtin.delete_, ht, List.getElem?_toArray, List.getElem?_cons_zero, List.getElem?_cons_succ, Sem.run_bind, run_und hu, Result.andThen_ok, g3, checkKey_sound hq hk hok, f1, hput.1, Sem.run_pure]
          · cases h
      · cases h
  · cases h

end Go.Den

/- The soundness of copies, clears, steps of iterators, and texts made of bytes. -/
namespace Go.Den
open Go Go.RowKit

variable {P : Program} {w0 : World} {B : Nat} {φ : Emb} {m : Me} {w : World}

theorem copy_sound (hR : Rel P w0 B φ m w) {t u e ty : TypeId} {us : List TypeId} {z : Nat} (hu : und P t = some (.slice e)) (hz : sz P e = some z) {d s : AV} {d' s' : Value} (hd : VR φ d d') (hs : VR φ s s') {v : AV} {m' : Me}
    (h : copyV m z d s = some (v, m')) : ∃ v' w', (Builtin.copy_ #[t, u] ty #[d', s']).run P w = .ok v' w' ∧ VR φ v v' ∧ m'.nx = m.nx ∧ Rel P w0 B φ m' w' ∧ Fr φ m w φ m' w' := by
  unfold copyV at h
  simp only [bind_some] at h
  obtain ⟨k, hk, h⟩ := h
  split at h
  case h_2 => cases h
  rename_i base len cap
  simp only [bind_some] at h
  obtain ⟨cs, hcs, h⟩ := h
  obtain ⟨cs', f1, f2, f3⟩ := first_sound hR hk hcs hs (Nat.min_le_left _ _)
  have hrun : ∀ (b : Option Addr) c, (Builtin.copy_ #[t, u] ty #[.slice b len c, s']).run P w = (match b with
      | none => .ok (goInt (Nat.min k len)) w
      | some a => ((storeCells a cs'.toList).run P w).andThen fun _ w => .ok (goInt (Nat.min k len)) w) := by
    intro b c
    simp only [Builtin.copy_, List.getElem?_toArray, List.getElem?_cons_zero, List.getElem?_cons_succ, Sem.run_bind, run_und hu, Result.andThen_ok, lenV_sound hk hs, run_sz hz, f1]
    cases b with
    | none => rfl
    | some a => simp only [Sem.run_bind, Sem.run_pure]
  split at h
  · rename_i hn0
    simp only [pure_some, Prod.mk.injEq] at h
    obtain ⟨rfl, rfl⟩ := h
    have hcs0 : cs' = #[] := by
      have : cs'.size = 0 := by have := f2.length; rw [f3, hn0, Nat.zero_mul] at this; simpa using this
      exact Array.eq_empty_of_size_eq_zero this
    have : ∀ b c, (Builtin.copy_ #[t, u] ty #[.slice b len c, s']).run P w = .ok (goInt 0) w := by
      intro b c
      rw [hrun b c, hcs0, hn0]
      cases b <;> rfl
    cases hd <;> exact ⟨goInt 0, w, this _ _, .int _ _, rfl, hR, Fr.refl _ _ _⟩
  · rename_i hn0
    split at h
    · cases h
    · rename_i b i zz
      split at h
      · rename_i ob hg
        simp only [bind_some, pure_some, Prod.mk.injEq] at h
        obtain ⟨ob', hp, rfl, rfl⟩ := h
        have main : ∀ f c, φ b = some f → ∃ v' w', (Builtin.copy_ #[t, u] ty #[.slice (some ⟨f.C, f.o + i, none⟩) len c, s']).run P w = .ok v' w' ∧ VR φ (.int .i64 (Nat.min k len)) v' ∧ m.nx = m.nx ∧ Rel P w0 B φ (m.put b ob') w' ∧ Fr φ m w φ (m.put b ob') w' := by
          intro f c hf
          obtain ⟨w', r1, r2, r3⟩ := put_sound hR hg hf hp f2
          refine ⟨goInt (Nat.min k len), w', ?_, .int _ _, rfl, r2, r3⟩
          rw [hrun]
          show ((storeCells _ _).run P w).andThen _ = _
          rw [r1]
          rfl
        cases hd with
        | slice he ho => exact main _ _ he
        | sliceO he ho hzz hc hK => exact main _ _ he
        | sliceE he ho hzz ha => exact absurd (Nat.le_zero.1 (Nat.min_le_right _ _)) hn0
      · cases h

theorem clearSl_sound (hR : Rel P w0 B φ m w) {t e ty : TypeId} {zv : List AV} (hu : und P t = some (.slice e)) (hz : zcells P e = some zv) {x : AV} {x' : Value} {v : AV} {m' : Me}
    (h : (match x with
    | .slice none _ _ => some (AV.undef, m)
    | .slice (some (b, i, _)) n _ => if n = 0 then some (.undef, m) else match m.get b with
      | some ob => (ob.putCells i (repl zv n)).map fun ob => (.undef, m.put b ob)
      | none => none
    | _ => none) = some (v, m')) (hx : VR φ x x') : ∃ w', (Builtin.clear_ #[t] ty #[x']).run P w = .ok (.tuple #[]) w' ∧ v = .undef ∧ m'.nx = m.nx ∧ Rel P w0 B φ m' w' ∧ Fr φ m w φ m' w' := by
  split at h
  · cases h; cases hx
    exact ⟨w, by simp [Builtin.clear_, run_und hu], rfl, rfl, hR, Fr.refl _ _ _⟩
  · rename_i b i zz n c
    split at h
    · rename_i hn; subst hn; cases h
      cases hx <;> exact ⟨w, by simp [Builtin.clear_, run_und hu], rfl, rfl, hR, Fr.refl _ _ _⟩
    · rename_i hn
      split at h
      · rename_i ob hg
        simp only [map_some, Prod.mk.injEq] at h
        obtain ⟨ob', hp, rfl, rfl⟩ := h
        obtain ⟨zero, hz1, hz2, hz3⟩ := run_zcells hz
        obtain ⟨n', rfl⟩ : ∃ n', n = n' + 1 := ⟨n - 1, by omega⟩
        have hcells : VRs φ (repl zv (n' + 1)) (Builtin.zeroCells zero.cells (n' + 1)).toList := by
          have hl := (hz2 φ).length
          by_cases h0 : zv = []
          · subst h0
            have hs : zero.cells.size = 0 := by simpa using hl
            have e1 : repl ([] : List AV) (n' + 1) = [] := List.eq_nil_of_length_eq_zero (by simp [repl_length])
            rw [e1]
            simp [Builtin.zeroCells, hs]
            exact .nil
          · have := repl_VRs (hz2 φ) h0 (n' + 1)
            have hs : zero.cells.size = zv.length := by simpa using hl
            rw [← hs] at this
            exact this
        have main : ∀ f c, φ b = some f → ∃ w', (Builtin.clear_ #[t] ty #[.slice (some ⟨f.C, f.o + i, none⟩) (n' + 1) c]).run P w = .ok (.tuple #[]) w' ∧ AV.undef = .undef ∧ m.nx = m.nx ∧ Rel P w0 B φ (m.put b ob') w' ∧ Fr φ m w φ (m.put b ob') w' := by
          intro f c hf
          obtain ⟨w', r1, r2, r3⟩ := put_sound hR hg hf hp hcells
          refine ⟨w', ?_, rfl, rfl, r2, r3⟩
          simp only [Builtin.clear_, List.getElem?_toArray, List.getElem?_cons_zero, Sem.run_bind, run_und hu, Result.andThen_ok, hz1, r1, Sem.run_pure]
        cases hx with
        | slice he ho => exact main _ _ he
        | sliceO he ho hzz hc hK => exact main _ _ he
      · cases h
  · cases h

theorem mapClear_sound (hR : Rel P w0 B φ m w) {t kt vt ty : TypeId} (hu : und P t = some (.map kt vt)) {x : AV} {x' : Value} {v : AV} {m' : Me}
    (h : (match x with
    | .map none => some (AV.undef, m)
    | .map (some r) => match m.get r with
      | some (.map _ clock) => some (.undef, m.put r (.map [] clock))
      | _ => none
    | _ => none) = some (v, m')) (hx : VR φ x x') : ∃ w', (Builtin.clear_ #[t] ty #[x']).run P w = .ok (.tuple #[]) w' ∧ v = .undef ∧ m'.nx = m.nx ∧ Rel P w0 B φ m' w' ∧ Fr φ m w φ m' w' := by
  split at h
  · cases h; cases hx
    exact ⟨w, by simp [Builtin.clear_, run_und hu], rfl, rfl, hR, Fr.refl _ _ _⟩
  · split at h
    · rename_i es clock hg
      cases h
      cases hx with
      | map he =>
        obtain ⟨es', g1, g2, g3⟩ := map_at hR hg he
        have hput := put_map hR (clock2 := clock) hg he g1 (es2 := []) (es2' := #[]) .nil
        refine ⟨_, ?_, rfl, rfl, hput.2⟩
        simp only [Builtin.clear_, List.getElem?_toArray, List.getElem?_cons_zero, Sem.run_bind, run_und hu, Result.andThen_ok, g3, hput.1, Sem.run_pure]
    · cases h
  · cases h

theorem nextStr_sound (hR : Rel P w0 B φ m w) {ty : TypeId} {x : AV} {x' : Value} (hx : VR φ x x') {v : AV} {m' : Me} (h : nextStrV m x = some (v, m')) :
    ∃ v' w', (Instr.next x' true ty).run P w = .ok v' w' ∧ VR φ v v' ∧ m'.nx = m.nx ∧ Rel P w0 B φ m' w' ∧ Fr φ m w φ m' w' := by
  unfold nextStrV at h
  split at h
  · rename_i r
    cases hx with
    | ptr he =>
      rename_i e
      split at h
      · rename_i s pos hg
        obtain ⟨o', g1, g2⟩ := hR.obj hg trivial he
        cases g2 with
        | siter _ _ ho =>
          have hgo := run_getObj (P := P) g1 (fun _ _ _ h => by cases h)
          have hsz : (⟨⟨s⟩⟩ : ByteArray).size = s.length := rfl
          rw [ho]
          split at h
          · rename_i hlt
            cases h
            have hput := put_obj hR hg trivial he g1 (fun _ _ _ h => by cases h) (o'' := .stringIter ⟨⟨s⟩⟩ (pos + (Utf8.decode ⟨⟨s⟩⟩ pos).2)) (.siter s _ ho)
            refine ⟨.tuple #[.bool true, goInt pos, .int .i32 (Utf8.decode ⟨⟨s⟩⟩ pos).1], _, ?_, .tuple (.cons (.bool _) (.cons (.int _ _) (.cons (.int _ _) .nil))), rfl, hput.2⟩
            simp only [Instr.next, Sem.run_bind, hgo, Result.andThen_ok, hsz, hlt, if_true, hput.1, Sem.run_pure]
          · rename_i hlt
            cases h
            refine ⟨.tuple #[.bool false], w, ?_, .tuple (.cons (.bool _) .nil), rfl, hR, Fr.refl _ _ _⟩
            simp only [Instr.next, Sem.run_bind, hgo, Result.andThen_ok, hsz, hlt, if_false, Sem.run_pure]
      · cases h
  · cases h

theorem MR.filter (p : Nat → Bool) : ∀ {es : List (AV × AV × Nat)} {es' : List MapEntry}, MR φ es es' → MR φ (es.filter fun e => p e.2.2) (es'.filter fun e => p e.born)
  | _, _, .nil => .nil
  | _, _, .cons h1 h2 h3 t => by
    simp only [List.filter_cons, h3]
    split
    · exact .cons h1 h2 h3 (MR.filter p t)
    · exact MR.filter p t

theorem MR.all (p : Nat → Bool) : ∀ {es : List (AV × AV × Nat)} {es' : List MapEntry}, MR φ es es' → (es'.all fun e => p e.born) = es.all fun e => p e.2.2
  | _, _, .nil => rfl
  | _, _, .cons h1 h2 h3 t => by simp only [List.all_cons, h3, MR.all p t]

theorem MR.empty {es : List (AV × AV × Nat)} {es' : List MapEntry} (h : MR φ es es') : es'.isEmpty = es.isEmpty := by cases h <;> rfl

theorem nextMap_sound (hR : Rel P w0 B φ m w) {ty : TypeId} {x : AV} {x' : Value} (hx : VR φ x x') {v : AV} {m' : Me} (h : nextMapV m x = some (v, m')) :
    ∃ v' w', (Instr.next x' false ty).run P w = .ok v' w' ∧ VR φ v v' ∧ m'.nx = m.nx ∧ Rel P w0 B φ m' w' ∧ Fr φ m w φ m' w' := by
  unfold nextMapV at h
  split at h
  · rename_i r
    cases hx with
    | ptr he =>
      rename_i e
      split at h
      · rename_i hg
        cases h
        obtain ⟨o', g1, g2⟩ := hR.obj hg trivial he
        cases g2 with
        | miter hmo ho =>
          cases hmo
          have hgo := run_getObj (P := P) g1 (fun _ _ _ h => by cases h)
          rw [ho]
          refine ⟨.tuple #[.bool false], w, ?_, .tuple (.cons (.bool _) .nil), rfl, hR, Fr.refl _ _ _⟩
          simp only [Instr.next, Sem.run_bind, hgo, Result.andThen_ok, Sem.run_pure]
      · rename_i mp since seen last hg
        obtain ⟨o', g1, g2⟩ := hR.obj hg trivial he
        split at h
        · rename_i es clock hgm
          cases g2 with
          | miter hmo ho =>
            cases hmo with
            | some hem =>
              rename_i em
              have hgo := run_getObj (P := P) g1 (fun _ _ _ h => by cases h)
              obtain ⟨es', q1, q2, q3⟩ := map_at hR hgm hem
              rw [ho]
              split at h
              · cases h
              · rename_i hgone
                have hgone' : ¬ ((!(seen.toArray).isEmpty && !es'.isEmpty && es'.all (fun e => decide (e.born ≥ last))) = true) := by
                  have e1 : es'.isEmpty = es.isEmpty := by rw [← q2.empty]; cases es'; simp
                  have e2 : es'.all (fun e => decide (e.born ≥ last)) = es.all fun e => decide (e.2.2 ≥ last) := by
                    rw [← MR.all (fun n => decide (n ≥ last)) q2]; cases es'; simp
                  rw [e1, e2]
                  simpa using hgone
                have hleft := MR.filter (fun n => !seen.contains n) q2
                have hl' : (es'.filter fun e => !(seen.toArray).contains e.born).toList = es'.toList.filter fun e => !seen.contains e.born := by
                  rw [Array.toList_filter]; congr 1; funext e; simp
                dsimp only at h
                split at h
                · rename_i hnil
                  cases h
                  rw [hnil] at hleft
                  have h0 : (es'.filter fun e => !(seen.toArray).contains e.born) = #[] := by
                    apply Array.ext'
                    rw [hl']
                    generalize es'.toList.filter (fun e => !seen.contains e.born) = l at hleft
                    cases hleft; rfl
                  refine ⟨.tuple #[.bool false], w, ?_, .tuple (.cons (.bool _) .nil), rfl, hR, Fr.refl _ _ _⟩
                  have c1 : (#[] : Array MapEntry).filter (fun e => decide (e.born < since)) = #[] := by simp
                  have c2 : (#[] : Array MapEntry).filter (fun e => decide (e.born ≥ since)) = #[] := by simp
                  simp only [Instr.next, Sem.run_bind, hgo, q3, Result.andThen_ok, if_neg hgone', h0, c1, c2]
                  have c3 : (if (#[] : Array MapEntry).isEmpty = true then (#[none] : Array (Option MapEntry)) else #[]) ++ Array.map some ((#[] : Array MapEntry) ++ #[]) = #[none] := by simp
                  rw [c3]
                  have c4 : (#[none] : Array (Option MapEntry)).size = 1 := rfl
                  simp only [c4, run_choose, Question.forced, Nat.le_refl, decide_true, if_true, Result.andThen_ok, List.getElem?_toArray, List.getElem?_cons_zero, Sem.run_pure]
                · rename_i y hone
                  split at h
                  · rename_i hlt
                    cases h
                    rw [hone] at hleft
                    obtain ⟨y', hy', hyk, hyv, hyb⟩ : ∃ y', es'.toList.filter (fun e => !seen.contains e.born) = [y'] ∧ VR φ y.1 y'.key ∧ VR φ y.2.1 y'.val ∧ y'.born = y.2.2 := by
                      generalize es'.toList.filter (fun e => !seen.contains e.born) = l at hleft
                      cases hleft with
                      | cons h1 h2 h3 t => cases t; exact ⟨_, rfl, h1, h2, h3⟩
                    have h0 : (es'.filter fun e => !(seen.toArray).contains e.born) = #[y'] := by
                      apply Array.ext'
                      rw [hl', hy']
                    have hput := put_obj hR hg trivial he g1 (fun _ _ _ h => by cases h) (o'' := .mapIter (some em.C) since (seen.toArray.push y'.born) clock) (ob := .miter (some mp) since (seen ++ [y.2.2]) clock)
                      (by have := OR.miter (P := P) (φ := φ) (e := e) (since := since) (seen := seen ++ [y.2.2]) (last := clock) (.some hem) ho; simpa [hyb] using this)
                    refine ⟨.tuple #[.bool true, y'.key, y'.val], _, ?_, .tuple (.cons (.bool _) (.cons hyk (.cons hyv .nil))), rfl, hput.2⟩
                    have hb : y'.born < since := by rw [hyb]; exact hlt
                    have hb2 : ¬ (y'.born ≥ since) := by omega
                    have c1 : (#[y'] : Array MapEntry).filter (fun e => decide (e.born < since)) = #[y'] := by simp [hb]
                    have c2 : (#[y'] : Array MapEntry).filter (fun e => decide (e.born ≥ since)) = #[] := by simp [hb]
                    simp only [Instr.next, Sem.run_bind, hgo, q3, Result.andThen_ok, if_neg hgone', h0, c1, c2]
                    have c3 : (if (#[y'] : Array MapEntry).isEmpty = true then #[none] else #[]) ++ Array.map some ((#[y'] : Array MapEntry) ++ #[]) = #[some y'] := by simp
                    rw [c3]
                    have c4 : (#[some y'] : Array (Option MapEntry)).size = 1 := rfl
                    simp only [c4, run_choose, Question.forced, Nat.le_refl, decide_true, if_true, Result.andThen_ok, List.getElem?_toArray, List.getElem?_cons_zero, Sem.run_bind, hput.1, Sem.run_pure]
                  · cases h
                · cases h
        · cases h
      · cases h
  · cases h

theorem loadBytes_of {C : Nat} {cc : Array Value} {el : TypeId} {fz : Nat × Nat} (hh : w.heap[C]? = some (.cells cc el fz)) : ∀ (vs : List AV) (bs : List UInt8) (vs' : List Value), bytesV vs = some bs → VRs φ vs vs' → ∀ (o : Nat) (acc : ByteArray),
    (∀ j v, vs'[j]? = some v → cc[o + j]? = some v) → (loadBytes ⟨C, o, none⟩ acc vs.length).run P w = .ok ⟨⟨acc.data.toList ++ bs⟩⟩ w := by
  intro vs
  induction vs with
  | nil =>
    intro bs vs' h hr o acc hc
    simp only [bytesV, Option.some.injEq] at h
    subst h
    simp [loadBytes]
  | cons v vs ih =>
    intro bs vs' h hr o acc hc
    cases hr with
    | cons hv ht =>
      unfold bytesV at h
      split at h
      · rename_i heq; cases heq
      · rename_i n l heq
        cases heq
        simp only [map_some] at h
        obtain ⟨bs2, h2, rfl⟩ := h
        cases hv
        have h0 : cc[o]? = some (.int .u8 n) := by simpa using hc 0 _ rfl
        simp only [List.length_cons, loadBytes, Sem.run_bind, run_load, cell_of hh, h0, Result.andThen, add_off]
        rw [ih bs2 _ h2 ht (o + 1) _ (fun j v hj => by have := hc (j + 1) v (by simpa using hj); rwa [show o + 1 + j = o + (j + 1) by omega])]
        congr 3
        simp [Nat.toUInt8]
      · cases h

theorem liesAt_cells {e : TypeId} (hc : P.cellsOf e = 1) (count off n : Nat) (hn : off + n ≤ count) : liesAt P P.depth e count off e n = true := by
  have hd : P.depth = (2 * (P.types.size + Made.depth) + 1) + 1 := rfl
  rw [hd]
  simp only [liesAt, Bool.or_eq_true]
  left
  rw [hd]
  simp [rowAt, hc, hn, sameLayout, Nat.mod_one]

theorem freeze_at {C : Nat} {cc : Array Value} {el : TypeId} {fz : Nat × Nat} (hh : w.heap[C]? = some (.cells cc el fz)) (o n : Nat) :
    OnlyAt C w (w.freeze ⟨C, o, none⟩ n) ∧ ∃ fz', (w.freeze ⟨C, o, none⟩ n).heap[C]? = some (.cells cc el fz') := by
  unfold World.freeze
  split
  · exact ⟨OnlyAt.refl _ _, _, hh⟩
  · refine ⟨⟨rfl, rfl, rfl, by simp, fun k hk => ?_⟩, ?_⟩
    · rw [Array.getElem?_modify, if_neg (Ne.symm hk)]
    · simp only [Array.getElem?_modify, if_true, hh, Option.map_some]
      obtain ⟨a, b⟩ := fz
      exact ⟨_, rfl⟩

def ustrS (t : TypeId) (p : Option Addr) (k : Value) : Sem Value := do
  let n ← asInt k
  if n < 0 then runtimePanic (.error "unsafe.String: len out of range")
  if n > IntKind.i64.max then unsupported (.unsafePointer "String: a length above the largest int")
  match p with
  | none =>
    if n = 0 then pure (.string .empty)
    else runtimePanic (.error "unsafe.String: ptr is nil and len is not zero")
  | some a =>
    if n = 0 then pure (.string .empty)
    else if ← variablesAt a (← elemOf t) n.toNat then do
      let s ← loadBytes a .empty n.toNat
      freeze a n.toNat
      pure (.string s)
    else unsupported (.unsafePointer "String: not so many bytes at ptr")

theorem ustrS_eq (t : TypeId) (ts : List TypeId) (ty : TypeId) (p : Option Addr) (k : Value) : Builtin.unsafeString_ (t :: ts).toArray ty #[.pointer p, k] = ustrS t p k := rfl

theorem ustr_sound (hR : Rel P w0 B φ m w) {t e ty : TypeId} {ts : List TypeId} (hu : und P t = some (.pointer e)) (hz : sz P e = some 1) {x k : AV} {x' k' : Value} {v : AV} {m' : Me}
    (h : (match x, k with
    | .ptr none, .int _ 0 => some (AV.str [], m)
    | .ptr (some (b, i)), .int _ n =>
      if n = 0 then some (.str [], m) else
      if n < 0 ∨ n > 2 ^ 48 then none else
      match m.get b with
      | some (.cells t size d el' .open_) =>
        if e ≠ el' then none else
        match ((Ob.cells t size d el' .open_).cellsFrom i n.toNat).bind bytesV with
        | some s => some (.str s, m.put b (.cells t size d el' .froz))
        | none => none
      | _ => none
    | _, _ => none) = some (v, m')) (hx : VR φ x x') (hk : VR φ k k') : ∃ v' w', (Builtin.unsafeString_ (t :: ts).toArray ty #[x', k']).run P w = .ok v' w' ∧ VR φ v v' ∧ m'.nx = m.nx ∧ Rel P w0 B φ m' w' ∧ Fr φ m w φ m' w' := by
  have hmax : IntKind.i64.max = 9223372036854775807 := rfl
  split at h
  · cases h; cases hx; cases hk
    refine ⟨.string .empty, w, ?_, .str [], rfl, hR, Fr.refl _ _ _⟩
    rw [ustrS_eq]; simp [ustrS, asInt, asIntOf, hmax]
  · rename_i b i kk n
    cases hk
    split at h
    · rename_i hn; subst hn
      cases h
      cases hx
      refine ⟨.string .empty, w, ?_, .str [], rfl, hR, Fr.refl _ _ _⟩
      rw [ustrS_eq]; simp [ustrS, asInt, asIntOf, hmax]
    · rename_i hn0
      split at h
      · cases h
      · rename_i hrange
        split at h
        · rename_i t0 size d el' hg
          split at h
          · cases h
          · rename_i hel
            simp only [ne_eq, Decidable.not_not] at hel
            subst hel
            split at h
            · rename_i bs hbs
              cases h
              rw [Option.bind_eq_some_iff] at hbs
              obtain ⟨vs, hvs, hbs⟩ := hbs
              cases hx with
              | ptr he =>
                rename_i f
                obtain ⟨cc, el2, fz, q1, q2, q3, q4, q5⟩ := hR.cells hg he
                obtain ⟨a1, a2, a3, a4, a5⟩ := q5
                rw [a2] at q1
                obtain ⟨p1, p2, p3⟩ := cellsFrom_sound q2 _ _ _ hvs
                have hnn : n.toNat ≠ 0 := by omega
                have hle := p2 hnn
                have hload := loadBytes_of (P := P) q1 vs bs _ hbs p1 (f.o + i) .empty (fun j v hj => by
                  have hjn : j < n.toNat := by have := (List.getElem?_eq_some_iff.1 hj).1; simp at this; omega
                  rw [List.getElem?_take_of_lt hjn, List.getElem?_drop] at hj
                  simpa using hj)
                rw [p3] at hload
                have hcells : P.cellsOf e = 1 := by
                  unfold sz at hz
                  simp [Program.cellsOf, hz]
                have hlies := liesAt_cells (P := P) hcells (cc.size / P.cellsOf e) (f.o + i) n.toNat (by rw [hcells]; simp; omega)
                obtain ⟨z1, fz', z2⟩ := freeze_at (w := w) q1 (f.o + i) n.toNat
                have hput := hR.put (ob := .cells t0 size d e .froz) hg trivial he z1 z2 (.cells (fun j hj => q2 j hj) q3 q4 ⟨a1, rfl, a3, a4⟩)
                refine ⟨.string ⟨⟨bs⟩⟩, _, ?_, .str _, rfl, hput⟩
                have hsh : w.shape? f.C = some (e, cc.size) := by obtain ⟨x1, x2⟩ := fz; simp [World.shape?, q1]
                have hn2 : ¬ (n > IntKind.i64.max) := by rw [hmax]; omega
                have hn1 : ¬ (n < 0) := by omega
                have hva : (variablesAt ⟨f.C, f.o + i, none⟩ e n.toNat).run P w = .ok true w := by
                  simp [variablesAt, hsh, hlies]
                have hel : (elemOf t).run P w = .ok e w := by simp [elemOf, run_und hu]
                rw [ustrS_eq]
                simp only [ustrS, asInt, asIntOf, Sem.run_bind, Sem.run_pure, Result.andThen_ok, hn1, hn2, hn0, if_false, hel, hva, if_true, hload, run_freeze]
                simp
            · cases h
        · cases h
  · cases h

end Go.Den

/- The soundness of what changes memory. -/
namespace Go.Den
open Go Go.RowKit

variable {P : Program} {w0 : World} {B : Nat} {φ : Emb} {m : Me} {w : World}

theorem Sy.ofVal {ρ : Operand → Value} {o : Oper} {v : AV} {m' : Me} {s : Sem Value} (he : execOp ρ o = (do pure (.value (← s))))
    (h : ∃ v' w', s.run P w = .ok v' w' ∧ VR φ v v' ∧ m'.nx = m.nx ∧ Rel P w0 B φ m' w' ∧ Fr φ m w φ m' w') : Sy P w0 B φ m w ρ o v m' := by
  obtain ⟨v', w', h1, h2, h3, h4, h5⟩ := h
  exact Sy.value he h1 h2 (by rw [h3]; exact Gr.refl _ _) h4 h5

theorem Sy.ofUnit {ρ : Operand → Value} {o : Oper} {v : AV} {m' : Me} {s : Sem Unit} (he : execOp ρ o = (do s; pure .skip))
    (h : ∃ w', s.run P w = .ok () w' ∧ v = .undef ∧ m'.nx = m.nx ∧ Rel P w0 B φ m' w' ∧ Fr φ m w φ m' w') : Sy P w0 B φ m w ρ o v m' := by
  obtain ⟨w', h1, h2, h3, h4, h5⟩ := h
  subst h2
  exact ⟨Go.undef, w', φ, .inr ⟨by rw [he]; simp [h1], rfl⟩, VR.undef φ, by rw [h3]; exact Gr.refl _ _, h4, h5⟩

theorem Sy.ofTup {ρ : Operand → Value} {o : Oper} {v : AV} {m' : Me} {s : Sem Value} (he : execOp ρ o = (do pure (.value (← s))))
    (h : ∃ w', s.run P w = .ok (.tuple #[]) w' ∧ v = .undef ∧ m'.nx = m.nx ∧ Rel P w0 B φ m' w' ∧ Fr φ m w φ m' w') : Sy P w0 B φ m w ρ o v m' := by
  obtain ⟨w', h1, h2, h3, h4, h5⟩ := h
  subst h2
  exact Sy.ofVal he ⟨_, w', h1, VR.undef φ, h3, h4, h5⟩

theorem Sy.ofEy {ρ : Operand → Value} {o : Oper} {v : AV} {m' : Me} {s : Sem Value} (he : execOp ρ o = (do pure (.value (← s)))) (h : Ey P w0 B φ m w s v m') : Sy P w0 B φ m w ρ o v m' := by
  obtain ⟨v', w', φ', h1, h2, h3, h4, h5⟩ := h
  exact Sy.value he h1 h2 h3 h4 h5

theorem eff_sound (hR : Rel P w0 B φ m w) {K : Nat → Bool} {r : Opd → AV} {ρ : Operand → Value} (hρ : OpR P φ K r ρ) {o : Oper} {a : AOp} (hc : cOp K P o.op = some a) (hcl : a.cls = .eff)
    {v : AV} {m' : Me} (hv : effV r m a = some (v, m')) (hn : m.nx < m'.nx → φ m.nx = none) : Sy P w0 B φ m w ρ o v m' := by
  have put : ∀ t mm k x, (o.op = .insert t mm k x ∨ o.op = .mapUpdate t mm k x) → (match und P t with
      | some (.map kt _) => do pure (AOp.mapPut (← keyT P kt) (← opd P K mm) (← opd P K k) (← opd P K x))
      | _ => none) = some a → Sy P w0 B φ m w ρ o v m' := by
    intro t mm k x ho hc
    split at hc
    · rename_i kt vt hu
      simp only [bind_some, pure_some] at hc
      obtain ⟨q, hq, mo, hm, ko, hk, xo, hx, rfl⟩ := hc
      simp only [effV, map_some, Prod.mk.injEq] at hv
      obtain ⟨m2, hp, rfl, rfl⟩ := hv
      obtain ⟨w', h1, h2, h3, h4⟩ := mapPut_sound hR hu hq (hρ _ _ hm) (hρ _ _ hk) (hρ _ _ hx) hp
      exact Sy.ofUnit (s := Instr.mapUpdate t (ρ mm) (ρ k) (ρ x)) (by rcases ho with ho | ho <;> simp [execOp, ho]) ⟨w', h1, rfl, h2, h3, h4⟩
    · cases hc
  cases ho : o.op <;> rw [ho] at hc <;> simp only [cOp] at hc
  case insert t mm k x => exact put t mm k x (.inl ho) hc
  case mapUpdate t mm k x => exact put t mm k x (.inr ho) hc
  case mapEntry t mm k =>
    split at hc
    · rename_i kt vt hu
      simp only [bind_some, pure_some] at hc
      obtain ⟨q, hq, z, hz, mo, hm, ko, hk, rfl⟩ := hc
      have hrm := hρ _ _ hm
      simp only [effV] at hv
      split at hv
      · rename_i rr heq
        rw [heq] at hrm
        split at hv
        · cases hv
        · rename_i hok
          simp only [Bool.not_eq_true, Bool.not_eq_false'] at hok
          split at hv
          · rename_i es clock hg
            generalize hxx : ρ mm = xx at hrm
            cases hrm with
            | map he =>
              refine Sy.ofEy (s := Instr.mapEntry t (ρ mm) (ρ k)) (by simp [execOp, ho]) ?_
              rw [hxx]
              exact mapEntry_sound hR hu hq hz he (hρ _ _ hk) hok hg hv
          · cases hv
      · cases hv
    · cases hc
  case entryStore t mm s x =>
    simp only [bind_some, pure_some] at hc
    obtain ⟨mo, hm, so, hs, xo, hx, rfl⟩ := hc
    have hrm := hρ _ _ hm
    have hrs := hρ _ _ hs
    simp only [effV] at hv
    split at hv
    · rename_i rr ki st heq heq2
      rw [heq] at hrm
      rw [heq2] at hrs
      split at hv
      · rename_i es clock hg
        generalize hxx : ρ mm = xx at hrm
        generalize hyy : ρ s = yy at hrs
        cases hrs
        cases hrm with
        | map he =>
          refine Sy.ofUnit (s := Instr.entryStore t (ρ mm) (ρ s) (ρ x)) (by simp [execOp, ho]) ?_
          rw [hxx, hyy]
          exact entryStore_sound hR he (hρ _ _ hx) hg hv
      · cases hv
    · cases hv
  case next it isString =>
    simp only [map_some] at hc
    obtain ⟨x, hx, hc⟩ := hc
    refine Sy.ofVal (s := Instr.next (ρ it) isString o.type) (by simp [execOp, ho]) ?_
    cases isString
    · simp only [Bool.false_eq_true, if_false] at hc
      subst hc
      simp only [effV] at hv
      exact nextMap_sound hR (hρ _ _ hx) hv
    · simp only [if_true] at hc
      subst hc
      simp only [effV] at hv
      exact nextStr_sound hR (hρ _ _ hx) hv
  case range t x =>
    have hc0 := hc
    split at hc
    · simp only [map_some] at hc
      obtain ⟨_, _, rfl⟩ := hc
      simp [AOp.cls] at hcl
    · simp only [map_some] at hc
      obtain ⟨y, hy, rfl⟩ := hc
      simp only [effV, map_some, Prod.mk.injEq] at hv
      obtain ⟨ob, hob, rfl, rfl⟩ := hv
      exact alloc_sound hR (hn (Nat.lt_succ_self _)) hρ (by rw [ho]; simp only [cOp]; exact hc0) (.inr ⟨y, rfl⟩) (ob := ob) (f := fun b => AV.ptr (some (b, 0))) (by simp [hob])
    · cases hc
  case call c =>
    split at hc
    · simp only [bind_some, pure_some] at hc
      obtain ⟨_, _, _, _, rfl⟩ := hc
      simp [effV] at hv
    · rename_i b hb
      obtain ⟨cs, he⟩ := run_builtin (ρ := ρ) ho hb
      unfold cBuiltin at hc
      simp only [bind_some] at hc
      obtain ⟨as, has, hc⟩ := hc
      split at hc
      · repeat' split at hc
        all_goals first
          | (cases hc; done)
          | (cases hc; simp [AOp.cls] at hcl; done)
      · split at hc <;> cases hc
        simp [AOp.cls] at hcl
      · -- append
        rename_i t u s x ht
        obtain ⟨s', x', hl, hs, hx⟩ := opds_two has
        have ha := arr_of hl
        have hT := arr_of ht
        rw [ha, hT] at he
        split at hc
        · cases hc
        · rename_i e d hd hu hu2
          simp only [bind_some] at hc
          obtain ⟨z, hz, bb, hb2, zv, hzv, hc⟩ := hc
          split at hc
          · cases hc
          · rename_i hcond
            simp only [not_or, ne_eq, Decidable.not_not] at hcond
            obtain ⟨c1, c2⟩ := hcond
            simp only [pure_some] at hc
            subst hc
            simp only [effV] at hv
            refine Sy.ofEy he ?_
            simp only [List.map_toArray, List.map_cons, List.map_nil]
            exact append_sound hR hu hu2 (fun k hk => hd k (by rw [hk])) hz c1 hb2 hzv c2 (hρ _ _ hs) (hρ _ _ hx) hv hn
        · cases hc
      · -- copy
        rename_i t u d s ht
        obtain ⟨d', s', hl, hd, hs⟩ := opds_two has
        have ha := arr_of hl
        have hT := arr_of ht
        rw [ha, hT] at he
        split at hc
        · rename_i e hu
          simp only [bind_some] at hc
          obtain ⟨z, hz, hc⟩ := hc
          split at hc
          · cases hc
          · simp only [pure_some] at hc
            subst hc
            simp only [effV] at hv
            refine Sy.ofVal he ?_
            simp only [List.map_toArray, List.map_cons, List.map_nil]
            exact copy_sound (us := []) hR hu hz (hρ _ _ hd) (hρ _ _ hs) hv
        · cases hc
      · -- delete
        rename_i t ts mm k ht
        obtain ⟨m2, k2, hl, hm, hk⟩ := opds_two has
        have ha := arr_of hl
        have hT := arr_of ht
        rw [ha, hT] at he
        split at hc
        · rename_i kt vt hu
          simp only [bind_some, pure_some] at hc
          obtain ⟨q, hq, rfl⟩ := hc
          simp only [effV, map_some, Prod.mk.injEq] at hv
          obtain ⟨m3, hp, rfl, rfl⟩ := hv
          refine Sy.ofTup he ?_
          simp only [List.map_toArray, List.map_cons, List.map_nil]
          obtain ⟨w', h1, h2, h3, h4⟩ := del_sound (ts := ts) (ty := o.type) hR hu hq (hρ _ _ hm) (hρ _ _ hk) hp
          exact ⟨w', h1, trivial, h2, h3, h4⟩
        · cases hc
      · -- clear
        rename_i t x ht
        obtain ⟨x', hl, hx⟩ := opds_one has
        have ha := arr_of hl
        have hT := arr_of ht
        rw [ha, hT] at he
        split at hc
        · rename_i kt vt hu
          cases hc
          simp only [effV] at hv
          refine Sy.ofTup he ?_
          simp only [List.map_toArray, List.map_cons, List.map_nil]
          exact mapClear_sound hR hu hv (hρ _ _ hx)
        · rename_i e hu
          simp only [bind_some] at hc
          obtain ⟨zv, hzv, z, hz, hc⟩ := hc
          split at hc
          · cases hc
          · simp only [pure_some] at hc
            subst hc
            simp only [effV] at hv
            refine Sy.ofTup he ?_
            simp only [List.map_toArray, List.map_cons, List.map_nil]
            exact clearSl_sound hR hu hzv hv (hρ _ _ hx)
        · cases hc
      · cases hc; simp [AOp.cls] at hcl
      · cases hc; simp [AOp.cls] at hcl
      · cases hc; simp [AOp.cls] at hcl
      · -- unsafe.String
        rename_i t ts x k ht
        obtain ⟨x', k', hl, hx, hk⟩ := opds_two has
        have ha := arr_of hl
        have hT := arr_of ht
        rw [ha, hT] at he
        split at hc
        · rename_i e hu
          split at hc
          · rename_i hu8 hz
            cases hc
            simp only [effV] at hv
            refine Sy.ofVal he ?_
            simp only [List.map_toArray, List.map_cons, List.map_nil]
            exact ustr_sound hR hu hz hv (hρ _ _ hx) (hρ _ _ hk)
          · cases hc
        · cases hc
      · cases hc
    · simp only [bind_some, pure_some] at hc
      obtain ⟨_, _, _, _, rfl⟩ := hc
      simp [effV] at hv
  case convert src dst x =>
    obtain ⟨u, _, hc⟩ := Option.bind_eq_some_iff.1 hc
    unfold cConv at hc
    repeat' split at hc
    all_goals first | (cases hc; done) | (cases hc; simp [AOp.cls] at hcl; done)
  case slice t x lo hi mx =>
    simp only [bind_some, pure_some] at hc
    obtain ⟨k, _, _, _, _, _, _, _, _, _, rfl⟩ := hc
    cases k <;> simp [AOp.cls] at hcl
  all_goals first
    | (cases hc; done)
    | (cases hc; simp [AOp.cls] at hcl; done)
    | (simp only [map_some] at hc; obtain ⟨_, _, rfl⟩ := hc; simp [AOp.cls] at hcl; done)
    | (simp only [bind_some, pure_some] at hc; obtain ⟨_, _, rfl⟩ := hc; simp [AOp.cls] at hcl; done)
    | (simp only [bind_some, pure_some] at hc; obtain ⟨_, _, _, _, rfl⟩ := hc; simp [AOp.cls] at hcl; done)
    | (simp only [bind_some, pure_some] at hc; obtain ⟨_, _, _, _, _, _, rfl⟩ := hc; simp [AOp.cls] at hcl; done)
    | (simp only [bind_some, pure_some] at hc; obtain ⟨_, _, _, _, _, _, _, _, rfl⟩ := hc; simp [AOp.cls] at hcl; done)
    | (simp only [bind_some, pure_some] at hc; obtain ⟨_, _, _, _, _, _, _, _, _, _, rfl⟩ := hc; simp [AOp.cls] at hcl; done)
    | (repeat' split at hc
       all_goals first
        | (cases hc; done)
        | (cases hc; simp [AOp.cls] at hcl; done)
        | (simp only [map_some] at hc; obtain ⟨_, _, rfl⟩ := hc; simp [AOp.cls] at hcl; done)
        | (simp only [bind_some, pure_some] at hc; obtain ⟨_, _, rfl⟩ := hc; simp [AOp.cls] at hcl; done)
        | (simp only [bind_some, pure_some] at hc; obtain ⟨_, _, _, _, rfl⟩ := hc; simp [AOp.cls] at hcl; done)
        | (simp only [bind_some, pure_some] at hc; obtain ⟨_, _, _, _, _, _, rfl⟩ := hc; simp [AOp.cls] at hcl; done)
        | (simp only [bind_some, pure_some] at hc; obtain ⟨_, _, _, _, _, _, _, _, rfl⟩ := hc; simp [AOp.cls] at hcl; done)
        | (simp only [bind_some, pure_some] at hc; obtain ⟨_, _, _, _, _, _, _, _, _, _, rfl⟩ := hc; simp [AOp.cls] at hcl; done)
        | (simp only [bind_some] at hc; obtain ⟨_, _, _, _, _, _, hc⟩ := hc; split at hc <;> first | (cases hc; done) | (simp only [bind_some, pure_some] at hc; obtain ⟨_, _, _, _, rfl⟩ := hc; simp [AOp.cls] at hcl; done) | (simp only [pure_some] at hc; subst hc; simp [AOp.cls] at hcl; done))
        | (simp only [bind_some] at hc; obtain ⟨_, _, _, _, _, _, hc⟩ := hc; split at hc <;> first | (cases hc; done) | (simp only [bind_some, pure_some] at hc; subst hc; simp [AOp.cls] at hcl; done)))

end Go.Den

/- One operation: the soundness of 'operV'. -/
namespace Go.Den
open Go Go.RowKit

variable {P : Program} {w0 : World} {B : Nat} {φ : Emb} {m : Me} {w : World}

theorem Room.first {a b : Nat} (h : Room φ a b) : a < b → φ a = none := fun hab => h a (Nat.le_refl _) hab

theorem simple_sound (hR : Rel P w0 B φ m w) {K : Nat → Bool} {r : Opd → AV} {ρ : Operand → Value} (hρ : OpR P φ K r ρ) {o : Oper} {a : AOp} (hc : cOp K P o.op = some a)
    {v : AV} {m' : Me} (hv : simpleV r m a = some (v, m')) (hn : Room φ m.nx m'.nx) : Sy P w0 B φ m w ρ o v m' := by
  unfold simpleV at hv
  split at hv
  · rename_i hcl
    simp only [map_some, Prod.mk.injEq] at hv
    obtain ⟨v1, hv1, rfl, rfl⟩ := hv
    obtain ⟨v', h1, h2⟩ := pure_sound hρ hc hcl hv1
    exact ⟨v', w, φ, .inl (h1 w), h2, Gr.refl _ _, hR, Fr.refl _ _ _⟩
  · rename_i hcl
    simp only [map_some, Prod.mk.injEq] at hv
    obtain ⟨v1, hv1, rfl, rfl⟩ := hv
    obtain ⟨v', h1, h2⟩ := read_sound hR hρ hc hcl hv1
    exact ⟨v', w, φ, .inl h1, h2, Gr.refl _ _, hR, Fr.refl _ _ _⟩
  · rename_i hcl
    simp only [map_some, Prod.mk.injEq] at hv
    obtain ⟨⟨ob, f⟩, hv1, rfl, rfl⟩ := hv
    refine alloc_sound hR (hn.first (Nat.lt_succ_self _)) hρ hc (.inl hcl) ?_
    cases a <;> first | exact hv1 | simp [AOp.cls] at hcl
  · rename_i hcl
    split at hv
    · simp only [map_some, Prod.mk.injEq] at hv
      obtain ⟨m1, hv1, rfl, rfl⟩ := hv
      exact store_sound hR hρ hc rfl hv1
    · cases hv
  · rename_i hcl
    exact eff_sound hR hρ hc hcl hv hn.first

/-! ## Calls -/
/-- How the world is behind a step. -/
def Aft (P : Program) (w0 : World) (B : Nat) (φ : Emb) (m : Me) (w : World) (v : AV) (m' : Me) (v' : Value) (w' : World) : Prop :=
  ∃ φ', VR φ' v v' ∧ Gr φ φ' m.nx m'.nx ∧ Rel P w0 B φ' m' w' ∧ Fr φ m w φ' m' w'

def onlyV (R : Value → World → Prop) : Ending → World → Prop
  | .returned v, w => R v w
  | _, _ => False

/-- What a call, once it is made, comes to. -/
def InvR (P : Program) (s : Sem Next) (w : World) (R : Value → World → Prop) : Prop :=
  (∃ v w', s.run P w = .ok (.value v) w' ∧ R v w') ∨
  (∃ f args w', s.run P w = .ok (.enter f args) w' ∧ CallsIn Fence.wide 0 P f args w' (onlyV R)) ∨
  (∃ l f tmps as bd w', s.run P w = .ok (.round l f tmps as bd) w' ∧ RoundIn Fence.wide 0 P l f tmps as bd w' (onlyV R))

def CallS (P : Program) (w0 : World) (B : Nat) (callF : CallF) : Prop :=
  ∀ f args m v m', callF f args m = some (v, m') → ∀ φ w args', GlobR P φ → Rel P w0 B φ m w → VRs φ args args' → Room φ m.nx m'.nx → InvR P (callFunc f args'.toArray) w (Aft P w0 B φ m w v m')

def RoundS (P : Program) (w0 : World) (B : Nat) (round : Nat → List AV → Me → Option (AV × Me)) : Prop :=
  ∀ l args m v m', round l args m = some (v, m') → ∀ φ w args' e, GlobR P φ → Rel P w0 B φ m w → VRs φ args args' → Room φ m.nx m'.nx → φ l = some e → InvR P (Instr.yield e.C args'.toArray) w (Aft P w0 B φ m w v m')

theorem target_sound {callF : CallF} {round : Nat → List AV → Me → Option (AV × Me)} (hC : CallS P w0 B callF) (hD : RoundS P w0 B round) (hG : GlobR P φ) (hR : Rel P w0 B φ m w) {f : AV} {f' : Value} (hf : VR φ f f')
    {args : List AV} {args' : List Value} (ha : VRs φ args args') {v : AV} {m' : Me} (h : targetV callF round f args m = some (v, m')) (hn : Room φ m.nx m'.nx) :
    ∃ d, Deferred.ofValue f' args'.toArray = pure d ∧ InvR P (invoke d.target d.args) w (Aft P w0 B φ m w v m') := by
  unfold targetV at h
  split at h
  · rename_i g first cap
    cases hf with
    | func hf h1 h2 =>
      rename_i f1 a1 b1
      cases hf
      refine ⟨_, rfl, ?_⟩
      have := hC _ _ _ _ _ h φ w (a1.toList ++ args' ++ b1.toList) hG hR ((h1.append ha).append h2) hn
      have e : (a1.toList ++ args' ++ b1.toList).toArray = a1 ++ args'.toArray ++ b1 := by
        apply Array.ext'; simp
      rw [e] at this
      exact this
  · rename_i l first cap
    cases hf with
    | func hf h1 h2 =>
      rename_i f1 a1 b1
      cases hf with
      | yield hl =>
        refine ⟨_, rfl, ?_⟩
        have := hD _ _ _ _ _ h φ w (a1.toList ++ args') _ hG hR (h1.append ha) hn hl
        have e : (a1.toList ++ args').toArray = a1 ++ args'.toArray := by
          apply Array.ext'; simp
        rw [e] at this
        exact this
  · cases h

/-- The fence that lets all in, in a function's frame or in a round's. -/
abbrev Fw (r : Option Nat) : Fence := { Fence.wide with round := r }

theorem callsIn_fw {r : Option Nat} {n n' : Nat} {f : FuncId} {args : Array Value} {w : World} {R : Ending → World → Prop} (h : CallsIn Fence.wide n P f args w R) : CallsIn (Fw r) n' P f args w R :=
  ⟨trivial, fun cs _ => h.2 cs (room_wide _)⟩

theorem roundIn_fw {r r' : Option Nat} {n n' : Nat} {l : Nat} {f : FuncId} {tmps : Array Value} {as bd : Code} {w : World} {R : Ending → World → Prop} (h : RoundIn (Fw r') n P l f tmps as bd w R) : RoundIn (Fw r) n' P l f tmps as bd w R :=
  ⟨trivial, fun c cs _ => h.2 c cs (room_wide _)⟩

/-- An operation, gone through. -/
theorem oper_wp {callF : CallF} {round : Nat → List AV → Me → Option (AV × Me)} (hC : CallS P w0 B callF) (hD : RoundS P w0 B round) (hG : GlobR P φ) (hR : Rel P w0 B φ m w) {K : Nat → Bool} {rr : Opd → AV} {act : Act}
    (hρ : OpR P φ K rr act.eval) {o : Oper} {a : AOp} (hc : cOp K P o.op = some a) {v : AV} {m' : Me} (hv : operV callF round rr m a = some (v, m')) (hn : Room φ m.nx m'.nx)
    {r : Option Nat} {next : Act → World → Prop} {Q : Exit → Act → World → Prop} (hnext : ∀ v' w', Aft P w0 B φ m w v m' v' w' → next (act.put o.dst v') w') : o.wpIn (Fw r) 0 P act w next Q := by
  refine ⟨fun _ _ => trivial, ?_⟩
  have hdef : ∀ c, o.op ≠ .defer c := fun c h => by rw [h] at hc; simp [cOp] at hc
  rw [Oper.semAt_eq _ _ _ hdef]
  unfold operV at hv
  split at hv
  · rename_i f args
    obtain ⟨c, f0, hop, hcal, hf0, hargs⟩ : ∃ c f0, o.op = .call c ∧ c.callee = .value f0 ∧ opd P K f0 = some f ∧ opds P K c.args.toList = some args := by
      cases ho : o.op <;> rw [ho] at hc <;> simp only [cOp] at hc
      case call c =>
        split at hc
        · rename_i f1 hcal
          simp only [bind_some, pure_some] at hc
          obtain ⟨f2, hf, as, has, heq⟩ := hc
          cases heq
          exact ⟨c, f1, rfl, hcal, hf, has⟩
        · simp only [cBuiltin, bind_some] at hc
          obtain ⟨_, _, hc⟩ := hc
          repeat' split at hc
          all_goals first
            | (cases hc; done)
            | (simp only [bind_some, pure_some, reduceCtorEq, and_false, exists_false] at hc; done)
            | (simp only [bind_some] at hc; obtain ⟨_, _, _, _, _, _, hc⟩ := hc; split at hc <;> cases hc; done)
            | (simp only [bind_some] at hc; obtain ⟨_, _, _, _, hc⟩ := hc; split at hc <;> cases hc; done)
            | (simp only [bind_some] at hc; obtain ⟨_, _, hc⟩ := hc; split at hc <;> cases hc; done)
        · simp only [bind_some, pure_some, reduceCtorEq, and_false, exists_false] at hc
      case convert src dst x =>
        obtain ⟨u, _, hc⟩ := Option.bind_eq_some_iff.1 hc
        unfold cConv at hc
        repeat' split at hc
        all_goals cases hc
      all_goals first
        | (cases hc; done)
        | (simp only [bind_some, pure_some, map_some, reduceCtorEq, and_false, exists_false] at hc; done)
        | (repeat' split at hc
           all_goals first
            | (cases hc; done)
            | (simp only [bind_some, pure_some, map_some, reduceCtorEq, and_false, exists_false] at hc; done)
            | (simp only [map_some] at hc; obtain ⟨_, _, hc⟩ := hc; split at hc <;> cases hc; done)
            | (simp only [bind_some] at hc; obtain ⟨_, _, _, _, _, _, hc⟩ := hc; split at hc <;> first | (cases hc; done) | (simp only [bind_some, pure_some, reduceCtorEq, and_false, exists_false] at hc; done))
            | (simp only [bind_some] at hc; obtain ⟨_, _, hc⟩ := hc; split at hc <;> first | (cases hc; done) | (simp only [bind_some, pure_some, reduceCtorEq, and_false, exists_false] at hc; done)))
    have hargs' := opds_VRs hρ hargs
    obtain ⟨d, hd, hinv⟩ := target_sound hC hD hG hR (hρ _ _ hf0) hargs' hv hn
    have hex : (execOp act.eval o).run P w = (invoke d.target d.args).run P w := by
      have hm : (c.args.map act.eval) = (c.args.toList.map act.eval).toArray := by apply Array.ext'; simp
      have : execOp act.eval o = (do let d ← resolve act.eval c o.type; invoke d.target d.args) := by simp only [execOp, hop]
      rw [this]
      simp only [resolve, hcal]
      rw [hm, hd]
      simp only [Sem.run_bind, Sem.run_pure, Result.andThen_ok]
    rw [hex]
    rcases hinv with ⟨v', w', h1, h2⟩ | ⟨g, as, w', h1, h2⟩ | ⟨l, g, tmps, as, bd, w', h1, h2⟩
    · rw [h1]; exact hnext _ _ h2
    · rw [h1]
      refine ⟨fun h => by simp [Fw, Fence.wide] at h, callsIn_fw (h2.mono fun e w'' he => ?_)⟩
      cases e with
      | returned u => exact hnext _ _ he
      | panicked _ => exact he.elim
      | outgrown => exact he.elim
    · rw [h1]
      refine ⟨fun h => by simp [Fw, Fence.wide] at h, roundIn_fw (r' := none) (n := 0) (h2.mono fun e w'' he => ?_)⟩
      cases e with
      | returned u => exact hnext _ _ he
      | panicked _ => exact he.elim
      | outgrown => exact he.elim
  · cases hv
  · obtain ⟨v', w', φ', h1, h2, h3, h4, h5⟩ := simple_sound hR hρ hc hv hn
    rcases h1 with h1 | ⟨h1, rfl⟩
    · rw [h1]; exact hnext _ _ ⟨φ', h2, h3, h4, h5⟩
    · rw [h1]; exact hnext _ _ ⟨φ', h2, h3, h4, h5⟩

end Go.Den

/- Regions in their order: the soundness of 'opsV'. -/
namespace Go.Den
open Go Go.RowKit

variable {P : Program} {w0 : World} {B : Nat} {φ : Emb} {m : Me} {w : World}

/-! ## The number of blocks grows -/
theorem append_nx {m m' : Me} {el : TypeId} {b z : Nat} {s x v : AV} (h : appendV m el b z s x = some (v, m')) : m.nx ≤ m'.nx := by
  unfold appendV at h
  simp only [bind_some] at h
  obtain ⟨n, _, h⟩ := h
  split at h
  · simp only [bind_some] at h
    obtain ⟨new, _, h⟩ := h
    repeat' split at h
    all_goals first
      | (cases h; done)
      | (simp only [pure_some, Prod.mk.injEq] at h; obtain ⟨_, rfl⟩ := h; simp; done)
      | (simp only [bind_some, pure_some, Prod.mk.injEq] at h; obtain ⟨_, _, _, rfl⟩ := h; simp; done)
  · cases h

theorem copy_nx {m m' : Me} {z : Nat} {s x v : AV} (h : copyV m z s x = some (v, m')) : m.nx ≤ m'.nx := by
  unfold copyV at h
  simp only [bind_some] at h
  obtain ⟨n, _, h⟩ := h
  split at h
  · simp only [bind_some] at h
    obtain ⟨new, _, h⟩ := h
    repeat' split at h
    all_goals first
      | (cases h; done)
      | (simp only [pure_some, Prod.mk.injEq] at h; obtain ⟨_, rfl⟩ := h; simp; done)
      | (simp only [bind_some, pure_some, Prod.mk.injEq] at h; obtain ⟨_, _, _, rfl⟩ := h; simp; done)
  · cases h

theorem eff_nx {ρ : Opd → AV} {m m' : Me} {o : AOp} {v : AV} (h : effV ρ m o = some (v, m')) : m.nx ≤ m'.nx := by
  cases o <;> simp only [effV] at h <;> first | (cases h; done) | skip
  case append => exact append_nx h
  case copy => exact copy_nx h
  case rangeMap =>
    simp only [map_some, Prod.mk.injEq] at h
    obtain ⟨_, _, _, rfl⟩ := h
    simp
  case mapPut =>
    simp only [map_some, Prod.mk.injEq] at h
    obtain ⟨m2, h, _, rfl⟩ := h
    unfold mapPutV at h
    repeat' split at h
    all_goals first | (cases h; done) | (cases h; simp; done)
  case mapDel =>
    simp only [map_some, Prod.mk.injEq] at h
    obtain ⟨m2, h, _, rfl⟩ := h
    unfold mapDelV at h
    repeat' split at h
    all_goals first | (cases h; simp; done) | (cases h; done)
  case nextStr =>
    unfold nextStrV at h
    repeat' split at h
    all_goals first | (cases h; simp; done) | (cases h; done)
  case nextMap =>
    unfold nextMapV at h
    split at h
    · split at h
      · cases h; simp
      · split at h
        · split at h
          · cases h
          · dsimp only at h
            repeat' split at h
            all_goals first | (cases h; simp; done) | (cases h; done)
        · cases h
      · cases h
    · cases h
  case clearSl =>
    repeat' split at h
    all_goals first | (cases h; simp; done) | (cases h; done) | (simp only [map_some, Prod.mk.injEq] at h; obtain ⟨_, _, _, rfl⟩ := h; simp; done)
  all_goals
    repeat' split at h
    all_goals first | (cases h; simp; done) | (cases h; done)

theorem simple_nx {ρ : Opd → AV} {m m' : Me} {o : AOp} {v : AV} (h : simpleV ρ m o = some (v, m')) : m.nx ≤ m'.nx := by
  unfold simpleV at h
  split at h
  · simp only [map_some, Prod.mk.injEq] at h
    obtain ⟨_, _, _, rfl⟩ := h; exact Nat.le_refl _
  · simp only [map_some, Prod.mk.injEq] at h
    obtain ⟨_, _, _, rfl⟩ := h; exact Nat.le_refl _
  · simp only [map_some, Prod.mk.injEq] at h
    obtain ⟨⟨ob, f⟩, _, _, rfl⟩ := h; simp
  · split at h
    · simp only [map_some, Prod.mk.injEq] at h
      obtain ⟨m1, h, _, rfl⟩ := h
      unfold storeV at h
      repeat' split at h
      all_goals first | (cases h; done) | (simp only [map_some] at h; obtain ⟨_, _, rfl⟩ := h; simp; done)
    · cases h
  · exact eff_nx h

def MonC (callF : CallF) : Prop := ∀ f args m v m', callF f args m = some (v, m') → m.nx ≤ m'.nx
def MonR (round : Nat → List AV → Me → Option (AV × Me)) : Prop := ∀ l args m v m', round l args m = some (v, m') → m.nx ≤ m'.nx

theorem target_nx {callF : CallF} {round : Nat → List AV → Me → Option (AV × Me)} (hC : MonC callF) (hD : MonR round) {f : AV} {args : List AV} {m m' : Me} {v : AV} (h : targetV callF round f args m = some (v, m')) : m.nx ≤ m'.nx := by
  unfold targetV at h
  split at h
  · exact hC _ _ _ _ _ h
  · exact hD _ _ _ _ _ h
  · cases h

theorem oper_nx {callF : CallF} {round : Nat → List AV → Me → Option (AV × Me)} (hC : MonC callF) (hD : MonR round) {ρ : Opd → AV} {m m' : Me} {o : AOp} {v : AV} (h : operV callF round ρ m o = some (v, m')) : m.nx ≤ m'.nx := by
  unfold operV at h
  split at h
  · exact target_nx hC hD h
  · cases h
  · exact simple_nx h

theorem ops_nx {callF : CallF} {round : Nat → List AV → Me → Option (AV × Me)} (hC : MonC callF) (hD : MonR round) : ∀ (l : List AOper) (e : Env) (fr : T AV) (m : Me) (fr' : T AV) (m' : Me), opsV callF round l e fr m = some (fr', m') → m.nx ≤ m'.nx
  | [], e, fr, m, fr', m', h => by simp only [opsV, Option.some.injEq, Prod.mk.injEq] at h; rw [h.2]; exact Nat.le_refl _
  | o :: l, e, fr, m, fr', m', h => by
    simp only [opsV] at h
    split at h
    · split at h
      · rename_i h1; exact Nat.le_trans (oper_nx hC hD h1) (ops_nx hC hD _ _ _ _ _ _ h)
      · cases h
    · exact ops_nx hC hD _ _ _ _ _ _ h
    · cases h

/-! ## Slots -/
structure SR (K : Nat → Bool) (nt : Nat) (φ : Emb) (e : Env) (fr : T AV) (tmps : Array Value) : Prop where
  fs : FS φ e fr tmps
  fk : FrK K fr
  ek : ∀ t, K t = true → e.get t = .unk
  sz : nt ≤ tmps.size

theorem SR.mono {φ φ' : Emb} (h : Le φ φ') {K : Nat → Bool} {nt : Nat} {e : Env} {fr : T AV} {tmps : Array Value} (s : SR K nt φ e fr tmps) : SR K nt φ' e fr tmps := ⟨s.fs.mono h, s.fk, s.ek, s.sz⟩

theorem getD_set (a : Array Value) (d : Nat) (v u : Value) (t : Nat) : (a.setIfInBounds d v).getD t u = if t = d ∧ d < a.size then v else a.getD t u := by
  simp only [Array.getD_eq_getD_getElem?, Array.getElem?_setIfInBounds]
  by_cases h : d = t
  · subst h
    by_cases h2 : d < a.size
    · simp [h2]
    · simp [h2]
  · rw [if_neg h, if_neg (fun h2 => h h2.1.symm)]

/-- A slot is written. -/
theorem SR.put {K : Nat → Bool} {nt : Nat} {e : Env} {fr : T AV} {a : Act} (s : SR K nt φ e fr a.tmps) {dst : Option Nat} (hd : ∀ d, dst = some d → d < nt) {v : AV} {v' : Value} (hv : VR φ v v') :
    SR K nt φ (putE e (dst.map fun d => (K d, d)) v) (putV fr (dst.map fun d => (K d, d)) v) (a.put dst v').tmps := by
  cases dst with
  | none => exact s
  | some d =>
    have hlt : d < a.tmps.size := Nat.lt_of_lt_of_le (hd d rfl) s.sz
    simp only [Option.map_some, Act.put]
    cases hK : K d
    · simp only [putE, putV]
      refine ⟨⟨fun t u hu => ?_, fun t => ?_⟩, s.fk, fun t ht => ?_, by simp; exact s.sz⟩
      · rw [getD_set, if_neg]
        · exact s.fs.fr t u hu
        · rintro ⟨rfl, _⟩
          have := s.fk t u hu
          rw [hK] at this; cases this
      · simp only [Env.get]
        rw [getD_set]
        by_cases htd : d = t
        · subst htd; rw [if_pos rfl, if_pos ⟨rfl, hlt⟩]; exact hv
        · rw [if_neg htd, if_neg (fun h => htd h.1.symm)]; exact s.fs.env t
      · simp only [Env.get]
        rw [if_neg (fun h => by subst h; rw [hK] at ht; cases ht)]
        exact s.ek t ht
    · simp only [putE, putV]
      refine ⟨⟨fun t u hu => ?_, fun t => ?_⟩, fun t u hu => ?_, s.ek, by simp; exact s.sz⟩
      · rw [T.get_set] at hu
        rw [getD_set]
        by_cases htd : t = d
        · subst htd; rw [if_pos rfl] at hu; cases hu; rw [if_pos ⟨rfl, hlt⟩]; exact hv
        · rw [if_neg htd] at hu; rw [if_neg (fun h => htd h.1)]; exact s.fs.fr t u hu
      · rw [getD_set]
        by_cases htd : t = d
        · subst htd; rw [s.ek t hK]; exact .unk _
        · rw [if_neg (fun h => htd h.1)]; exact s.fs.env t
      · rw [T.get_set] at hu
        by_cases htd : t = d
        · subst htd; exact hK
        · rw [if_neg htd] at hu; exact s.fk t u hu

theorem cOper_spec {K : Nat → Bool} {nt : Nat} {ops : List Oper} {o : Oper} {a : AOper} (h : cOper K P nt ops o = some a) :
    cOp K P o.op = some a.op ∧ cGuard K ops o.guard = some a.guard ∧ a.dst = o.dst.map (fun d => (K d, d)) ∧ ∀ d, o.dst = some d → d < nt := by
  unfold cOper at h
  simp only [bind_some] at h
  obtain ⟨x, hx, g, hg, h⟩ := h
  split at h
  · cases h
  · rename_i hd
    simp only [pure_some] at h
    subst h
    refine ⟨hx, hg, rfl, fun d hd' => ?_⟩
    rw [hd'] at hd
    simpa using hd

/-- Whether an operation is wanted. -/
theorem wanted_sound {K : Nat → Bool} {nt : Nat} {e : Env} {fr : T AV} {tmps : Array Value} (s : SR K nt φ e fr tmps) {ops : Array Oper} {o : Oper} {g : Option (Opd × Bool)} (hg : cGuard K ops.toList o.guard = some g) {b : Bool} (hw : wantedV e fr g = some b) :
    Region.wanted o (yielded ops tmps) = b := by
  unfold Region.wanted
  cases ho : o.guard with
  | none =>
    rw [ho] at hg
    simp only [cGuard, Option.some.injEq] at hg
    subst hg
    simp only [wantedV, Option.some.injEq] at hw
    exact hw
  | some jb =>
    obtain ⟨j, want⟩ := jb
    rw [ho] at hg
    simp only [cGuard] at hg
    split at hg
    · rename_i t hslot
      simp only [Option.some.injEq] at hg
      subst hg
      have hv : VR φ (look e fr (if K t = true then .tmp t else .loc t)) (tmps.getD t Go.undef) := by
        split
        · simp only [look]
          cases hf : fr.get t with
          | none => exact .unk _
          | some u => exact s.fs.fr t u hf
        · exact s.fs.env t
      have hy : yielded ops tmps j = match tmps.getD t Go.undef with | .bool b => some b | _ => none := by
        unfold yielded
        have : (ops[j]?).bind (·.dst) = some t := by
          have h2 := hslot
          unfold slotOf at h2
          rw [← h2]
          simp
        rw [this]
        simp only [Option.bind_some, Array.getD_eq_getD_getElem?]
        cases htt : tmps[t]? with
        | none => simp [Go.undef]
        | some u => simp only [Option.getD_some]; cases u <;> rfl
      simp only [wantedV] at hw
      dsimp only
      rw [hy]
      generalize look e fr (if K t = true then .tmp t else .loc t) = x at hv hw
      generalize tmps.getD t Go.undef = x' at hv
      cases hv <;> simp_all
    · cases hg

/-- A region in its order. -/
theorem opsV_wp {callF : CallF} {round : Nat → List AV → Me → Option (AV × Me)} (hC : CallS P w0 B callF) (hD : RoundS P w0 B round) (hMC : MonC callF) (hMR : MonR round) {ops : Array Oper} {K : Nat → Bool} {nt : Nat} {r : Option Nat} :
    ∀ (l : List AOper) (k : Nat), (ops.toList.drop k).mapM (cOper K P nt ops.toList) = some l → ∀ (e : Env) (fr : T AV) (m : Me) (φ : Emb) (w : World) (act : Act) (fr' : T AV) (m' : Me), opsV callF round l e fr m = some (fr', m') →
      GlobR P φ → Rel P w0 B φ m w → SR K nt φ e fr act.tmps → Room φ m.nx m'.nx → ∀ (Q : Exit → Act → World → Prop),
      (∀ act' w' φ', act'.defers = act.defers → (∃ e', SR K nt φ' e' fr' act'.tmps) → Gr φ φ' m.nx m'.nx → Rel P w0 B φ' m' w' → Fr φ m w φ' m' w' → Q .normal act' w') →
      wpOpsIn (Fw r) 0 P ops Q (List.range' k (ops.size - k)) act w := by
  intro l
  induction l with
  | nil =>
    intro k hk e fr m φ w act fr' m' hv hG hR hS hroom Q hQ
    simp only [opsV, Option.some.injEq, Prod.mk.injEq] at hv
    obtain ⟨rfl, rfl⟩ := hv
    have hle : ops.size ≤ k := by
      rcases Nat.lt_or_ge k ops.size with h | h
      · exfalso
        rw [List.drop_eq_getElem_cons (by simpa using h)] at hk
        simp only [List.mapM_cons, bind_some, pure_some] at hk
        obtain ⟨_, _, _, _, h3⟩ := hk
        cases h3
      · exact h
    rw [show ops.size - k = 0 by omega]
    simp only [List.range'_zero, wpOpsIn]
    exact hQ act w φ rfl ⟨e, hS⟩ (Gr.refl _ _) hR (Fr.refl _ _ _)
  | cons a l ih =>
    intro k hk e fr m φ w act fr' m' hv hG hR hS hroom Q hQ
    have hlt : k < ops.size := by
      rcases Nat.lt_or_ge k ops.size with h | h
      · exact h
      · rw [List.drop_eq_nil_of_le (by simpa using h)] at hk
        simp [pure] at hk
    rw [List.drop_eq_getElem_cons (by simpa using hlt)] at hk
    simp only [List.mapM_cons, bind_some, pure_some] at hk
    obtain ⟨a', ha', l', hl', heq⟩ := hk
    simp only [List.cons.injEq] at heq
    obtain ⟨rfl, rfl⟩ := heq
    rw [show ops.size - k = (ops.size - (k + 1)) + 1 by omega, List.range'_succ]
    have hget : ops[k]? = some ops[k] := Array.getElem?_eq_getElem hlt
    have ha2 : cOper K P nt ops.toList ops[k] = some a' := by simpa using ha'
    obtain ⟨c1, c2, c3, c4⟩ := cOper_spec ha2
    simp only [wpOpsIn, hget]
    simp only [opsV] at hv
    split at hv
    · rename_i hw
      rw [if_pos (wanted_sound hS c2 hw)]
      split at hv
      · rename_i v m1 hop
        have hn1 := oper_nx hMC hMR hop
        have hn2 := ops_nx hMC hMR _ _ _ _ _ _ hv
        refine oper_wp hC hD hG hR (OpR.of hG hS.fs) c1 hop (hroom.left hn2) ?_
        rintro v' w' ⟨φ', h1, h2, h3, h4⟩
        have hS' := (hS.mono h2.le).put c4 h1
        rw [← c3] at hS'
        refine ih (k + 1) hl' _ _ _ φ' w' _ fr' m' hv (hG.mono h2.le) h3 hS' (hroom.right h2) Q fun act' w'' φ'' q1 q2 q3 q4 q5 => ?_
        exact hQ act' w'' φ'' (q1.trans (by cases ops[k].dst <;> rfl)) q2 (h2.trans q3) q4 (h4.trans q5)
      · cases hv
    · rename_i hw
      rw [if_neg (by rw [wanted_sound hS c2 hw]; simp)]
      refine ⟨fun _ _ => trivial, ?_⟩
      have hS' := hS.put (dst := ops[k].dst) c4 (VR.undef φ)
      rw [← c3] at hS'
      refine ih (k + 1) hl' _ _ _ φ w _ fr' m' hv hG hR hS' hroom Q fun act' w'' φ'' q1 q2 q3 q4 q5 => ?_
      exact hQ act' w'' φ'' (q1.trans (by cases ops[k].dst <;> rfl)) q2 q3 q4 q5
    · cases hv

end Go.Den
