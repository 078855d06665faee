/- Regions that draw their order: what the compiler has looked at. -/
import Derived.Test.YtacmmkacdfhagaaGreatDoorDen5
import Derived.RangeFuncLeaves

set_option linter.unusedSimpArgs false
set_option linter.unusedVariables false
set_option linter.unusedSectionVars false
set_option linter.deprecated false

namespace Go.Den
open Go Go.RowKit

variable {P : Program} {K : Nat → Bool} {nt : Nat} {ops : Array Oper} {as : List AOper} {l : List Nat} {r : List AOper}

structure DD (P : Program) (K : Nat → Bool) (nt : Nat) (ops : Array Oper) (as : List AOper) (l : List Nat) (r : List AOper) : Prop where
  has : ops.toList.mapM (cOper K P nt ops.toList) = some as
  hok : drawOk ops.toList as l (ancs ops.toList l []) = true
  hr : l.zipIdx.mapM (fun (j, q) => (as[j]?).map (withEarly as l (ancs ops.toList l []) j q)) = some r

theorem DD.of {r : List AOper} (h : cRegion K P nt ops true = some (.draw r)) : ∃ as l, DD P K nt ops as l r := by
  unfold cRegion at h
  simp only [bind_some] at h
  obtain ⟨as, has, h⟩ := h
  simp only [Bool.not_true, Bool.false_eq_true, if_false] at h
  split at h
  · cases h
  · rename_i hok
    simp only [Bool.not_eq_true', Bool.not_eq_false] at hok
    simp only [bind_some, pure_some, ACode.draw.injEq] at h
    obtain ⟨r', hr, rfl⟩ := h
    exact ⟨as, _, has, hok, hr⟩

variable (D : DD P K nt ops as l r)
include D

theorem DD.parts : l.Nodup ∧ (∀ j ∈ l, j < ops.size) ∧ (∀ j, j < ops.size → j ∈ l) ∧ topoOk ops.toList l [] = true ∧ pairsOk ops.toList as (ancs ops.toList l []) l = true ∧ slotsOk ops.toList as = true := by
  have h := D.hok
  simp only [drawOk, Bool.and_eq_true, decide_eq_true_eq] at h
  obtain ⟨⟨⟨⟨⟨h1, h2⟩, h3⟩, h4⟩, h5⟩, h6⟩ := h
  refine ⟨h1, fun j hj => ?_, fun j hj => ?_, h4, h5, h6⟩
  · have := List.all_eq_true.1 h2 j hj
    simpa using this
  · have := List.all_eq_true.1 h3 j (by simpa using hj)
    simpa using this

theorem DD.at {q j : Nat} (h : l[q]? = some j) : ∃ o a0, ops.toList[j]? = some o ∧ as[j]? = some a0 ∧ cOper K P nt ops.toList o = some a0 ∧ r[q]? = some (withEarly as l (ancs ops.toList l []) j q a0) := by
  obtain ⟨_, h2, _, _, _, _⟩ := D.parts
  have hj := h2 j (List.mem_of_getElem? h)
  have ho : ops.toList[j]? = some ops.toList[j] := List.getElem?_eq_getElem (by simpa using hj)
  obtain ⟨a0, h3, h4⟩ := (mapM_get D.has).2 j _ ho
  have hz : l.zipIdx[q]? = some (j, q) := by rw [List.getElem?_zipIdx, h]; simp
  obtain ⟨b, h5, h6⟩ := (mapM_get D.hr).2 q _ hz
  simp only [h4, Option.map_some, Option.some.injEq] at h5
  subst h5
  exact ⟨_, a0, ho, h4, h3, h6⟩

theorem DD.rlen : r.length = l.length := by
  have := (mapM_get D.hr).1
  simpa using this

theorem DD.back {q : Nat} {a : AOper} (h : r[q]? = some a) : ∃ j o a0, l[q]? = some j ∧ ops.toList[j]? = some o ∧ as[j]? = some a0 ∧ cOper K P nt ops.toList o = some a0 ∧ a = withEarly as l (ancs ops.toList l []) j q a0 := by
  have hq := lt_of_get h
  rw [D.rlen] at hq
  have hl : l[q]? = some l[q] := List.getElem?_eq_getElem hq
  obtain ⟨o, a0, h1, h2, h3, h4⟩ := D.at hl
  rw [h] at h4
  cases h4
  exact ⟨_, o, a0, hl, h1, h2, h3, rfl⟩

theorem DD.cls {q j : Nat} {a : AOper} (h : r[q]? = some a) (hl : l[q]? = some j) : clsAt as j = a.op.cls := by
  obtain ⟨j', o, a0, h1, h2, h3, h4, rfl⟩ := D.back h
  rw [hl] at h1; cases h1
  unfold clsAt
  rw [h3]
  simp [withEarly_same.1]

def heavyAt (as : List AOper) (i : Nat) : Bool := heavyC (clsAt as i)

theorem DD.ch (n : Nat) : CH r n = ((l.take n).filter (heavyAt as)).length := by
  have hmap : r.map hvO = l.map (heavyAt as) := by
    apply List.ext_getElem?
    intro q
    rw [List.getElem?_map, List.getElem?_map]
    cases hr : r[q]? with
    | none =>
      have hl : l[q]? = none := by
        rw [List.getElem?_eq_none_iff] at hr ⊢
        rw [D.rlen] at hr; exact hr
      rw [hl]; rfl
    | some a =>
      obtain ⟨j, o, a0, h1, h2, h3, h4, rfl⟩ := D.back hr
      rw [h1]
      simp only [Option.map_some, Option.some.injEq]
      unfold heavyAt hvO
      rw [D.cls hr h1]
  have count : ∀ {α : Type} (f : α → Bool) (x : List α), (x.filter f).length = ((x.map f).filter id).length := by
    intro α f x
    induction x with
    | nil => rfl
    | cons y x ih => simp only [List.filter_cons, List.map_cons, id]; split <;> simp [ih]
  unfold CH
  rw [count hvO, count (heavyAt as), List.map_take, List.map_take, hmap]

def DD.MT (ops : Array Oper) (l : List Nat) (q : Nat) : List Nat :=
  match l[q]? with
  | some j => match ops.toList[j]? with
    | some o => ment ops.toList o
    | none => []
  | none => []

def DD.Anc (ops : Array Oper) (l : List Nat) (p q : Nat) : Prop := ∃ i j, l[p]? = some i ∧ l[q]? = some j ∧ ancB (ancs ops.toList l []) i j = true

theorem DD.mt {q j : Nat} {o : Oper} (h : l[q]? = some j) (ho : ops.toList[j]? = some o) : DD.MT ops l q = ment ops.toList o := by
  unfold DD.MT
  rw [h]
  simp only
  rw [ho]

theorem DD.pd : PD K nt r (DD.MT ops l) (DD.Anc ops l) := by
  obtain ⟨p1, p2, p3, p4, p5, p6⟩ := D.parts
  refine ⟨?_, ?_, ?_, ?_, ?_, ?_⟩
  · intro p q a b ha hb hpq
    obtain ⟨i, oi, ai, h1, h2, h3, h4, rfl⟩ := D.back ha
    obtain ⟨j, oj, aj, g1, g2, g3, g4, rfl⟩ := D.back hb
    have hp := pairs_get p5 p q i j h1 g1 hpq
    unfold pairOk at hp
    rw [Bool.or_eq_true] at hp
    rcases hp with hp | hp
    · exact .inl ⟨i, j, h1, g1, hp⟩
    · right
      rw [h2, g2] at hp
      simp only [Bool.and_eq_true, apartB] at hp
      obtain ⟨⟨q1, q2⟩, q3⟩ := hp
      have di := (cOper_spec h4).2.2.1
      have dj := (cOper_spec g4).2.2.1
      rw [D.cls ha h1, D.cls hb g1] at q3
      refine ⟨fun k d hd => ?_, fun k d hd => ?_, q3⟩
      · rw [withEarly_same.2.1, di] at hd
        simp only [Option.map_eq_some_iff, Prod.mk.injEq] at hd
        obtain ⟨d', hd', _, rfl⟩ := hd
        rw [hd'] at q1
        rw [D.mt g1 g2]
        simpa using q1
      · rw [withEarly_same.2.1, dj] at hd
        simp only [Option.map_eq_some_iff, Prod.mk.injEq] at hd
        obtain ⟨d', hd', _, rfl⟩ := hd
        rw [hd'] at q2
        rw [D.mt h1 h2]
        simpa using q2
  · intro q a k d ha hd
    obtain ⟨i, oi, ai, h1, h2, h3, h4, rfl⟩ := D.back ha
    obtain ⟨_, _, di, dn⟩ := cOper_spec h4
    rw [withEarly_same.2.1, di] at hd
    simp only [Option.map_eq_some_iff, Prod.mk.injEq] at hd
    obtain ⟨d', hd', rfl, rfl⟩ := hd
    refine ⟨?_, rfl, dn _ hd'⟩
    rw [D.mt h1 h2]
    unfold ment
    rw [hd']
    simp
  · intro q a ha y hy t hyt
    obtain ⟨i, oi, ai, h1, h2, h3, h4, rfl⟩ := D.back ha
    have hlt := lt_of_get h2
    have hs := List.all_eq_true.1 p6 i (by simpa using hlt)
    rw [h2, h3] at hs
    simp only at hs
    rw [withEarly_same.1] at hy
    have := List.all_eq_true.1 hs y hy
    rw [D.mt h1 h2]
    rcases hyt with rfl | rfl <;> simpa [slotIn] using this
  · intro q a x b t ha hg hx
    obtain ⟨i, oi, ai, h1, h2, h3, h4, rfl⟩ := D.back ha
    obtain ⟨_, gi, _, _⟩ := cOper_spec h4
    rw [withEarly_same.2.2] at hg
    rw [hg] at gi
    rw [D.mt h1 h2]
    unfold cGuard at gi
    split at gi
    · cases gi
    · rename_i j2 b2 hgo
      split at gi
      · rename_i t2 hslot
        simp only [Option.some.injEq, Prod.mk.injEq] at gi
        obtain ⟨rfl, rfl⟩ := gi
        have ht : t2 = t := by
          cases hK : K t2 <;> rw [hK] at hx <;> rcases hx with hx | hx <;> simp at hx <;> exact hx
        subst ht
        refine ⟨?_, rfl⟩
        unfold ment
        rw [hgo]
        simp [hslot]
      · cases gi
  · intro q a ha hc n hn hqn hno
    obtain ⟨j, o, a0, h1, h2, h3, h4, rfl⟩ := D.back ha
    have hc0 : a0.op.cls = .read := by rw [← hc, withEarly_same.1]
    have hself : hvO (withEarly as l (ancs ops.toList l []) j q a0) = false := by simp [hvO, hc, heavyC]
    have hs := CH_step ha
    rw [hself] at hs
    simp only [Bool.false_eq_true, if_false, Nat.add_zero] at hs
    rw [← hs, D.ch, D.ch]
    have hsplit : l.take n = l.take (q + 1) ++ (l.drop (q + 1)).take (n - (q + 1)) := by
      rw [← List.take_add]; congr 1; omega
    rw [hsplit, List.filter_append, List.length_append]
    have := cnt_part (heavyAt as) (fun i => !ancB (ancs ops.toList l []) j i) (List.take_sublist (n - (q + 1)) (l.drop (q + 1))) (fun x hx hxh => by
      obtain ⟨k, hk, hkx⟩ := List.getElem?_of_mem hx |>.imp fun k h => (⟨(List.getElem?_eq_some_iff.1 h).1, h⟩ : k < ((l.drop (q + 1)).take (n - (q + 1))).length ∧ _)
      have hk2 : k < n - (q + 1) := by simp at hk; omega
      rw [List.getElem?_take_of_lt hk2, List.getElem?_drop] at hkx
      obtain ⟨o', b0, g1, g2, g3, g4⟩ := D.at hkx
      have hh : hvO (withEarly as l (ancs ops.toList l []) x (q + 1 + k) b0) = true := by
        unfold hvO; rw [← D.cls g4 hkx]; exact hxh
      have := hno (q + 1 + k) _ g4 (by omega) (by omega) hh
      cases hA : ancB (ancs ops.toList l []) j x with
      | false => rfl
      | true => exact absurd ⟨j, x, h1, hkx, hA⟩ this)
    have hle : (withEarly as l (ancs ops.toList l []) j q a0).late = ((l.drop (q + 1)).filter fun i => heavyAt as i && !ancB (ancs ops.toList l []) j i).length := by
      unfold withEarly; rw [if_pos hc0]; rfl
    rw [hle]
    omega
  · intro q a ha hc n hn hno
    obtain ⟨j, o, a0, h1, h2, h3, h4, rfl⟩ := D.back ha
    have hc0 : a0.op.cls = .read := by rw [← hc, withEarly_same.1]
    rw [D.ch, D.ch]
    have hsplit : l.take q = l.take n ++ (l.drop n).take (q - n) := by
      rw [← List.take_add]; congr 1; omega
    have hsub : ((l.drop n).take (q - n)).Sublist (l.take q) := by rw [hsplit]; exact List.sublist_append_right _ _
    have := cnt_part (heavyAt as) (fun i => !ancB (ancs ops.toList l []) i j) hsub (fun x hx hxh => by
      obtain ⟨k, hk, hkx⟩ := List.getElem?_of_mem hx |>.imp fun k h => (⟨(List.getElem?_eq_some_iff.1 h).1, h⟩ : k < ((l.drop n).take (q - n)).length ∧ _)
      have hk2 : k < q - n := by simp at hk; omega
      rw [List.getElem?_take_of_lt hk2, List.getElem?_drop] at hkx
      obtain ⟨o', b0, g1, g2, g3, g4⟩ := D.at hkx
      have hh : hvO (withEarly as l (ancs ops.toList l []) x (n + k) b0) = true := by
        unfold hvO; rw [← D.cls g4 hkx]; exact hxh
      have := hno (n + k) _ g4 (by omega) (by omega) hh
      cases hA : ancB (ancs ops.toList l []) x j with
      | false => rfl
      | true => exact absurd ⟨x, j, hkx, h1, hA⟩ this)
    have hle : (withEarly as l (ancs ops.toList l []) j q a0).early = ((l.take q).filter fun i => heavyAt as i && !ancB (ancs ops.toList l []) i j).length := by
      unfold withEarly; rw [if_pos hc0]; rfl
    rw [hle]
    conv => lhs; rw [hsplit]
    rw [List.filter_append, List.length_append]
    omega

end Go.Den

/- Regions that draw their order: the soundness of 'drawV'. -/
namespace Go.Den
open Go Go.RowKit

variable {P : Program} {w0 : World} {B : Nat} {φ : Emb} {m : Me} {w : World}

section
variable {K : Nat → Bool} {nt : Nat} {r : List AOper} {MT : Nat → List Nat} {Anc : Nat → Nat → Prop} {callF : CallF} {round : Nat → List AV → Me → Option (AV × Me)} {st : Nat → DS} {V : Nat → AV} {wt : Nat → Bool}
variable {φ0 : Emb} {w1 : World} {t0 t1 : Array Value} {S : Nat → Prop} {n : Nat} {μ : Me}

theorem st_K (hP : PD K nt r MT Anc) (hT : Trc callF round r st V wt) (h1 : FrK K (st 0).fr) (h2 : ∀ t, K t = true → (st 0).e.get t = .unk) : ∀ (q : Nat), q ≤ r.length → FrK K (st q).fr ∧ ∀ t, K t = true → (st q).e.get t = .unk
  | 0, _ => ⟨h1, h2⟩
  | q + 1, hq => by
    obtain ⟨g1, g2⟩ := st_K hP hT h1 h2 q (by omega)
    have ha : r[q]? = some r[q] := List.getElem?_eq_getElem (by omega)
    obtain ⟨e1, e2⟩ := hT.env q _ ha
    rw [e1, e2]
    cases hd : r[q].dst with
    | none => exact ⟨g1, g2⟩
    | some kd =>
      obtain ⟨k, d⟩ := kd
      obtain ⟨_, hk, _⟩ := hP.dst q _ k d ha hd
      cases k
      · simp only [putE, putV]
        refine ⟨g1, fun t ht => ?_⟩
        simp only [Env.get]
        rw [if_neg (fun h => by subst h; rw [ht] at hk; cases hk)]
        exact g2 t ht
      · simp only [putE, putV]
        refine ⟨fun t u hu => ?_, g2⟩
        rw [T.get_set] at hu
        by_cases htd : t = d
        · subst htd; exact hk.symm
        · rw [if_neg htd] at hu; exact g1 t u hu

/-- All have been made. -/
theorem Inv.done (h : Inv P w0 B r Anc st V wt φ0 w1 t0 S n φ μ w t1) (hP : PD K nt r MT Anc) (hT : Trc callF round r st V wt) (h0 : ∀ t, VR φ0 (slotV K (st 0) t) (t0.getD t Go.undef)) (hnt : nt ≤ t0.size)
    (hk1 : FrK K (st 0).fr) (hk2 : ∀ t, K t = true → (st 0).e.get t = .unk) (hS : ∀ p, p < r.length → S p) :
    SR K nt φ (st r.length).e (st r.length).fr t1 ∧ Gr φ0 φ (st 0).m.nx (st r.length).m.nx ∧ Rel P w0 B φ (st r.length).m w ∧ Fr φ0 (st 0).m w1 φ (st r.length).m w := by
  obtain ⟨k1, k2⟩ := st_K hP hT hk1 hk2 r.length (Nat.le_refl _)
  have hslot : ∀ t, VR φ (slotV K (st r.length) t) (t1.getD t Go.undef) := by
    intro t
    rcases h.slots t with ⟨p, g1, g2, g3, g4⟩ | ⟨g2, g3⟩
    · rw [slot_last hP hT g2 r.length (Nat.le_refl _) (h.sl p g1) fun p' q1 q2 => g3 p' q1 (hS p' q2)]
      exact g4
    · rw [slot_none hP hT r.length (Nat.le_refl _) fun p hp => g2 p (hS p hp), g3]
      exact (h0 t).mono h.gr.le
  obtain ⟨s1, s2, s3⟩ := h.sub_at hT (r.length - n) r.length (by have := h.nle; omega) (Nat.le_refl _) (fun p a ha h1 h2 => by
    cases hh : hvO a with
    | false => rfl
    | true => have := (h.hv p a ha hh).1 (hS p h2); omega) (fun p a ha h1 h2 _ => hS p h2)
  refine ⟨⟨⟨fun t v hv => ?_, fun t => ?_⟩, k1, k2, by rw [h.size]; exact hnt⟩, h.gr, h.rel.sub s1 s2, ⟨h.fr.size, h.fr.keep, fun b o e hb hl he => h.fr.img b o e (s1 _ _ hb) hl he⟩⟩
  · have := hslot t
    unfold slotV at this
    rw [if_pos (k1 t v hv), hv] at this
    exact this
  · cases hK : K t with
    | true => rw [k2 t hK]; exact .unk _
    | false =>
      have := hslot t
      unfold slotV at this
      rw [hK] at this
      exact this

end

/-- Those listed, as places of our order. -/
def SL (l : List Nat) (listed : Array Bool) (p : Nat) : Prop := ∃ j, l[p]? = some j ∧ listed.getD j false = true

def unl (N : Nat) (listed : Array Bool) : Nat := ((List.range N).filter fun j => !listed.getD j false).length

theorem getD_setB (a : Array Bool) (j k : Nat) (hj : j < a.size) (d : Bool) : (a.setIfInBounds j true).getD k d = if k = j then true else a.getD k d := by
  simp only [Array.getD_eq_getD_getElem?, Array.getElem?_setIfInBounds]
  by_cases h : j = k
  · subst h; simp [hj]
  · rw [if_neg h, if_neg (fun h2 => h h2.symm)]

theorem unl_set {N : Nat} {listed : Array Bool} {j : Nat} (hj : j < N) (hs : listed.size = N) (hu : listed.getD j false = false) : unl N (listed.setIfInBounds j true) < unl N listed := by
  unfold unl
  have : (List.range N).filter (fun k => !(listed.setIfInBounds j true).getD k false) = ((List.range N).filter fun k => !listed.getD k false).filter fun k => !decide (k = j) := by
    rw [List.filter_filter]
    apply List.filter_congr
    intro k _
    rw [getD_setB _ _ _ (by omega)]
    by_cases h : k = j <;> simp [h]
  rw [this, List.length_filter_lt_length_iff_exists]
  exact ⟨j, List.mem_filter.2 ⟨List.mem_range.2 hj, by simp [hu]⟩, by simp⟩

theorem bindsOn_mem {o : Oper} {i : Nat} : i ∈ bindsOn o ↔ ∃ e ∈ o.after, Region.binds .any e = true ∧ e.on = i := by
  unfold bindsOn
  simp only [List.mem_map, List.mem_filter, Array.mem_toList_iff]
  constructor
  · rintro ⟨e, ⟨h1, h2⟩, h3⟩; exact ⟨e, h1, h2, h3⟩
  · rintro ⟨e, h1, h2, h3⟩; exact ⟨e, ⟨h1, h2⟩, h3⟩

/-- A region that draws its order. -/
theorem draw_wp {callF : CallF} {round : Nat → List AV → Me → Option (AV × Me)} (hC : CallS P w0 B callF) (hD : RoundS P w0 B round) (hMC : MonC callF) (hMR : MonR round) (hfol : P.follows .mixedOrders = true) {ops : Array Oper} {K : Nat → Bool} {nt : Nat} {rr : Option Nat} {id : Nat}
    {r : List AOper} (hc : cRegion K P nt ops true = some (.draw r)) {fr : T AV} {act : Act} {fr' : T AV} {m' : Me} (hv : drawV callF round r [] fr m m [] [] = some (fr', m'))
    (hG : GlobR P φ) (hR : Rel P w0 B φ m w) (hS : SR K nt φ [] fr act.tmps) (hroom : Room φ m.nx m'.nx) {Q : Exit → Act → World → Prop}
    (hQ : ∀ act' w' φ', act'.defers = act.defers → (∃ e', SR K nt φ' e' fr' act'.tmps) → Gr φ φ' m.nx m'.nx → Rel P w0 B φ' m' w' → Fr φ m w φ' m' w' → Q .normal act' w') :
    (Code.region id ops true).wpIn (Fw rr) 0 P Q act w := by
  obtain ⟨as, l, D⟩ := DD.of hc
  obtain ⟨p1, p2, p3, p4, p5, p6⟩ := D.parts
  have hP := D.pd
  obtain ⟨st, V, wt, hT, hst0, hfr, hm, _, _⟩ := draw_trace _ _ _ _ _ _ _ _ _ hv
  subst hfr hm
  have hm0 : (st 0).m = m := by rw [hst0]
  have h0 : ∀ t, VR φ (slotV K (st 0) t) (act.tmps.getD t Go.undef) := by
    intro t
    unfold slotV
    rw [hst0]
    split
    · cases hf : fr.get t with
      | none => exact .unk _
      | some v => exact hS.fs.fr t v hf
    · exact .unk _
  have hk1 : FrK K (st 0).fr := by rw [hst0]; exact hS.fk
  have hk2 : ∀ t, K t = true → (st 0).e.get t = .unk := by rw [hst0]; intro t _; rfl
  refine wpIn_region_any hfol ?_
  have key : ∀ (fuel : Nat) (listed : Array Bool) (act1 : Act) (w1 : World) (n : Nat) (φ1 : Emb) (μ : Me), listed.size = ops.size → unl ops.size listed ≤ fuel → (∀ j o, listed.getD j false = true → ops.toList[j]? = some o → ∀ i ∈ bindsOn o, listed.getD i false = true) →
      act1.defers = act.defers → Inv P w0 B r (DD.Anc ops l) st V wt φ w.drew act.tmps (SL l listed) n φ1 μ w1 act1.tmps → wpAnyIn (Fw rr) 0 P .any ops Q fuel listed act1 w1 := by
    -- all made
    have fin : ∀ (listed : Array Bool) (act1 : Act) (w1 : World) (n : Nat) (φ1 : Emb) (μ : Me), (∀ j, j < ops.size → listed.getD j false = true) → act1.defers = act.defers →
        Inv P w0 B r (DD.Anc ops l) st V wt φ w.drew act.tmps (SL l listed) n φ1 μ w1 act1.tmps → Q .normal act1 w1 := by
      intro listed act1 w1 n φ1 μ hall hdef hI
      obtain ⟨g1, g2, g3, g4⟩ := hI.done hP hT h0 hS.sz hk1 hk2 (fun p hp => by
        rw [D.rlen] at hp
        exact ⟨l[p], List.getElem?_eq_getElem hp, hall _ (p2 _ (List.getElem_mem hp))⟩)
      rw [hm0] at g2 g4
      exact hQ act1 w1 φ1 hdef ⟨_, g1⟩ g2 g3 ((Fr.drew φ m w).trans g4)
    intro fuel
    induction fuel with
    | zero =>
      intro listed act1 w1 n φ1 μ hsz hun hbc hdef hI
      have hall : ∀ j, j < ops.size → listed.getD j false = true := by
        intro j hj
        cases hl : listed.getD j false with
        | true => rfl
        | false => have := unl_set hj hsz hl; omega
      refine ⟨?_, fin listed act1 w1 n φ1 μ hall hdef hI⟩
      cases hr : Region.ready .any ops listed with
      | nil => rfl
      | cons x xs =>
        have hx : x ∈ Region.ready .any ops listed := by rw [hr]; simp
        obtain ⟨g1, o, g2, _⟩ := mem_ready.1 hx
        have hlt := (Array.getElem?_eq_some_iff.1 g2).1
        have := hall x hlt
        rw [Array.getD_eq_getD_getElem?] at g1 this
        rw [Array.getElem?_eq_getElem (by omega)] at g1 this
        simp at g1 this
        rw [g1] at this; cases this
    | succ fuel ih =>
      intro listed act1 w1 n φ1 μ hsz hun hbc hdef hI
      refine ⟨fun hr => fin listed act1 w1 n φ1 μ ?_ hdef hI, fun j hj => ?_⟩
      · -- nothing is ready: all has been made
        have hpos : ∀ (q j : Nat), l[q]? = some j → listed.getD j false = true := by
          intro q
          induction q using Nat.strongRecOn with
          | _ q ihq =>
            intro j hj
            cases hl : listed.getD j false with
            | true => rfl
            | false =>
              exfalso
              obtain ⟨o, ho, hb⟩ := topo_get p4 q j hj
              have hlt := p2 j (List.mem_of_getElem? hj)
              have hmem : j ∈ Region.ready .any ops listed := mem_ready.2 ⟨by
                  rw [Array.getD_eq_getD_getElem?] at hl ⊢
                  rw [Array.getElem?_eq_getElem (by omega)] at hl ⊢
                  simpa using hl, o, by simpa using ho, fun e he hbe => by
                  rcases hb e.on (bindsOn_mem.2 ⟨e, he, hbe, rfl⟩) with g | ⟨p, g1, g2⟩
                  · cases g
                  · exact ihq p g1 _ g2⟩
              rw [hr] at hmem
              cases hmem
        intro j hj
        obtain ⟨q, hq⟩ := List.getElem?_of_mem (p3 j hj)
        exact hpos q j hq
      · -- one that is ready
        obtain ⟨g1, o, g2, g3⟩ := mem_ready.1 hj
        have hlt := (Array.getElem?_eq_some_iff.1 g2).1
        have hun1 : listed.getD j false = false := by
          rw [Array.getD_eq_getD_getElem?] at g1 ⊢
          rw [Array.getElem?_eq_getElem (by omega)] at g1 ⊢
          simpa using g1
        have ho : ops.toList[j]? = some o := by simpa using g2
        have hbj : ∀ i ∈ bindsOn o, listed.getD i false = true := fun i hi => by
          obtain ⟨e, he, hbe, rfl⟩ := bindsOn_mem.1 hi
          exact g3 e he hbe
        obtain ⟨q, hq⟩ := List.getElem?_of_mem (p3 j hlt)
        obtain ⟨o', a0, k1, k2, k3, k4⟩ := D.at hq
        rw [ho] at k1; cases k1
        obtain ⟨c1, c2, c3, c4⟩ := cOper_spec k3
        have hnS : ¬ SL l listed q := by
          rintro ⟨j', h1, h2⟩
          rw [hq] at h1; cases h1
          rw [hun1] at h2; cases h2
        have hanc : ∀ p, DD.Anc ops l p q → SL l listed p := by
          rintro p ⟨i, j', h1, h2, h3⟩
          rw [hq] at h2; cases h2
          exact ⟨i, h1, anc_closed' (S := fun j => listed.getD j false = true) hbc h3 (fun o2 ho2 i hi => by rw [ho] at ho2; cases ho2; exact hbj i hi)⟩
        have hseq : SL l (listed.setIfInBounds j true) = fun p => SL l listed p ∨ p = q := by
          funext p
          apply propext
          constructor
          · rintro ⟨i, h1, h2⟩
            rw [getD_setB _ _ _ (by omega)] at h2
            by_cases hij : i = j
            · right
              subst hij
              have hpl := (List.getElem?_eq_some_iff.1 h1).1
              exact (List.getElem?_inj hpl p1).1 (h1.trans hq.symm)
            · rw [if_neg hij] at h2; exact .inl ⟨i, h1, h2⟩
          · rintro (⟨i, h1, h2⟩ | rfl)
            · refine ⟨i, h1, ?_⟩
              rw [getD_setB _ _ _ (by omega)]
              split
              · rfl
              · exact h2
            · refine ⟨j, hq, ?_⟩
              rw [getD_setB _ _ _ (by omega), if_pos rfl]
        have := hI.step (rr := rr) (Q := Q) (ops := ops) (next := wpAnyIn (Fw rr) 0 P .any ops Q fuel (listed.setIfInBounds j true)) hC hD hMC hMR hG hP hT h0 hS.sz k4 hnS hanc (by rw [withEarly_same.1]; exact c1) (by rw [withEarly_same.2.2]; exact c2) (by rw [withEarly_same.2.1]; exact c3)
          (fun act' w' hd' ⟨n', φ', μ', hI'⟩ => by
            rw [← hseq] at hI'
            refine ih _ _ _ _ _ _ (by simpa using hsz) (by have := unl_set hlt hsz hun1; omega) (fun i o2 hi ho2 k hk => ?_) (hd'.trans hdef) hI'
            rw [getD_setB _ _ _ (by omega)] at hi ⊢
            split
            · rfl
            · by_cases hij : i = j
              · subst hij; rw [ho] at ho2; cases ho2; exact hbj k hk
              · rw [if_neg hij] at hi; exact hbc i o2 hi ho2 k hk)
        unfold wpOpIn
        rw [g2]
        exact this
  refine key ops.size _ act w.drew 0 φ { m with nx := (st r.length).m.nx } (by simp) ?_ (fun j o hj => ?_) rfl ?_
  · unfold unl
    exact Nat.le_trans (List.length_filter_le _ _) (by simp)
  · exfalso
    rw [Array.getD_eq_getD_getElem?, Array.getElem?_replicate] at hj
    split at hj <;> simp at hj
  · have hnone : ∀ p, ¬ SL l (Array.replicate ops.size false) p := by
      rintro p ⟨j, _, hj⟩
      rw [Array.getD_eq_getD_getElem?, Array.getElem?_replicate] at hj
      split at hj <;> simp at hj
    have hmono := st_mono hT hMC hMR (Nat.zero_le r.length) (Nat.le_refl _)
    refine ⟨fun p hp => absurd hp (hnone p), fun p q _ hq => absurd hq (hnone q), fun t => .inr ⟨fun p hp => absurd hp (hnone p), rfl⟩, rfl, Nat.zero_le _, fun p a _ _ => ⟨fun hp => absurd hp (hnone p), fun h => by omega⟩, .inl rfl, by rw [hst0], ?_, ?_, rfl, ?_,
      fun p a _ hp => absurd hp (hnone p), ?_, ?_, ⟨Le.refl _, fun x h1 h2 => absurd h1 h2, hmono⟩, ?_⟩
    · rw [hm0]; exact hR.fresh
    · exact ⟨hR.live, hR.own, hR.apart, hR.below.drew, hR.hB, fun b hb => hR.fresh b (by rw [hm0] at hmono; exact Nat.le_trans hmono hb)⟩
    · rw [hm0]; exact fun x o hx => hx
    · rw [hm0]; intro b o hb ho
      have : m.get b = some o := ho
      rw [hR.fresh b hb] at this; cases this
    · intro x h1 h2 h3
      rw [hm0] at h1
      exact absurd (hroom x h1 h2) h3
    · rw [hm0]
      exact ⟨Nat.le_refl _, fun _ _ _ => rfl, fun b o e h1 h2 h3 => .inl ⟨b, o, e, h1, h2, h3, rfl⟩⟩

end Go.Den

/- Code: what grows, loops, the relation of activations. -/
namespace Go.Den
open Go Go.RowKit

variable {P : Program} {w0 : World} {B : Nat} {φ : Emb} {m : Me} {w : World}

theorem draw_nx {callF : CallF} {round : Nat → List AV → Me → Option (AV × Me)} (hMC : MonC callF) (hMR : MonR round) {r : List AOper} {e : Env} {fr : T AV} {m mh : Me} {old : List Me} {rds : List Rd} {fr' : T AV} {m' : Me}
    (h : drawV callF round r e fr m mh old rds = some (fr', m')) : m.nx ≤ m'.nx := by
  obtain ⟨st, V, wt, hT, h0, _, h2, _, _⟩ := draw_trace _ _ _ _ _ _ _ _ _ h
  have := st_mono hT hMC hMR (Nat.zero_le r.length) (Nat.le_refl _)
  rw [h0, h2] at this
  exact this

theorem exec_nx {isB : FuncId → Bool} {callF : CallF} (hMC : MonC callF) : ∀ (n : Nat), (∀ rd fn c s e s', exec isB callF n rd fn c s = some (e, s') → s.m.nx ≤ s'.m.nx) ∧ MonR (roundV isB callF n)
  | 0 => ⟨fun rd fn c s e s' h => by simp [exec] at h, fun l args m v m' h => by simp [roundV] at h⟩
  | n + 1 => by
    obtain ⟨ih1, ih2⟩ := exec_nx hMC n
    refine ⟨fun rd fn c s e s' h => ?_, fun l args m v m' h => ?_⟩
    · cases c <;> simp only [exec] at h
      case skip => cases h; exact Nat.le_refl _
      case ops l =>
        split at h
        · rename_i h1; cases h; exact ops_nx hMC ih2 _ _ _ _ _ _ h1
        · cases h
      case draw l =>
        split at h
        · rename_i h1; cases h; exact draw_nx hMC ih2 h1
        · cases h
      case seq a b =>
        split at h
        · rename_i h1; exact Nat.le_trans (ih1 _ _ _ _ _ _ h1) (ih1 _ _ _ _ _ _ h)
        · exact ih1 _ _ _ _ _ _ h
      case cond x a b =>
        split at h
        · exact ih1 _ _ _ _ _ _ h
        · exact ih1 _ _ _ _ _ _ h
        · cases h
      case block id b =>
        split at h
        · rename_i h1
          split at h <;> (cases h; exact ih1 _ _ _ _ _ _ h1)
        · exact ih1 _ _ _ _ _ _ h
      case loop b =>
        split at h
        · rename_i h1; exact Nat.le_trans (ih1 _ _ _ _ _ _ h1) (ih1 _ _ _ _ _ _ h)
        · exact ih1 _ _ _ _ _ _ h
      case rangeFunc f ps a b =>
        split at h
        · cases h
        · rename_i dn ds m1 hm1
          have hle1 : s.m.nx ≤ m1.nx := by
            unfold enterV at hm1
            split at hm1
            · split at hm1
              · cases hm1; exact Nat.le_refl _
              · cases hm1
            · cases hm1; simp
          split at h
          · split at h
            · cases h
            · split at h
              · rename_i v m2 hcall
                have hle2 := hMC _ _ _ _ _ hcall
                rw [Me.nx_new] at hle2
                split at h
                · rename_i p hp
                  split at h
                  · cases h
                  · split at h
                    · cases h; simp only [Me.nx_put]; omega
                    · have := ih1 _ _ _ _ _ _ h
                      simp only [Me.nx_put] at this
                      omega
                · cases h
              · cases h
          · cases h
      case exit id => cases h; exact Nat.le_refl _
      case ret => cases h; exact Nat.le_refl _
      case bad => cases h
    · simp only [roundV] at h
      split at h
      · cases h
      · split at h
        · cases h
        · split at h
          · rename_i s hs
            have h1 : m.nx ≤ s.m.nx := ih1 _ _ _ _ _ _ hs
            split at h
            · cases h
            · split at h
              · cases h
              · split at h
                · rename_i e s2 hs2
                  have h2 := ih1 _ _ _ _ _ _ hs2
                  have h2 : s.m.nx ≤ s2.m.nx := h2
                  split at h
                  · cases h
                  · split at h
                    · cases h
                    · simp only [Option.some.injEq, Prod.mk.injEq] at h
                      obtain ⟨_, rfl⟩ := h
                      simp only [Me.nx_put]
                      omega
                · cases h
          · cases h

/-! ## Loops, round by round -/
/-- From within a loop. -/
def LoopW (F : Fence) (n : Nat) (P : Program) (c : Code) (Q : Exit → Act → World → Prop) (a : Act) (w : World) : Prop :=
  ∀ (b : Frame) (k : List Item) (cs : List Frame), b.roundOf = F.round → F.fn b.fn → F.room (cs.length + 1 + n) →
    ∃ e a' w', Q e a' w' ∧ ArrivesIn (Machine.fenced P F) P (lone (b.atR a (.code c :: .inLoop c :: k)) cs w) b k cs e a' w'

theorem LoopW.wpIn {F : Fence} {n : Nat} {c : Code} {Q : Exit → Act → World → Prop} {a : Act} {w : World} (h : LoopW F n P c Q a w) : (Code.loop c).wpIn F n P Q a w :=
  fun b k cs hro hb hr => let ⟨e, a', w', hq, harr⟩ := h b k cs hro hb hr; ⟨e, a', w', hq, .of_steps (.one (fenced_calm hb hr rfl) stepR_loop) harr⟩

theorem LoopW.of {F : Fence} {n : Nat} {c : Code} {Q : Exit → Act → World → Prop} {a : Act} {w : World} (h : c.wpIn F n P (Exit.then (LoopW F n P c Q) Q) a w) : LoopW F n P c Q a w := by
  intro b k cs hro hb hr
  obtain ⟨e, a₁, w₁, hq, harr⟩ := h b (.inLoop c :: k) cs hro hb hr
  cases e with
  | normal =>
    obtain ⟨e₂, a₂, w₂, hq₂, harr₂⟩ := hq b k cs hro hb hr
    exact ⟨e₂, a₂, w₂, hq₂, .of_steps (StepsIn.trans harr (.one (fenced_calm hb hr rfl) stepR_inLoop)) harr₂⟩
  | exit id => exact ⟨_, a₁, w₁, hq, .pass (x := .inLoop c) rfl (fun _ _ => .inl (by simp)) harr⟩
  | goto l => exact ⟨_, a₁, w₁, hq, .pass (x := .inLoop c) rfl (fun _ _ => .inl (by simp)) harr⟩
  | ret => exact ⟨_, a₁, w₁, hq, .pass (x := .inLoop c) rfl (fun _ _ => .inl (by simp)) harr⟩
  | panic ch => exact ⟨_, a₁, w₁, hq, .pass (x := .inLoop c) rfl (fun _ _ => .inl (by simp)) harr⟩
  | outgrown => exact ⟨_, a₁, w₁, hq, .pass (x := .inLoop c) rfl (fun _ _ => .inl (by simp)) harr⟩

/-! ## Activations -/
inductive DefR (φ : Emb) : List Nat → List Deferred → Prop
  | nil : DefR φ [] []
  | cons {d : Nat} {e : E} {ds : List Nat} {l : List Deferred} (h : φ d = some e) (t : DefR φ ds l) : DefR φ (d :: ds) ({ target := .collected e.C, args := #[] } :: l)

theorem DefR.mono {φ φ' : Emb} (h : Le φ φ') : ∀ {ds : List Nat} {l : List Deferred}, DefR φ ds l → DefR φ' ds l
  | _, _, .nil => .nil
  | _, _, .cons hd t => .cons (h _ _ hd) (DefR.mono h t)

structure AR (K : Nat → Bool) (nt : Nat) (φ : Emb) (s : St) (a : Act) : Prop where
  fr : FrR φ s.fr a.tmps
  fk : FrK K s.fr
  sz : nt ≤ a.tmps.size
  ds : DefR φ s.ds a.defers

theorem AR.mono {φ φ' : Emb} (h : Le φ φ') {K : Nat → Bool} {nt : Nat} {s : St} {a : Act} (r : AR K nt φ s a) : AR K nt φ' s a := ⟨r.fr.mono h, r.fk, r.sz, r.ds.mono h⟩

theorem AR.sr {K : Nat → Bool} {nt : Nat} {s : St} {a : Act} (r : AR K nt φ s a) : SR K nt φ [] s.fr a.tmps := ⟨FS.start r.fr, r.fk, fun _ _ => rfl, r.sz⟩

def exO : Ex → Exit
  | .nrm => .normal
  | .exit i => .exit i
  | .ret => .ret

inductive RdR (φ : Emb) : Option Nat → Option Nat → Prop
  | none : RdR φ none none
  | some {l : Nat} {e : E} (h : φ l = some e) : RdR φ (some l) (some e.C)

theorem RdR.mono {φ φ' : Emb} (h : Le φ φ') {rd rr : Option Nat} (r : RdR φ rd rr) : RdR φ' rd rr := by
  cases r with
  | none => exact .none
  | some hl => exact .some (h _ _ hl)

/-- What is asked of 'exec'. -/
def ExecS (P : Program) (w0 : World) (B : Nat) (isB : FuncId → Bool) (callF : CallF) (n : Nat) : Prop :=
  ∀ (K : Nat → Bool) (nt : Nat) rd fn c s e s', exec isB callF n rd fn (cCode K P nt c) s = some (e, s') → ∀ φ w a rr, GlobR P φ → Rel P w0 B φ s.m w → AR K nt φ s a → Room φ s.m.nx s'.m.nx → RdR φ rd rr →
    ∀ Q : Exit → Act → World → Prop, (∀ a' w' φ', AR K nt φ' s' a' → Gr φ φ' s.m.nx s'.m.nx → Rel P w0 B φ' s'.m w' → Fr φ s.m w φ' s'.m w' → Q (exO e) a' w') → c.wpIn (Fw rr) 0 P Q a w

/-- The same from within a loop. -/
def ExecL (P : Program) (w0 : World) (B : Nat) (isB : FuncId → Bool) (callF : CallF) (n : Nat) : Prop :=
  ∀ (K : Nat → Bool) (nt : Nat) rd fn c s e s', exec isB callF n rd fn (.loop (cCode K P nt c)) s = some (e, s') → ∀ φ w a rr, GlobR P φ → Rel P w0 B φ s.m w → AR K nt φ s a → Room φ s.m.nx s'.m.nx → RdR φ rd rr →
    ∀ Q : Exit → Act → World → Prop, (∀ a' w' φ', AR K nt φ' s' a' → Gr φ φ' s.m.nx s'.m.nx → Rel P w0 B φ' s'.m w' → Fr φ s.m w φ' s'.m w' → Q (exO e) a' w') → LoopW (Fw rr) 0 P c Q a w

end Go.Den

/- Code: the soundness of 'exec', rounds apart. -/
namespace Go.Den
open Go Go.RowKit

variable {P : Program} {w0 : World} {B : Nat} {φ : Emb} {m : Me} {w : World}

theorem AR.back {K : Nat → Bool} {nt : Nat} {s : St} {a a' : Act} {φ' : Emb} {fr' : T AV} {m' : Me} (hA : AR K nt φ s a) (hle : Le φ φ') (hd : a'.defers = a.defers) (hS : ∃ e', SR K nt φ' e' fr' a'.tmps) : AR K nt φ' { fr := fr', ds := s.ds, m := m' } a' := by
  obtain ⟨e', hS⟩ := hS
  exact ⟨hS.fs.fr, hS.fk, hS.sz, by rw [hd]; exact hA.ds.mono hle⟩

theorem execL_step {isB : FuncId → Bool} {callF : CallF} (hMC : MonC callF) {n : Nat} (ihE : ExecS P w0 B isB callF n) (ihL : ExecL P w0 B isB callF n) : ExecL P w0 B isB callF (n + 1) := by
  intro K nt rd fn c s e s' h φ w a rr hG hR hA hroom hrd Q hQ
  simp only [exec] at h
  refine LoopW.of ?_
  split at h
  · rename_i s1 h1
    have hle := (exec_nx hMC n).1 _ _ _ _ _ _ h
    refine ihE K nt rd fn c s .nrm s1 h1 φ w a rr hG hR hA (hroom.left hle) hrd _ fun a1 w1 φ1 g1 g2 g3 g4 => ?_
    show LoopW (Fw rr) 0 P c Q a1 w1
    refine ihL K nt rd fn c s1 e s' h φ1 w1 a1 rr (hG.mono g2.le) g3 g1 (hroom.right g2) (hrd.mono g2.le) Q fun a2 w2 φ2 q1 q2 q3 q4 => ?_
    exact hQ a2 w2 φ2 q1 (g2.trans q2) q3 (g4.trans q4)
  · rename_i hno
    refine ihE K nt rd fn c s e s' h φ w a rr hG hR hA hroom hrd _ fun a1 w1 φ1 g1 g2 g3 g4 => ?_
    have := hQ a1 w1 φ1 g1 g2 g3 g4
    cases e with
    | nrm => exact absurd h (hno s')
    | exit i => exact this
    | ret => exact this

/-- A call of a function that has a body is entered. -/
theorem inv_enter {g : FuncId} {fn : Func} (hf : P.funcs[g]? = some fn) (hb : fn.body.isSome = true) {args : Array Value} {R : Value → World → Prop} (h : InvR P (callFunc g args) w R) :
    (callFunc g args).run P w = .ok (.enter g args) w ∧ CallsIn Fence.wide 0 P g args w (onlyV R) := by
  have hrun : (callFunc g args).run P w = if fn.name == "runtime.NumGoroutine" then .ok .numGoroutine w else .ok (.enter g args) w := by
    have hn : fn.body.isNone = false := by cases hbb : fn.body <;> simp_all
    unfold callFunc
    simp only [Sem.run_bind]
    simp only [program, Sem.run, Sem.bind]
    simp only [Result.andThen, hf, hn]
    split <;> simp_all
  rw [hrun]
  by_cases hname : (fn.name == "runtime.NumGoroutine") = true
  · exfalso
    rcases h with ⟨_, _, h, _⟩ | ⟨_, _, _, h, _⟩ | ⟨_, _, _, _, _, _, h, _⟩ <;> (rw [hrun, if_pos hname] at h; cases h)
  · rw [if_neg hname]
    rcases h with ⟨_, _, h, _⟩ | ⟨f, as, w', h, h2⟩ | ⟨_, _, _, _, _, _, h, _⟩
    · rw [hrun, if_neg hname] at h; cases h
    · rw [hrun, if_neg hname] at h; cases h; exact ⟨rfl, h2⟩
    · rw [hrun, if_neg hname] at h; cases h

end Go.Den

/- Code: a range over a function; a round of one. -/
namespace Go.Den
open Go Go.RowKit

variable {P : Program} {w0 : World} {B : Nat} {φ : Emb} {m : Me} {w : World}

theorem loop_get {l : Nat} {p : Lp} (h : m.loop l = some p) : m.get l = some (.loop p) := by
  unfold Me.loop at h
  split at h
  · rename_i hg; cases h; exact hg
  · cases h

/-- The record that lies where a loop of ours lies. -/
theorem loop_at (hR : Rel P w0 B φ m w) {l : Nat} {p : Lp} (h : m.loop l = some p) {e : E} (he : φ l = some e) :
    ∃ (r : Loop) (nt : Nat) (K : Nat → Bool), w.heap[e.C]? = some (.loop r) ∧ r.state = p.state ∧ JR p.pend r.pending ∧ FrR φ p.fr r.tmps ∧ nt ≤ r.tmps.size ∧ r.params.toList = p.params ∧ LoopC P p r nt K := by
  obtain ⟨o', h1, h2⟩ := hR.obj (loop_get h) trivial he
  cases h2 with
  | loop hs hp hr hn hps hK => exact ⟨_, _, _, h1, hs, hp, hr, hn, hps, hK⟩

/-- A loop's record turns. -/
theorem loop_put (hR : Rel P w0 B φ m w) {l : Nat} {p p' : Lp} (h : m.loop l = some p) {e : E} (he : φ l = some e) {r r' : Loop} (hr : w.heap[e.C]? = some (.loop r)) (hor : OR P φ e (.loop p') (.loop r')) :
    Rel P w0 B φ (m.put l (.loop p')) (w.putObj e.C (.loop r')) ∧ Fr φ m w φ (m.put l (.loop p')) (w.putObj e.C (.loop r')) :=
  (put_obj hR (loop_get h) trivial he hr (fun _ _ _ h => by cases h) hor).2

/-- A loop is entered. -/
theorem enter_sound (hR : Rel P w0 B φ m w) {rd rr : Option Nat} (hrd : RdR φ rd rr) {s : St} (hsm : s.m = m) {a : Act} (hds : DefR φ s.ds a.defers) {dn : Nat} {ds : List Nat} {m1 : Me} (h : enterV rd s = some (dn, ds, m1)) (hn : m.nx < m1.nx → φ m.nx = none)
    (fn : FuncId) (ps : Array Tmp) (ca cb : Code) :
    ∃ φ1 w1 mark dC, Rel P w0 B φ1 m1 w1 ∧ Gr φ φ1 m.nx m1.nx ∧ Fr φ m w φ1 m1 w1 ∧ DefR φ1 ds (mark ++ a.defers) ∧
      (Instr.enterLoop fn a.tmps ps ca cb rr).run P w = .ok (w1.heap.size, mark) (w1.alloc (.loop { state := .ready, pending := none, fn := fn, tmps := a.tmps, params := ps, assign := ca, body := cb, defers := dC })) := by
  subst hsm
  unfold enterV at h
  cases hrd with
  | none =>
    simp only [Option.some.injEq, Prod.mk.injEq] at h
    obtain ⟨_, rfl, rfl⟩ := h
    have hn1 := hn (Nat.lt_succ_self _)
    obtain ⟨h1, h2, h3⟩ := hR.alloc hn1 (.dfr true) (.deferred (some [])) 0 0 false .dfr
    refine ⟨_, _, [{ target := .collected w.heap.size, args := #[] }], w.heap.size, h1, h2, h3, ?_, ?_⟩
    · have := DefR.cons (ds := s.ds) (l := a.defers) (upd_self φ s.m.nx ⟨w.heap.size, 0, 0, 0, false⟩) (hds.mono h2.le)
      exact this
    · rw [run_enterLoop_outer]
      simp
  | some hl =>
    rename_i l e
    simp only at h
    split at h
    · rename_i p hp
      cases h
      obtain ⟨r, nt, K, g1, _⟩ := loop_at hR hp hl
      refine ⟨φ, w, [], r.defers, hR, Gr.refl _ _, Fr.refl _ _ _, hds, ?_⟩
      unfold Instr.enterLoop
      simp only [Sem.run_bind, run_getLoop g1, Result.andThen, Sem.run_pure, run_newObj_alloc]
    · cases h

theorem range_wp {isB : FuncId → Bool} {callF : CallF} (hC : CallS P w0 B callF) (hMC : MonC callF) (hB : ∀ g, isB g = true → ∃ fn, P.funcs[g]? = some fn ∧ fn.body.isSome = true) {n : Nat} (ihE : ExecS P w0 B isB callF n)
    {K : Nat → Bool} {nt : Nat} {rd : Option Nat} {fn : FuncId} {f : Operand} {x : Opd} (hx : opd P (fun _ => true) f = some x) {ps : Array Tmp} (hps : ps.all (fun t => decide (t < nt) && K t) = true) {ca cb : Code} {s : St} {e : Ex} {s' : St}
    (h : exec isB callF (n + 1) rd fn (.rangeFunc x ps.toList (cCode K P nt ca) (cCode K P nt cb)) s = some (e, s')) {a : Act} {rr : Option Nat} (hG : GlobR P φ) (hR : Rel P w0 B φ s.m w) (hA : AR K nt φ s a) (hroom : Room φ s.m.nx s'.m.nx) (hrd : RdR φ rd rr)
    {Q : Exit → Act → World → Prop} (hQ : ∀ a' w' φ', AR K nt φ' s' a' → Gr φ φ' s.m.nx s'.m.nx → Rel P w0 B φ' s'.m w' → Fr φ s.m w φ' s'.m w' → Q (exO e) a' w') : (Code.rangeFunc f ps ca cb).wpIn (Fw rr) 0 P Q a w := by
  simp only [exec] at h
  split at h
  · cases h
  · rename_i dn ds m1 hent
    split at h
    · rename_i g first cap hlook
      split at h
      · cases h
      · rename_i hisB
        simp only [Bool.not_eq_true, Bool.not_eq_false'] at hisB
        split at h
        · rename_i v m2 hcall
          have hle2 := hMC _ _ _ _ _ hcall
          rw [Me.nx_new] at hle2
          split at h
          · rename_i p hp
            split at h
            · cases h
            · rename_i hbusy
              -- how much is made
              have hend : m2.nx ≤ s'.m.nx := by
                split at h
                · cases h; exact Nat.le_refl _
                · have := (exec_nx hMC n).1 _ _ _ _ _ _ h
                  exact this
              have hm1 : s.m.nx ≤ m1.nx := by
                unfold enterV at hent
                split at hent
                · split at hent
                  · cases hent; exact Nat.le_refl _
                  · cases hent
                · cases hent; simp
              refine wpIn_rangeFunc fun fn' _ => ?_
              obtain ⟨φ1, w1, mark, dC, k1, k2, k3, k4, k5⟩ := enter_sound hR hrd rfl hA.ds hent (fun hlt => hroom _ (Nat.le_refl _) (by omega)) fn' ps ca cb
              have hroom1 : Room φ1 m1.nx s'.m.nx := hroom.right k2
              have hn1 : φ1 m1.nx = none := hroom1 _ (Nat.le_refl _) (by omega)
              have hle12 := upd_le ⟨w1.heap.size, 0, 0, 0, false⟩ hn1
              have hps' : ∀ t, t ∈ ps.toList → t < nt ∧ K t = true := by
                intro t ht
                have := Array.all_eq_true_iff_forall_mem.1 hps t (by simpa using ht)
                simpa using this
              obtain ⟨q1, q2, q3⟩ := k1.alloc hn1 (.loop { state := .ready, pend := none, fn := fn, fr := s.fr, params := ps.toList, assign := cCode K P nt ca, body := cCode K P nt cb, defers := dn })
                (.loop { state := .ready, pending := none, fn := fn', tmps := a.tmps, params := ps, assign := ca, body := cb, defers := dC }) 0 0 false
                (.loop rfl .none ((hA.fr.mono k2.le).mono hle12) hA.sz rfl ⟨rfl, rfl, hA.fk, hps'⟩)
              generalize hφ2 : upd φ1 m1.nx ⟨w1.heap.size, 0, 0, 0, false⟩ = φ2 at q1 q2 q3
              have hφL : φ2 m1.nx = some ⟨w1.heap.size, 0, 0, 0, false⟩ := by rw [← hφ2]; exact upd_self _ _ _
              -- the call
              have hfv := opd_VR (P := P) (K := fun _ => true) hG (FS.start hA.fr) hx
              rw [hlook] at hfv
              generalize hfx : a.eval f = fx at hfv
              cases hfv with
              | func hfn ha1 hb1 =>
                rename_i f1 a1 b1
                cases hfn
                have hVy : VR φ2 (.func (.yield m1.nx) [] []) (.func (.yield w1.heap.size) #[] #[]) := .func (.yield hφL) .nil .nil
                have hle02 : Le φ φ2 := k2.le.trans (by rw [← hφ2]; exact hle12)
                have hargs : VRs φ2 (first ++ [.func (.yield m1.nx) [] []] ++ cap) (a1.toList ++ [.func (.yield w1.heap.size) #[] #[]] ++ b1.toList) :=
                  ((ha1.mono hle02).append (.cons hVy .nil)).append (hb1.mono hle02)
                have hinv := hC _ _ _ _ _ hcall φ2 _ _ (hG.mono hle02) q1 hargs ((hroom1.right q2).left hend)
                obtain ⟨fn2, hf2, hb2⟩ := hB g hisB
                obtain ⟨r1, r2⟩ := inv_enter hf2 hb2 hinv
                have harr : (a1.toList ++ [Value.func (.yield w1.heap.size) #[] #[]] ++ b1.toList).toArray = a1 ++ #[Value.func (.yield w1.heap.size) #[] #[]] ++ b1 := by
                  apply Array.ext'; simp
                rw [harr] at r1 r2
                refine ⟨w1.heap.size, mark, _, { target := .fn (.func g) b1, args := a1 ++ #[.func (.yield w1.heap.size) #[] #[]] }, _, g, _, _, k5, ?_, fun _ _ => trivial, r1, fun h => by simp [Fw, Fence.wide] at h, ?_⟩
                · have hmm : (#[Operand.const (Value.func (.yield w1.heap.size) #[] #[])] : Array Operand).map a.eval = #[Value.func (.yield w1.heap.size) #[] #[]] := by
                    simp only [List.map_toArray, List.map_cons, List.map_nil, Act.eval]
                  simp only [resolve, rangeCall, hfx, hmm]
                  rfl
                · refine callsIn_fw (r2.mono fun en w3 hen => ?_)
                  cases en with
                  | panicked _ => exact hen.elim
                  | outgrown => exact hen.elim
                  | returned v' =>
                    obtain ⟨φ3, t1, t2, t3, t4⟩ := hen
                    have hL3 := t2.le _ _ hφL
                    obtain ⟨rec, nt', K', u1, u2, u3, u4, u5, u6, u7⟩ := loop_at t3 hp hL3
                    have hput := loop_put (p' := { p with state := .exhausted }) (r' := { rec with state := .exhausted }) t3 hp hL3 u1 (.loop rfl u3 u4 u5 u6 ⟨u7.assign, u7.body, u7.fk, u7.ps⟩)
                    refine ⟨rec.pending, w3.putObj w1.heap.size (.loop { rec with state := .exhausted }), run_endLoop u1 (by rw [u2]; exact hbusy), ?_⟩
                    have hle03 : Le φ φ3 := hle02.trans t2.le
                    have hAR : AR K nt φ3 { fr := s.fr, ds := ds, m := m2.put m1.nx (.loop { p with state := .exhausted }) } { a with defers := mark ++ a.defers } :=
                      ⟨hA.fr.mono hle03, hA.fk, hA.sz, (k4.mono (by rw [← hφ2] at t2; exact hle12.trans t2.le))⟩
                    have hGr : Gr φ φ3 s.m.nx (m2.put m1.nx (.loop { p with state := .exhausted })).nx := k2.trans (q2.trans t2)
                    have hFr : Fr φ s.m w φ3 (m2.put m1.nx (.loop { p with state := .exhausted })) (w3.putObj w1.heap.size (.loop { rec with state := .exhausted })) := k3.trans (q3.trans (t4.trans hput.2))
                    have hroom3 := (hroom.right hGr)
                    obtain ⟨st0, pd, fn0, fr0, ps0, as0, bd0, df0⟩ := p
                    obtain ⟨rs0, rp, rfn0, rt0, rps0, ra0, rb0, rd0⟩ := rec
                    dsimp only at h u3 hput hAR hGr hFr hroom3 ⊢
                    cases u3 with
                    | none =>
                      simp only [Option.some.injEq, Prod.mk.injEq] at h
                      obtain ⟨rfl, rfl⟩ := h
                      exact hQ _ _ φ3 hAR hGr hput.1 hFr
                    | exit i =>
                      exact ihE K nt rd fn (.exit i) _ e s' h φ3 _ _ rr (hG.mono hle03) hput.1 hAR hroom3 (hrd.mono hle03) Q fun a2 w2 φ4 z1 z2 z3 z4 => hQ a2 w2 φ4 z1 (hGr.trans z2) z3 (hFr.trans z4)
                    | ret =>
                      exact ihE K nt rd fn .ret _ e s' h φ3 _ _ rr (hG.mono hle03) hput.1 hAR hroom3 (hrd.mono hle03) Q fun a2 w2 φ4 z1 z2 z3 z4 => hQ a2 w2 φ4 z1 (hGr.trans z2) z3 (hFr.trans z4)
          · cases h
        · cases h
    · cases h

end Go.Den

/- Code: the soundness of 'exec' and of rounds. -/
namespace Go.Den
open Go Go.RowKit

variable {P : Program} {w0 : World} {B : Nat} {φ : Emb} {m : Me} {w : World}

theorem exec_bad {isB : FuncId → Bool} {callF : CallF} {n : Nat} {rd : Option Nat} {fn : FuncId} {s : St} {x : Ex × St} (h : exec isB callF n rd fn .bad s = some x) : False := by
  cases n <;> simp [exec] at h

theorem exec_step {isB : FuncId → Bool} {callF : CallF} (hfol : P.follows .mixedOrders = true) (hC : CallS P w0 B callF) (hMC : MonC callF) (hB : ∀ g, isB g = true → ∃ fn, P.funcs[g]? = some fn ∧ fn.body.isSome = true) {n : Nat}
    (ihE : ExecS P w0 B isB callF n) (ihL : ExecL P w0 B isB callF n) (ihR : RoundS P w0 B (roundV isB callF n)) : ExecS P w0 B isB callF (n + 1) := by
  intro K nt rd fn c s e s' h φ w a rr hG hR hA hroom hrd Q hQ
  have hMR := (exec_nx (isB := isB) hMC n).2
  have hMS := (exec_nx (isB := isB) hMC n).1
  cases c <;> simp only [cCode] at h <;> first | exact (exec_bad h).elim | skip
  case skip =>
    simp only [exec, Option.some.injEq, Prod.mk.injEq] at h
    obtain ⟨rfl, rfl⟩ := h
    exact wpIn_skip (hQ a w φ hA (Gr.refl _ _) hR (Fr.refl _ _ _))
  case region id ops d =>
    cases hcr : cRegion K P nt ops d with
    | none => rw [hcr] at h; exact (exec_bad h).elim
    | some x =>
      rw [hcr] at h
      simp only [Option.getD_some] at h
      cases d with
      | false =>
        unfold cRegion at hcr
        simp only [bind_some] at hcr
        obtain ⟨as, has, hcr⟩ := hcr
        simp only [Bool.not_false, if_true, pure_some] at hcr
        subst hcr
        simp only [exec] at h
        split at h
        · rename_i fr' m' hv
          simp only [Option.some.injEq, Prod.mk.injEq] at h
          obtain ⟨rfl, rfl⟩ := h
          refine wpIn_region ?_
          have := opsV_wp (r := rr) hC ihR hMC hMR as 0 (by simpa using has) [] s.fr s.m φ w a fr' m' hv hG hR hA.sr hroom Q fun act' w' φ' g1 g2 g3 g4 g5 => hQ act' w' φ' (hA.back g3.le g1 g2) g3 g4 g5
          rw [Nat.sub_zero] at this
          rw [List.range_eq_range']
          exact this
        · cases h
      | true =>
        have hx : ∃ r, x = .draw r := by
          have hcr2 := hcr
          unfold cRegion at hcr2
          simp only [bind_some] at hcr2
          obtain ⟨as, has, hcr2⟩ := hcr2
          simp only [Bool.not_true, Bool.false_eq_true, if_false] at hcr2
          split at hcr2
          · cases hcr2
          · simp only [bind_some, pure_some] at hcr2
            obtain ⟨r, _, rfl⟩ := hcr2
            exact ⟨r, rfl⟩
        obtain ⟨r, rfl⟩ := hx
        simp only [exec] at h
        split at h
        · rename_i fr' m' hv
          simp only [Option.some.injEq, Prod.mk.injEq] at h
          obtain ⟨rfl, rfl⟩ := h
          exact draw_wp hC ihR hMC hMR hfol hcr hv hG hR hA.sr hroom fun act' w' φ' g1 g2 g3 g4 g5 => hQ act' w' φ' (hA.back g3.le g1 g2) g3 g4 g5
        · cases h
  case seq x y =>
    simp only [exec] at h
    refine wpIn_seq ?_
    split at h
    · rename_i s1 h1
      have hle := hMS _ _ _ _ _ _ h
      refine ihE K nt rd fn x s .nrm s1 h1 φ w a rr hG hR hA (hroom.left hle) hrd _ fun a1 w1 φ1 g1 g2 g3 g4 => ?_
      show y.wpIn (Fw rr) 0 P Q a1 w1
      exact ihE K nt rd fn y s1 e s' h φ1 w1 a1 rr (hG.mono g2.le) g3 g1 (hroom.right g2) (hrd.mono g2.le) Q fun a2 w2 φ2 q1 q2 q3 q4 => hQ a2 w2 φ2 q1 (g2.trans q2) q3 (g4.trans q4)
    · rename_i hno
      refine ihE K nt rd fn x s e s' h φ w a rr hG hR hA hroom hrd _ fun a1 w1 φ1 g1 g2 g3 g4 => ?_
      have := hQ a1 w1 φ1 g1 g2 g3 g4
      cases e with
      | nrm => exact absurd h (hno s')
      | exit i => exact this
      | ret => exact this
  case cond c x y =>
    split at h
    · rename_i cx hcx
      have hv := opd_VR (P := P) (K := fun _ => true) hG (FS.start hA.fr) hcx
      simp only [exec] at h
      split at h
      · rename_i heq
        rw [heq] at hv
        generalize hy : a.eval c = y' at hv
        cases hv
        exact wpIn_cond_true hy (ihE K nt rd fn x s e s' h φ w a rr hG hR hA hroom hrd Q hQ)
      · rename_i heq
        rw [heq] at hv
        generalize hy : a.eval c = y' at hv
        cases hv
        exact wpIn_cond_false hy (ihE K nt rd fn y s e s' h φ w a rr hG hR hA hroom hrd Q hQ)
      · cases h
    · exact (exec_bad h).elim
  case block id b =>
    simp only [exec] at h
    refine wpIn_block ?_
    split at h
    · rename_i i s1 h1
      refine ihE K nt rd fn b s (.exit i) s1 h1 φ w a rr hG hR hA ?_ hrd _ fun a1 w1 φ1 g1 g2 g3 g4 => ?_
      · split at h <;> (cases h; exact hroom)
      · show Exit.inBlock id Q (.exit i) a1 w1
        split at h
        · rename_i hi
          cases h
          simp only [Exit.inBlock, hi, if_true]
          exact hQ a1 w1 φ1 g1 g2 g3 g4
        · rename_i hi
          cases h
          simp only [Exit.inBlock, hi, if_false]
          exact hQ a1 w1 φ1 g1 g2 g3 g4
    · rename_i hno
      refine ihE K nt rd fn b s e s' h φ w a rr hG hR hA hroom hrd _ fun a1 w1 φ1 g1 g2 g3 g4 => ?_
      have := hQ a1 w1 φ1 g1 g2 g3 g4
      cases e with
      | nrm => exact this
      | exit i => exact absurd h (hno i s')
      | ret => exact this
  case loop b =>
    exact (execL_step hMC ihE ihL K nt rd fn b s e s' h φ w a rr hG hR hA hroom hrd Q hQ).wpIn
  case rangeFunc f ps x y =>
    split at h
    · rename_i fx hfx
      split at h
      · rename_i hps
        exact range_wp hC hMC hB ihE hfx hps h hG hR hA hroom hrd hQ
      · exact (exec_bad h).elim
    · exact (exec_bad h).elim
  case exit id =>
    simp only [exec, Option.some.injEq, Prod.mk.injEq] at h
    obtain ⟨rfl, rfl⟩ := h
    exact wpIn_exit (hQ a w φ hA (Gr.refl _ _) hR (Fr.refl _ _ _))
  case ret =>
    simp only [exec, Option.some.injEq, Prod.mk.injEq] at h
    obtain ⟨rfl, rfl⟩ := h
    exact wpIn_ret (hQ a w φ hA (Gr.refl _ _) hR (Fr.refl _ _ _))

theorem putAll_FrR : ∀ (ps : List Nat) (args : List AV) (args' : List Value) (fr : T AV) (tmps : Array Value), VRs φ args args' → FrR φ fr tmps → (∀ t, t ∈ ps → t < tmps.size) → args.length = ps.length →
    FrR φ (putAll fr ps args) ((ps.zip args').foldl (fun tmps (t, a) => tmps.setIfInBounds t a) tmps) ∧ ((ps.zip args').foldl (fun tmps (t, a) => tmps.setIfInBounds t a) tmps).size = tmps.size
  | [], _, _, fr, tmps, _, hf, _, _ => by simp only [putAll, List.zip_nil_left, List.foldl_nil]; exact ⟨hf, trivial⟩
  | t :: ps, [], _, _, _, _, _, _, h => by simp at h
  | t :: ps, v :: vs, _, fr, tmps, .cons (v' := v') (l' := vs') hv ht, hf, hlt, hl => by
    simp only [putAll, List.zip_cons_cons, List.foldl_cons]
    have htl := hlt t (by simp)
    obtain ⟨h1, h2⟩ := putAll_FrR ps vs vs' (fr.set t v) (tmps.setIfInBounds t v') ht (fun u x hu => by
      rw [T.get_set] at hu
      rw [getD_set]
      by_cases hut : u = t
      · rw [if_pos hut] at hu; cases hu; rw [if_pos ⟨hut, htl⟩]; exact hv
      · rw [if_neg hut] at hu; rw [if_neg (fun h => hut h.1)]; exact hf u x hu) (fun u hu => by simp; exact hlt u (by simp [hu])) (by simpa using hl)
    exact ⟨h1, by rw [h2]; simp⟩

theorem putAll_FrK {K : Nat → Bool} : ∀ (ps : List Nat) (args : List AV) (fr : T AV), FrK K fr → (∀ t, t ∈ ps → K t = true) → FrK K (putAll fr ps args)
  | [], _, fr, hf, _ => by simp only [putAll]; exact hf
  | t :: ps, [], fr, hf, _ => by simp only [putAll]; exact hf
  | t :: ps, v :: vs, fr, hf, hK => by
    simp only [putAll]
    refine putAll_FrK ps vs _ (fun u x hu => ?_) fun u hu => hK u (by simp [hu])
    rw [T.get_set] at hu
    by_cases hut : u = t
    · rw [hut]; exact hK t (by simp)
    · rw [if_neg hut] at hu; exact hf u x hu

theorem round_step {isB : FuncId → Bool} {callF : CallF} (hMC : MonC callF) {n : Nat} (ihE : ExecS P w0 B isB callF n) : RoundS P w0 B (roundV isB callF (n + 1)) := by
  intro l args m v m' h φ w args' e hG hR hargs hroom hl
  have hMS := (exec_nx (isB := isB) hMC n).1
  simp only [roundV] at h
  split at h
  · cases h
  · rename_i p hp
    split at h
    · cases h
    · rename_i hlen
      simp only [ne_eq, Decidable.not_not] at hlen
      split at h
      · rename_i s1 h1
        split at h
        · cases h
        · rename_i p2 hp2
          split at h
          · cases h
          · rename_i hready
            simp only [ne_eq, Decidable.not_not] at hready
            split at h
            · rename_i ex s2 h2
              split at h
              · cases h
              · rename_i hds
                split at h
                · cases h
                · rename_i p3 hp3
                  simp only [Option.some.injEq, Prod.mk.injEq] at h
                  obtain ⟨rfl, rfl⟩ := h
                  obtain ⟨r, nt, K, u1, u2, u3, u4, u5, u6, u7⟩ := loop_at hR hp hl
                  have n1 : m.nx ≤ s1.m.nx := hMS _ _ _ _ _ _ h1
                  have n2' := hMS _ _ _ _ _ _ h2
                  have n2 : s1.m.nx ≤ s2.m.nx := n2'
                  have hsz : args'.toArray.size = r.params.size := by
                    have a1 := hargs.length
                    have a2 : r.params.size = p.params.length := by rw [← u6]; simp
                    simp only [List.size_toArray]
                    omega
                  refine .inr (.inr ⟨e.C, r.fn, _, r.assign, r.body, w, run_yield u1 hsz, ?_⟩)
                  have hz : (r.params.zip args'.toArray).foldl (fun tmps (t, a) => tmps.setIfInBounds t a) r.tmps = (p.params.zip args').foldl (fun tmps (t, a) => tmps.setIfInBounds t a) r.tmps := by
                    rw [← Array.foldl_toList, Array.toList_zip, u6]
                  rw [hz]
                  obtain ⟨f1, f2⟩ := putAll_FrR p.params args args' p.fr r.tmps hargs u4 (fun t ht => Nat.lt_of_lt_of_le (u7.ps t ht).1 u5) hlen
                  have f3 := putAll_FrK p.params args p.fr u7.fk (fun t ht => (u7.ps t ht).2)
                  refine roundIn_of_wpIn trivial ?_
                  rw [u7.assign] at h1
                  refine ihE K nt (some l) p.fn r.assign _ .nrm s1 h1 φ w _ (some e.C) hG hR ⟨f1, f3, by rw [f2]; exact u5, .nil⟩ (hroom.left n2) (.some hl) _ fun a1 w1 φ1 g1 g2 g3 g4 => ?_
                  -- the round begins
                  have hl1 := g2.le _ _ hl
                  obtain ⟨r2, nt2, K2, v1, v2, v3, v4, v5, v6, v7⟩ := loop_at g3 hp2 hl1
                  have hb := loop_put (p' := { p2 with state := .busy }) (r' := { r2 with state := .busy }) g3 hp2 hl1 v1 (.loop rfl v3 v4 v5 v6 ⟨v7.assign, v7.body, v7.fk, v7.ps⟩)
                  refine ⟨_, run_beginRound v1 (by rw [v2]; exact hready), ?_⟩
                  rw [u7.body] at h2
                  refine ihE K nt (some l) p.fn r.body _ ex s2 h2 φ1 _ a1 (some e.C) (hG.mono g2.le) hb.1 ⟨g1.fr, g1.fk, g1.sz, g1.ds⟩ (hroom.right g2) (.some hl1) _ fun a2 w2 φ2 q1 q2 q3 q4 => ?_
                  have hl2 := q2.le _ _ hl1
                  obtain ⟨r3, nt3, K3, x1, x2, x3, x4, x5, x6, x7⟩ := loop_at q3 hp3 hl2
                  have fin : ∀ (jc : Option Code) (ja : Option ACode), JR ja jc → ∃ v w', (Instr.endRound e.C jc).run P w2 = .ok v w' ∧ Aft P w0 B φ m w (.bool ja.isNone) (s2.m.put l (.loop { p3 with state := if ja.isNone then .ready else .done, pend := ja })) v w' := by
                    intro jc ja hj
                    have hjn : jc.isNone = ja.isNone := by cases hj <;> rfl
                    have hput := loop_put (p' := { p3 with state := if ja.isNone then .ready else .done, pend := ja }) (r' := { r3 with state := if jc.isNone then .ready else .done, pending := jc }) q3 hp3 hl2 x1
                      (.loop (by rw [hjn]) hj x4 x5 x6 ⟨x7.assign, x7.body, x7.fk, x7.ps⟩)
                    refine ⟨_, _, run_endRound jc x1, φ2, by rw [hjn]; exact .bool _, g2.trans q2, hput.1, g4.trans (hb.2.trans (q4.trans hput.2))⟩
                  cases ex with
                  | nrm => exact fin none none .none
                  | exit i => exact fin (some (.exit i)) (some (.exit i)) (.exit i)
                  | ret => exact fin (some .ret) (some .ret) .ret
            · cases h
      · cases h

theorem exec_sound {isB : FuncId → Bool} {callF : CallF} (hfol : P.follows .mixedOrders = true) (hC : CallS P w0 B callF) (hMC : MonC callF) (hB : ∀ g, isB g = true → ∃ fn, P.funcs[g]? = some fn ∧ fn.body.isSome = true) :
    ∀ (n : Nat), ExecS P w0 B isB callF n ∧ ExecL P w0 B isB callF n ∧ RoundS P w0 B (roundV isB callF n)
  | 0 => ⟨fun K nt rd fn c s e s' h => by simp [exec] at h, fun K nt rd fn c s e s' h => by simp [exec] at h, fun l args m v m' h => by simp [roundV] at h⟩
  | n + 1 => by
    obtain ⟨h1, h2, h3⟩ := exec_sound hfol hC hMC hB n
    exact ⟨exec_step hfol hC hMC hB h1 h2 h3, execL_step hMC h1 h2, round_step hMC h1⟩

end Go.Den

/- Calls: the soundness of 'callV'. -/
namespace Go.Den
open Go Go.RowKit

variable {P : Program} {w0 : World} {B : Nat} {φ : Emb} {m : Me} {w : World}

/-- Deferred blocks are shut. -/
theorem takes_sound {fn : Func} {tmps : Array Value} {R : Ending → World → Prop} : ∀ (ds : List Nat) (l : List Deferred) (φ : Emb) (m : Me) (w : World) (m' : Me), DefR φ ds l → takeDs m ds = some m' → Rel P w0 B φ m w →
    m'.nx = m.nx ∧ ((∀ w', Rel P w0 B φ m' w' → Fr φ m w φ m' w' → ∃ v, (results fn tmps).run P w' = .ok v w' ∧ R (.returned v) w') → LeavesInM Fence.wide 0 P fn tmps R l .returning w)
  | [], _, φ, m, w, m', .nil, h, hR => by
    simp only [takeDs, Option.some.injEq] at h
    subst h
    exact ⟨rfl, fun hw => hw w hR (Fr.refl _ _ _)⟩
  | d :: ds, _, φ, m, w, m', .cons (e := e) hd ht, h, hR => by
    simp only [takeDs] at h
    split at h
    · rename_i hg
      obtain ⟨o', g1, g2⟩ := hR.obj hg trivial hd
      cases g2
      have hput := put_obj (ob := .dfr false) hR hg trivial hd g1 (fun _ _ _ h => by cases h) (o'' := .deferred none) .dfrN
      obtain ⟨k1, k2⟩ := takes_sound (fn := fn) (tmps := tmps) (R := R) ds _ φ _ (w.putObj e.C (.deferred none)) m' ht h hput.2.1
      refine ⟨k1, fun hw => ⟨by simp, .inl ⟨e.C, w.putObj e.C (.deferred none), rfl, run_takeDeferred g1, k2 fun w' q1 q2 => hw w' q1 (hput.2.2.trans q2)⟩⟩⟩
    · cases h

theorem run_mapM {α : Type} {f : α → Sem Value} : ∀ (l : List α) (vs : List Value) (w : World), l.length = vs.length → (∀ (i : Nat) (a : α) (v : Value), l[i]? = some a → vs[i]? = some v → (f a).run P w = .ok v w) → (l.mapM f).run P w = .ok vs w
  | [], [], w, _, _ => by simp
  | a :: l, v :: vs, w, hl, h => by
    simp only [List.mapM_cons, Sem.run_bind, h 0 a v rfl rfl, Result.andThen_ok, run_mapM l vs w (by simpa using hl) (fun i a v h1 h2 => h (i + 1) a v (by simpa using h1) (by simpa using h2)), Sem.run_pure]
  | [], _ :: _, _, h, _ => by simp at h
  | _ :: _, [], _, h, _ => by simp at h

/-- A result. -/
def resS (tmps : Array Value) : ResultVar → Sem Value
  | .tmp t => pure (tmps.getD t Go.undef)
  | .cell a t => do loadVar t (← asAddr (tmps.getD a Go.undef))

theorem results_eq (fn : Func) (tmps : Array Value) : results fn tmps = (do let vs ← fn.results.mapM (resS tmps); pure (if h : vs.size = 1 then vs[0] else .tuple vs)) := by
  have : resS tmps = (fun | .tmp t => pure (tmps.getD t Go.undef) | .cell a t => do loadVar t (← asAddr (tmps.getD a Go.undef))) := by
    funext x; cases x <;> rfl
  rw [this]
  rfl

/-- Results. -/
theorem res_list {fr : T AV} {tmps : Array Value} (hR : Rel P w0 B φ m w) (hf : FrR φ fr tmps) : ∀ (rs : List ResultVar) (ars : List ARes) (vs : List AV), rs.mapM (cRes P) = some ars → resV fr m ars = some vs →
    ∃ vs', VRs φ vs vs' ∧ rs.length = vs'.length ∧ ∀ (i : Nat) (a : ResultVar) (v : Value), rs[i]? = some a → vs'[i]? = some v → (resS tmps a).run P w = .ok v w
  | [], ars, vs, h, hv => by
    simp only [List.mapM_nil, pure_some] at h
    subst h
    simp only [resV, Option.some.injEq] at hv
    subst hv
    exact ⟨[], .nil, rfl, fun i a v h => by simp at h⟩
  | x :: rs, ars, vs, h, hv => by
    simp only [List.mapM_cons, bind_some, pure_some] at h
    obtain ⟨ax, hax, ars', hars, rfl⟩ := h
    have fin : ∀ (v : AV) (v' : Value) (vs0 : List AV), resV fr m ars' = some vs0 → VR φ v v' → (resS tmps x).run P w = .ok v' w →
        ∃ vs', VRs φ (v :: vs0) vs' ∧ (x :: rs).length = vs'.length ∧ ∀ (i : Nat) (a : ResultVar) (u : Value), (x :: rs)[i]? = some a → vs'[i]? = some u → (resS tmps a).run P w = .ok u w := by
      intro v v' vs0 h0 hvv hrun
      obtain ⟨vs', g1, g2, g3⟩ := res_list hR hf rs ars' vs0 hars h0
      refine ⟨v' :: vs', .cons hvv g1, by simp [g2], fun i a u h1 h2 => ?_⟩
      cases i with
      | zero =>
        simp only [List.getElem?_cons_zero, Option.some.injEq] at h1 h2
        subst h1 h2
        exact hrun
      | succ i => exact g3 i a u (by simpa using h1) (by simpa using h2)
    cases x with
    | tmp t =>
      simp only [cRes, Option.some.injEq] at hax
      subst hax
      simp only [resV, map_some] at hv
      obtain ⟨vs0, h0, rfl⟩ := hv
      refine fin _ (tmps.getD t Go.undef) vs0 h0 ?_ rfl
      cases hg : fr.get t with
      | none => exact .unk _
      | some u => exact hf t u hg
    | cell a t =>
      simp only [cRes, Option.bind_eq_some_iff] at hax
      obtain ⟨n, hn, hax⟩ := hax
      split at hax
      · cases hax
      rename_i hn0
      cases hax
      simp only [resV] at hv
      split at hv
      · rename_i v hread
        simp only [map_some] at hv
        obtain ⟨vs0, h0, rfl⟩ := hv
        have hva : VR φ (look [] fr (.tmp a)) (tmps.getD a Go.undef) := by
          simp only [look]
          cases hg : fr.get a with
          | none => exact .unk _
          | some u => exact hf a u hg
        simp only [readV] at hread
        split at hread
        · rename_i b i heq
          rw [heq] at hva
          split at hread
          · rename_i ob hg
            generalize hxx : tmps.getD a Go.undef = xx at hva
            cases hva
            rename_i e he
            obtain ⟨v', l1, l2⟩ := load_sound hR he hn hg hread hn0
            refine fin v v' vs0 h0 l2 ?_
            simp only [resS, Sem.run_bind, hxx, asAddr, Sem.run_pure, Result.andThen_ok, l1]
          · cases hread
        · cases hread
      · cases hv

theorem results_sound {fn : Func} {fr : T AV} {tmps : Array Value} (hR : Rel P w0 B φ m w) (hf : FrR φ fr tmps) {ars : List ARes} (hc : fn.results.toList.mapM (cRes P) = some ars) {vs : List AV} (hv : resV fr m ars = some vs) :
    ∃ v', (results fn tmps).run P w = .ok v' w ∧ VR φ (match vs with | [v] => v | vs => .tuple vs) v' := by
  obtain ⟨vs', g1, g2, g3⟩ := res_list hR hf _ _ _ hc hv
  have hrun : (fn.results.mapM (resS tmps)).run P w = .ok vs'.toArray w := by
    rw [Array.mapM_eq_mapM_toList]
    have := run_mapM _ vs' w g2 g3
    rw [map_eq_pure_bind, Sem.run_bind, this]
    rfl
  rw [results_eq]
  simp only [Sem.run_bind, hrun, Result.andThen_ok, Sem.run_pure]
  refine ⟨_, rfl, ?_⟩
  cases g1 with
  | nil => exact .tuple .nil
  | cons hv1 ht =>
    cases ht with
    | nil => exact hv1
    | cons h2 ht2 =>
      rw [dif_neg (by simp)]
      exact .tuple (.cons hv1 (.cons h2 ht2))

end Go.Den

/- Calls: the soundness of 'callV'. -/
namespace Go.Den
open Go Go.RowKit

variable {P : Program} {w0 : World} {B : Nat} {φ : Emb} {m : Me} {w : World}

/-- What is asked of what has no body. -/
def ExtS (P : Program) (w0 : World) (B : Nat) : Prop :=
  ∀ f fn x, P.funcs[f]? = some fn → fn.body = none → cExt P fn = some x → ∀ args m v m', extV x args m = some (v, m') → ∀ φ w args', GlobR P φ → Rel P w0 B φ m w → VRs φ args args' → Room φ m.nx m'.nx → InvR P (callFunc f args'.toArray) w (Aft P w0 B φ m w v m')

theorem ext_nx {x : Ext} {args : List AV} {m m' : Me} {v : AV} (h : extV x args m = some (v, m')) : m.nx ≤ m'.nx := by
  unfold extV at h
  repeat' split at h
  all_goals first
    | (cases h; done)
    | (cases h; exact Nat.le_refl _)
    | (simp only [map_some, Prod.mk.injEq] at h; obtain ⟨_, _, _, rfl⟩ := h; exact Nat.le_refl _)
    | (cases h; simp)

theorem take_nx : ∀ (ds : List Nat) (m m' : Me), takeDs m ds = some m' → m'.nx = m.nx
  | [], m, m', h => by simp only [takeDs, Option.some.injEq] at h; rw [h]
  | d :: ds, m, m', h => by
    simp only [takeDs] at h
    split at h
    · rw [take_nx ds _ _ h]; rfl
    · cases h

theorem callV_nx {F : FuncId → Option AFunc} {fuel : Nat} : ∀ (d : Nat), MonC (callV F fuel d)
  | 0 => fun f args m v m' h => by simp [callV] at h
  | d + 1 => fun f args m v m' h => by
    simp only [callV] at h
    split at h
    · cases h
    · exact ext_nx h
    · split at h
      · cases h
      · split at h
        · rename_i e s hs
          have h1 : m.nx ≤ s.m.nx := (exec_nx (callV_nx d) fuel).1 _ _ _ _ _ _ hs
          split at h
          · cases h
          · split at h
            · rename_i m2 ht
              have h2 := take_nx _ _ _ ht
              split at h
              · cases h; omega
              · cases h; omega
              · cases h
            · cases h
        · cases h

def tupV : List AV → AV
  | [v] => v
  | vs => .tuple vs

theorem results_sound' {fn : Func} {fr : T AV} {tmps : Array Value} (hR : Rel P w0 B φ m w) (hf : FrR φ fr tmps) {ars : List ARes} (hc : fn.results.toList.mapM (cRes P) = some ars) {vs : List AV} (hv : resV fr m ars = some vs) :
    ∃ v', (results fn tmps).run P w = .ok v' w ∧ VR φ (tupV vs) v' := by
  obtain ⟨v', h1, h2⟩ := results_sound hR hf hc hv
  refine ⟨v', h1, ?_⟩
  cases vs with
  | nil => exact h2
  | cons a l => cases l <;> exact h2

theorem puts_FrR {args : List AV} {args' : List Value} (h : VRs φ args args') (n : Nat) : FrR φ (T.puts .e 0 args) (args'.toArray ++ Array.replicate n Go.undef) := by
  intro t v hv
  rw [T.get_puts] at hv
  have hl := h.length
  split at hv
  · rename_i ht
    obtain ⟨v', h1, h2⟩ := h.get _ _ hv
    rw [Array.getD_eq_getD_getElem?, Array.getElem?_append_left (by simp; omega)]
    rw [Nat.sub_zero] at h1
    simp [h1, h2]
  · simp at hv

theorem callV_sound (hfol : P.follows .mixedOrders = true) (hX : ExtS P w0 B) {F : FuncId → Option AFunc} (hF : ∀ f a, F f = some a → ∃ fn, P.funcs[f]? = some fn ∧ cFunc P fn = some a ∧ (fn.name == "runtime.NumGoroutine") = false) {fuel : Nat} : ∀ (d : Nat), CallS P w0 B (callV F fuel d)
  | 0 => fun f args m v m' h => by simp [callV] at h
  | d + 1 => by
    intro f args m v m' h φ w args' hG hR hargs hroom
    have ih := callV_sound hfol hX hF (fuel := fuel) d
    have hMC := callV_nx (F := F) (fuel := fuel) d
    simp only [callV] at h
    split at h
    · cases h
    · rename_i x hFx
      obtain ⟨fn, h1, h2, h3⟩ := hF f _ hFx
      unfold cFunc at h2
      split at h2
      · simp only [bind_some, pure_some] at h2
        obtain ⟨_, _, h2⟩ := h2
        cases h2
      · rename_i hb
        simp only [map_some, AFunc.ext.injEq] at h2
        obtain ⟨x', h4, rfl⟩ := h2
        exact hX f fn x' h1 hb h4 args m v m' h φ w args' hG hR hargs hroom
    · rename_i na nt rs c hFx
      obtain ⟨fn, h1, h2, h3⟩ := hF f _ hFx
      unfold cFunc at h2
      split at h2
      · rename_i code hb
        simp only [bind_some, pure_some, AFunc.body.injEq] at h2
        obtain ⟨rs', hrs, h4, h5, h6, h7⟩ := h2
        subst h4 h5 h6 h7
        split at h
        · cases h
        · rename_i hna
          split at h
          · rename_i e s hs
            have n1 : m.nx ≤ s.m.nx := (exec_nx hMC fuel).1 _ _ _ _ _ _ hs
            have hlen := hargs.length
            have hB : ∀ g, (match F g with | some (.body ..) => true | _ => false) = true → ∃ fn, P.funcs[g]? = some fn ∧ fn.body.isSome = true := by
              intro g hg
              split at hg
              · rename_i hFg
                obtain ⟨fn2, k1, k2, _⟩ := hF g _ hFg
                refine ⟨fn2, k1, ?_⟩
                unfold cFunc at k2
                split at k2
                · rename_i hbb; simp [hbb]
                · simp only [map_some] at k2
                  obtain ⟨_, _, k2⟩ := k2
                  cases k2
              · cases hg
            obtain ⟨hE, _, _⟩ := exec_sound (isB := fun g => match F g with | some (.body ..) => true | _ => false) hfol ih hMC hB fuel
            refine .inr (.inl ⟨f, args'.toArray, w, ?_, ?_⟩)
            · have hn : fn.body.isNone = false := by simp [hb]
              have hname : fn.name ≠ "runtime.NumGoroutine" := by simpa using h3
              simp [callFunc, h1, hname, hb]
            · refine callsIn_of_wp_marks h1 hb trivial ?_
              have hsz : (args'.toArray ++ Array.replicate (fn.ntmps - args'.toArray.size) Go.undef).size ≥ fn.ntmps := by simp; omega
              refine hE (keepOf fn code) fn.ntmps none f code _ e s hs φ w _ none hG hR ⟨puts_FrR hargs _, ?_, hsz, .nil⟩ ?_ .none _ fun a1 w1 φ1 g1 g2 g3 g4 => ?_
              · intro t u hu
                rw [T.get_puts] at hu
                split at hu
                · rename_i ht
                  unfold keepOf
                  simp only [Bool.or_eq_true, decide_eq_true_eq]
                  left; omega
                · simp at hu
              · -- what is made behind the body
                refine hroom.left ?_
                split at h
                · cases h
                · split at h
                  · rename_i m2 ht
                    have := take_nx _ _ _ ht
                    split at h <;> first | (cases h; omega) | cases h
                  · cases h
              · -- the body has ended
                have leave : ∀ m2 vs, takeDs s.m s.ds = some m2 → resV s.fr m2 rs' = some vs → v = tupV vs → m' = m2 → LeavesInM Fence.wide 0 P fn a1.tmps (onlyV (Aft P w0 B φ m w v m')) a1.defers .returning w1 := by
                  intro m2 vs ht hv hvv hm
                  subst hvv hm
                  obtain ⟨k1, k2⟩ := takes_sound (fn := fn) (tmps := a1.tmps) (R := onlyV (Aft P w0 B φ m w (tupV vs) m')) s.ds a1.defers φ1 s.m w1 m' g1.ds ht g3
                  refine k2 fun w' q1 q2 => ?_
                  obtain ⟨v', r1, r2⟩ := results_sound' q1 g1.fr hrs hv
                  exact ⟨v', r1, φ1, r2, by rw [k1]; exact g2, q1, g4.trans q2⟩
                split at h
                · cases h
                · rename_i hne
                  split at h
                  · rename_i m2 ht
                    have hfin : LeavesInM Fence.wide 0 P fn a1.tmps (onlyV (Aft P w0 B φ m w v m')) a1.defers .returning w1 := by
                      split at h
                      · rename_i v1 hv
                        cases h
                        exact leave _ _ ht hv rfl rfl
                      · rename_i vs hno hv
                        cases h
                        refine leave _ vs ht hv ?_ rfl
                        cases vs with
                        | nil => rfl
                        | cons a l =>
                          cases l with
                          | nil => exact absurd rfl (hno a)
                          | cons b l => rfl
                      · cases h
                    cases e with
                    | nrm => exact hfin
                    | exit i => exact absurd rfl (hne i)
                    | ret => exact hfin
                  · cases h
          · cases h
      · simp only [map_some] at h2
        obtain ⟨_, _, h2⟩ := h2
        cases h2

end Go.Den
