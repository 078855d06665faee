/- What has no body. -/
import Derived.Test.YtacmmkacdfhagaaGreatDoorDen6
import Derived.Laws.Externs
import Derived.Lib.Bytealg
import Derived.Lib.MakeNoZero
import Derived.KernelRfl

set_option linter.unusedSimpArgs false
set_option linter.unusedVariables false
set_option linter.unusedSectionVars false
set_option linter.deprecated false

namespace Go.Den
open Go Go.RowKit

theorem find_idx {fn : Func} (hn : fn.name = "internal/bytealg.IndexByteString") (ho : fn.origin = "") : Extern.findNext fn = none ∧ Extern.find fn = some Extern.BytealgIndexByte.indexByte := by
  unfold Extern.findNext Extern.find
  rw [hn, ho]
  exact ⟨by kernel_rfl, by kernel_rfl⟩
theorem find_cnt {fn : Func} (hn : fn.name = "internal/bytealg.CountString") (ho : fn.origin = "") : Extern.findNext fn = none ∧ Extern.find fn = some Extern.BytealgCount.count := by
  unfold Extern.findNext Extern.find
  rw [hn, ho]
  exact ⟨by kernel_rfl, by kernel_rfl⟩
theorem find_cmp {fn : Func} (hn : fn.name = "internal/bytealg.abigen_runtime_cmpstring") (ho : fn.origin = "") : Extern.findNext fn = none ∧ Extern.find fn = some Extern.BytealgCompare.compare := by
  unfold Extern.findNext Extern.find
  rw [hn, ho]
  exact ⟨by kernel_rfl, by kernel_rfl⟩
theorem find_same {fn : Func} (hn : fn.name = "internal/abi.NoEscape") (ho : fn.origin = "") : Extern.findNext fn = none ∧ Extern.find fn = some Extern.AbiNoEscape.same := by
  unfold Extern.findNext Extern.find
  rw [hn, ho]
  exact ⟨by kernel_rfl, by kernel_rfl⟩
theorem find_mnz {fn : Func} (hn : fn.name = "internal/bytealg.MakeNoZero") (ho : fn.origin = "") : Extern.findNext fn = none ∧ Extern.find fn = some (Extern.BytealgMakeNoZero.makeNoZero fn.params fn.resultTypes) := by
  unfold Extern.findNext Extern.find
  rw [hn, ho]
  exact ⟨by kernel_rfl, by kernel_rfl⟩

theorem find_clone {fn : Func} (hn : fn.name = "maps.clone") (ho : fn.origin = "") : Extern.findNext fn = none ∧ Extern.find fn = some Extern.MapsClone.clone := by
  unfold Extern.findNext Extern.find
  rw [hn, ho]
  exact ⟨by kernel_rfl, by kernel_rfl⟩

theorem findIdx_eq (p : UInt8 → Bool) : ∀ (l : List UInt8) (k : Nat), findIdxV p l k = match (List.range l.length).find? (fun i => p (l[i]?.getD 0)) with | some i => ((k + i : Nat) : Int) | none => -1
  | [], k => rfl
  | c :: l, k => by
    simp only [findIdxV, List.length_cons, List.range_succ_eq_map, List.find?_cons, List.getElem?_cons_zero, Option.getD_some]
    by_cases h : p c = true
    · simp [h]
    · have h' : p c = false := by simpa using h
      simp only [h', Bool.false_eq_true, if_false]
      rw [findIdx_eq p l (k + 1), List.find?_map]
      have : ((fun i => p ((c :: l)[i]?.getD 0)) ∘ Nat.succ) = fun i => p (l[i]?.getD 0) := by funext i; simp
      rw [this]
      cases (List.range l.length).find? (fun i => p (l[i]?.getD 0)) with
      | none => rfl
      | some i => simp only [Option.map_some, Nat.succ_eq_add_one]; congr 1; omega
theorem getB (l : List UInt8) (i : Nat) : (⟨⟨l⟩⟩ : ByteArray)[i]! = l[i]?.getD 0 := by
  by_cases h : i < l.length
  · have h2 : i < (⟨⟨l⟩⟩ : ByteArray).size := h
    rw [getElem!_pos (⟨⟨l⟩⟩ : ByteArray) i h2, List.getElem?_eq_getElem h]
    rfl
  · have h2 : ¬ i < (⟨⟨l⟩⟩ : ByteArray).size := h
    rw [getElem!_neg (⟨⟨l⟩⟩ : ByteArray) i h2, List.getElem?_eq_none (by omega)]
    rfl
theorem first_eq (l : List UInt8) (c : UInt8) : firstIdx ⟨⟨l⟩⟩ c = findIdxV (· == c) l 0 := by
  unfold firstIdx
  rw [findIdx_eq]
  have hs : (⟨⟨l⟩⟩ : ByteArray).size = l.length := rfl
  rw [hs]
  have : (fun i => (⟨⟨l⟩⟩ : ByteArray)[i]! == c) = fun (i : Nat) => (l[i]?.getD 0) == c := by funext i; rw [getB]
  rw [this]
  cases (List.range l.length).find? (fun (i : Nat) => (l[i]?.getD 0) == c) with
  | none => rfl
  | some i => simp
theorem cmp_eq : ∀ (a b : List UInt8), Extern.BytealgCompare.cmp ⟨⟨a⟩⟩ ⟨⟨b⟩⟩ = if Op.bytesLess a b then -1 else if a == b then 0 else 1 := by
  have key : ∀ (a b : List UInt8), (match (List.range (min a.length b.length)).find? (fun i => a[i]?.getD 0 != b[i]?.getD 0) with
      | some i => if a[i]?.getD 0 < b[i]?.getD 0 then (-1 : Int) else 1
      | none => if a.length < b.length then -1 else if a.length > b.length then 1 else 0) = if Op.bytesLess a b then -1 else if a == b then 0 else 1 := by
    intro a
    induction a with
    | nil => intro b; cases b <;> simp [Op.bytesLess]
    | cons x a ih =>
      intro b
      cases b with
      | nil => simp [Op.bytesLess]
      | cons y b =>
        simp only [List.length_cons, Nat.succ_min_succ, List.range_succ_eq_map, List.find?_cons, List.getElem?_cons_zero, Option.getD_some]
        by_cases h : x = y
        · subst h
          have h1 : ((fun i => (x :: a)[i]?.getD 0 != (x :: b)[i]?.getD 0) ∘ Nat.succ) = fun i => a[i]?.getD 0 != b[i]?.getD 0 := by funext i; simp
          simp only [bne_self_eq_false, List.find?_map, h1]
          have := ih b
          have hl : ¬ (x < x) := UInt8.lt_irrefl x
          have e1 : Op.bytesLess (x :: a) (x :: b) = Op.bytesLess a b := by simp [Op.bytesLess, hl]
          have e2 : ((x :: a) == (x :: b)) = (a == b) := by simp
          rw [e1, e2, ← this]
          cases (List.range (min a.length b.length)).find? (fun i => a[i]?.getD 0 != b[i]?.getD 0) with
          | none => simp
          | some i => simp
        · have hne : (x != y) = true := by simpa using h
          simp only [hne]
          have e2 : ((x :: a) == (y :: b)) = false := by simp [h]
          have e1 : Op.bytesLess (x :: a) (y :: b) = decide (x < y) := by simp [Op.bytesLess, h]
          rw [e1, e2]
          simp
  intro a b
  rw [← key a b]
  unfold Extern.BytealgCompare.cmp
  have hs : ∀ l : List UInt8, (⟨⟨l⟩⟩ : ByteArray).size = l.length := fun _ => rfl
  rw [hs, hs]
  have : (fun i => (⟨⟨a⟩⟩ : ByteArray)[i]! != (⟨⟨b⟩⟩ : ByteArray)[i]!) = fun (i : Nat) => a[i]?.getD 0 != b[i]?.getD 0 := by funext i; rw [getB, getB]
  rw [this]
  cases (List.range (min a.length b.length)).find? (fun (i : Nat) => a[i]?.getD 0 != b[i]?.getD 0) with
  | none => rfl
  | some i => simp only [getB]


variable {P : Program} {w0 : World} {B : Nat} {φ : Emb} {m : Me} {w : World}

theorem byte_sound {c : AV} {b : UInt8} (h : byteAV c = some b) {c' : Value} (hc : VR φ c c') : ∃ n : Int, c' = .int .u8 n ∧ n.toNat.toUInt8 = b := by
  unfold byteAV at h
  split at h
  · cases h; cases hc; exact ⟨_, rfl, rfl⟩
  · cases h

theorem Aft.same (hR : Rel P w0 B φ m w) {v : AV} {v' : Value} (h : VR φ v v') : Aft P w0 B φ m w v m v' w := ⟨φ, h, Gr.refl _ _, hR, Fr.refl _ _ _⟩

theorem mnz_sound (hR : Rel P w0 B φ m w) (hn : φ m.nx = none) {ps rs : Array TypeId} {t el : TypeId} (ht : rs[0]? = some t) (hu : und P t = some (.slice el)) (hz : sz P el = some 1) {n : Int} (h0 : 0 ≤ n) (h48 : n ≤ 2 ^ 48) :
    ∃ v' w', (Extern.BytealgMakeNoZero.makeNoZero ps rs [Value.int .i64 n].toArray).run P w = .ok v' w' ∧ Aft P w0 B φ m w (.slice (some (m.nx, 0, 1)) n.toNat n.toNat) (m.new (.cells .e n.toNat none el .open_)) v' w' := by
  have hdef : Extern.BytealgMakeNoZero.makeNoZero ps rs [Value.int .i64 n].toArray =
      (do
        let some t := rs[0]? | stuck "bytealg.MakeNoZero: no result type"
        let .slice elem ← underlying t | stuck "bytealg.MakeNoZero: slice type expected"
        if n < 0 || n > 2 ^ 48 then runtimePanic (.error "makeslice: len out of range")
        let cap ← choose (.appendCap n.toNat 0 elem)
        askRoom cap
        let bytes ← choose (.extern "internal/bytealg.MakeNoZero.bytes" 0)
        let a ← newRow elem (Extern.BytealgMakeNoZero.digits cap bytes #[])
        pure (.slice (some a) n.toNat cap)) := rfl
  have h1 : ¬ n < 0 := by omega
  have h48' : n ≤ 281474976710656 := h48
  have h2 : ¬ (281474976710656 : Int) < n := by omega
  obtain ⟨cs, hcs, hrun⟩ : ∃ cs : Array Value, n.toNat ≤ cs.size ∧ (Extern.BytealgMakeNoZero.makeNoZero ps rs [Value.int .i64 n].toArray).run P w = .ok (.slice (some ⟨w.heap.size, 0, none⟩) n.toNat cs.size) (w.drew.drew.alloc (.cells cs el (0, 0))) := by
    refine ⟨Extern.BytealgMakeNoZero.digits (grownCap w n.toNat 0 el) ((Question.extern "internal/bytealg.MakeNoZero.bytes" 0).cut (w.tape (w.drawn + 1) (.extern "internal/bytealg.MakeNoZero.bytes" 0))) #[], ?_, ?_⟩
    · rw [Lib.size_digits]; simpa using grownCap_ge w n.toNat 0 el
    · rw [hdef]
      have hu' : P.underlying t = some (.slice el) := hu
      simp [ht, run_underlying hu', h1, h2, Question.forced, newRow, Lib.size_digits, grownCap]
  obtain ⟨g1, g2, g3⟩ := hR.drew.drew.alloc hn (.cells .e n.toNat none el .open_) (.cells cs el (0, 0)) cs.size 1 true
    (.cells (fun i hi => by
        have hi2 : i < cs.size := by omega
        refine ⟨cs[i], by show cs[0 + i]? = _; rw [Nat.zero_add]; exact Array.getElem?_eq_getElem hi2, fun v hv => ?_⟩
        simp [Ob.cell] at hv) hcs (by simp) ⟨rfl, rfl, hz, by show 0 < 1; omega, fun j a b => by simp at b⟩)
  exact ⟨_, _, hrun, _, .sliceO (upd_self _ _ _) rfl rfl hcs (by simp), g2, g1, (Fr.drew _ _ _).trans ((Fr.drew _ _ _).trans g3)⟩

theorem clone_sound (hR : Rel P w0 B φ m w) (hn : φ m.nx = none) {t : TypeId} {r : Nat} {es : List (AV × AV × Nat)} {clock : Nat} (hg : m.get r = some (.map es clock)) {a : Value} (ha : VR φ (.iface t (.map (some r))) a) :
    ∃ v' w', (Extern.MapsClone.clone [a].toArray).run P w = .ok v' w' ∧ Aft P w0 B φ m w (.iface t (.map (some m.nx))) (m.new (.map es clock)) v' w' := by
  cases ha with
  | iface _ h =>
    cases h with
    | map hr =>
      rename_i e
      obtain ⟨e2, o', g1, g2, g3⟩ := hR.live r _ hg trivial
      rw [hr] at g1
      cases g1
      cases g3 with
      | map hm =>
        rename_i es'
        obtain ⟨k1, k2, k3⟩ := hR.alloc hn (.map es clock) (.map es' clock) 0 0 false (.map (hm.mono (upd_le _ hn)))
        refine ⟨.iface t (.map (some w.heap.size)), w.alloc (.map es' clock), ?_, _, .iface _ (.map (upd_self _ _ _)), k2, k1, k3⟩
        have e1 : (Extern.MapsClone.clone [Value.iface t (.map (some e.C))].toArray) = (do
          let .map entries clock ← getObj e.C | stuck "maps.clone: a map expected"
          pure (.iface t (.map (some (← newObj (.map entries clock)))))) := rfl
        rw [e1]
        simp [run_getObj g2]

theorem ext_sound : ExtS P w0 B := by
  intro f fn x hf hb hx args m v m' h φ w args' hG hR hargs hroom
  unfold cExt at hx
  dsimp only at hx
  split at hx
  · cases hx
  · rename_i ho
    simp only [ne_eq, Decidable.not_not] at ho
    have hbn : fn.body.isNone = true := by simp [hb]
    have fin : ∀ (e : Array Value → Sem Value), (fn.name == "runtime.NumGoroutine") = false → Extern.findNext fn = none ∧ Extern.find fn = some e → (∃ v' w', (e args'.toArray).run P w = .ok v' w' ∧ Aft P w0 B φ m w v m' v' w') →
        InvR P (callFunc f args'.toArray) w (Aft P w0 B φ m w v m') := by
      rintro e hname ⟨h1, h2⟩ ⟨v', w', h3, h4⟩
      refine .inl ⟨v', w', ?_, h4⟩
      rw [run_callFunc_extern hf hname hbn h1 h2, h3]
      rfl
    split at hx
    · rename_i hn
      cases hx
      refine fin _ (by rw [hn]; rfl) (find_idx hn ho) ?_
      unfold extV at h
      split at h <;> first | (cases h; done) | skip
      all_goals first | (rename_i heq _; cases heq; done) | (rename_i heq; cases heq; done) | skip
      rename_i s c
      simp only [map_some, Prod.mk.injEq] at h
      obtain ⟨b, hb1, rfl, rfl⟩ := h
      cases hargs with
      | cons h1 ht => cases ht with
        | cons h2 ht => cases ht; cases h1; obtain ⟨n, rfl, hn2⟩ := byte_sound hb1 h2
                        refine ⟨_, w, run_indexByte_string _ _ _, Aft.same hR ?_⟩
                        rw [hn2, first_eq]; exact .int _ _
    · split at hx
      · rename_i hn
        cases hx
        refine fin _ (by rw [hn]; rfl) (find_cnt hn ho) ?_
        unfold extV at h
        split at h <;> first | (cases h; done) | skip
        all_goals first | (rename_i heq _; cases heq; done) | (rename_i heq; cases heq; done) | skip
        rename_i s c _
        simp only [map_some, Prod.mk.injEq] at h
        obtain ⟨b, hb1, rfl, rfl⟩ := h
        cases hargs with
        | cons h1 ht => cases ht with
          | cons h2 ht => cases ht; cases h1; obtain ⟨n, rfl, hn2⟩ := byte_sound hb1 h2
                          refine ⟨_, w, Lib.run_countString _ _ _, Aft.same hR ?_⟩
                          rw [hn2]
                          have : Lib.countByte s b = (s.filter (· == b)).length := by
                            unfold Lib.countByte
                            rw [List.count_eq_length_filter]
                          rw [this]; exact .int _ _
      · split at hx
        · cases hx
          unfold extV at h
          split at h <;> simp_all
        · split at hx
          · rename_i hn
            cases hx
            refine fin _ (by rw [hn]; rfl) (find_cmp hn ho) ?_
            unfold extV at h
            split at h <;> first | (cases h; done) | skip
            all_goals first | (rename_i heq _; cases heq; done) | (rename_i heq; cases heq; done) | skip
            rename_i a b _
            cases h
            cases hargs with
            | cons h1 ht => cases ht with
              | cons h2 ht => cases ht; cases h1; cases h2
                              refine ⟨goInt (Extern.BytealgCompare.cmp ⟨⟨a⟩⟩ ⟨⟨b⟩⟩), w, rfl, Aft.same hR ?_⟩
                              rw [cmp_eq]; exact .int _ _
          · split at hx
            · rename_i hn
              cases hx
              refine fin _ (by rw [hn]; rfl) (find_same hn ho) ?_
              unfold extV at h
              split at h <;> first | (cases h; done) | skip
              all_goals first | (rename_i heq _; cases heq; done) | (rename_i heq; cases heq; done) | skip
              cases h
              cases hargs with
              | cons h1 ht => cases ht; exact ⟨_, w, rfl, Aft.same hR h1⟩
            · split at hx
              · rename_i hn
                split at hx
                · rename_i t ht0
                  split at hx
                  · rename_i el hu
                    split at hx
                    · rename_i hsz
                      cases hx
                      refine fin _ (by rw [hn]; rfl) (find_mnz hn ho) ?_
                      unfold extV at h
                      split at h <;> first | (cases h; done) | skip
                      all_goals first | (rename_i heq _; cases heq; done) | (rename_i heq; cases heq; done) | skip
                      rename_i el2 n heq2
                      cases heq2
                      split at h
                      · rename_i hrange
                        cases h
                        cases hargs with
                        | cons h1 ht => cases ht; cases h1; exact mnz_sound hR (hroom _ (Nat.le_refl _) (by simp)) ht0 hu hsz hrange.1 hrange.2
                      · cases h
                    · cases hx
                  · cases hx
                · cases hx
              · split at hx
                · rename_i hn
                  cases hx
                  refine fin _ (by rw [hn]; rfl) (find_clone hn ho) ?_
                  unfold extV at h
                  split at h <;> first | (cases h; done) | skip
                  all_goals first | (rename_i heq _; cases heq; done) | (rename_i heq; cases heq; done) | skip
                  rename_i t r
                  split at h
                  · rename_i es clock hg
                    cases h
                    cases hargs with
                    | cons h1 ht =>
                      cases ht
                      exact clone_sound hR (hroom _ (Nat.le_refl _) (by simp)) hg h1
                  · cases h
                · cases hx

end Go.Den

/- A closed call: from an empty memory of ours. -/
namespace Go.Den
open Go Go.RowKit

variable {P : Program}

/-- At the start only the program's variables lie where they lie. -/
def emb0 (P : Program) : Emb := fun g => if g < P.globals.size then some ⟨g, 0, 0, 0, false⟩ else none

theorem glob0 : GlobR P (emb0 P) := fun g hg => ⟨⟨g, 0, 0, 0, false⟩, by simp [emb0, hg], rfl, rfl⟩

theorem rel0 (w : World) : Rel P w w.heap.size (emb0 P) ⟨.e, P.globals.size⟩ w :=
  ⟨fun b o hb => (by rw [show (Me.mk .e P.globals.size).get b = none from T.get_e b] at hb; cases hb),
   fun b o e hb => (by rw [show (Me.mk .e P.globals.size).get b = none from T.get_e b] at hb; cases hb),
   fun b b' o o' e e' hb => (by rw [show (Me.mk .e P.globals.size).get b = none from T.get_e b] at hb; cases hb),
   ⟨rfl, rfl, rfl, Nat.le_refl _, fun _ _ => rfl⟩, Nat.le_refl _, fun b _ => T.get_e b⟩

theorem room0 (n : Nat) : Room (emb0 P) P.globals.size n := fun x h1 _ => by simp [emb0]; omega

/-- A call whose answer our interpreter finds. -/
theorem closed_call (hfol : P.follows .mixedOrders = true) {F : FuncId → Option AFunc} (hF : ∀ f a, F f = some a → ∃ fn, P.funcs[f]? = some fn ∧ cFunc P fn = some a ∧ (fn.name == "runtime.NumGoroutine") = false) {fuel d : Nat} {f : FuncId} {args : List AV} {args' : List Value} {v : AV} {m' : Me}
    (h : callV F fuel d f args ⟨.e, P.globals.size⟩ = some (v, m')) (w : World) (ha : VRs (emb0 P) args args') : InvR P (callFunc f args'.toArray) w (fun v' w' => (∃ φ', VR φ' v v') ∧ Below w.heap.size w w') := by
  have := callV_sound (w0 := w) (B := w.heap.size) hfol ext_sound hF (fuel := fuel) d f args ⟨.e, P.globals.size⟩ v m' h (emb0 P) w args' glob0 (rel0 w) ha (room0 _)
  rcases this with ⟨v', w', h1, φ', h2, h3, h4, h5⟩ | ⟨g, as, w', h1, h2⟩ | ⟨l, g, tmps, as, bd, w', h1, h2⟩
  · exact .inl ⟨v', w', h1, ⟨φ', h2⟩, h4.below⟩
  · refine .inr (.inl ⟨g, as, w', h1, h2.mono fun e w'' he => ?_⟩)
    cases e with
    | returned u => obtain ⟨φ', h2, h3, h4, h5⟩ := he; exact ⟨⟨φ', h2⟩, h4.below⟩
    | panicked _ => exact he.elim
    | outgrown => exact he.elim
  · refine .inr (.inr ⟨l, g, tmps, as, bd, w', h1, h2.mono fun e w'' he => ?_⟩)
    cases e with
    | returned u => obtain ⟨φ', h2, h3, h4, h5⟩ := he; exact ⟨⟨φ', h2⟩, h4.below⟩
    | panicked _ => exact he.elim
    | outgrown => exact he.elim

end Go.Den

/- Contracts: calls whose answers are known, wherever they are made. -/
namespace Go.Den
open Go Go.RowKit

variable {P : Program} {w0 : World} {B : Nat} {φ : Emb} {m : Me} {w : World}

/-- Is a function one with a body? -/
def isBody (F : FuncId → Option AFunc) (g : FuncId) : Bool := match F g with | some (.body ..) => true | _ => false

/-- One step of 'callV'. -/
def callStep (F : FuncId → Option AFunc) (fuel : Nat) (cf : CallF) : CallF := fun f args m =>
  match F f with
  | none => none
  | some (.ext x) => extV x args m
  | some (.body na _ rs c) =>
    if na < args.length then none else
    match exec (isBody F) cf fuel none f c { fr := T.puts .e 0 args, ds := [], m := m } with
    | some (e, s) =>
      match e with
      | .exit _ => none
      | _ => match takeDs s.m s.ds with
        | some m => match resV s.fr m rs with
          | some [v] => some (v, m)
          | some vs => some (.tuple vs, m)
          | none => none
        | none => none
    | none => none

theorem step_nx {F : FuncId → Option AFunc} {fuel : Nat} {cf : CallF} (hMC : MonC cf) : MonC (callStep F fuel cf) := by
  intro f args m v m' h
  simp only [callStep] at h
  split at h
  · cases h
  · exact ext_nx h
  · split at h
    · cases h
    · split at h
      · rename_i e s hs
        have h1 : m.nx ≤ s.m.nx := (exec_nx hMC fuel).1 _ _ _ _ _ _ hs
        split at h
        · cases h
        · split at h
          · rename_i m2 ht
            have h2 := take_nx _ _ _ ht
            split at h
            · cases h; omega
            · cases h; omega
            · cases h
          · cases h
      · cases h

theorem step_sound (hfol : P.follows .mixedOrders = true) (hX : ExtS P w0 B) {F : FuncId → Option AFunc} (hF : ∀ f a, F f = some a → ∃ fn, P.funcs[f]? = some fn ∧ cFunc P fn = some a ∧ (fn.name == "runtime.NumGoroutine") = false) {fuel : Nat} {cf : CallF} (ih : CallS P w0 B cf) (hMC : MonC cf) : CallS P w0 B (callStep F fuel cf) := by
  intro f args m v m' h φ w args' hG hR hargs hroom
  simp only [callStep] at h
  split at h
  · cases h
  · rename_i x hFx
    obtain ⟨fn, h1, h2, h3⟩ := hF f _ hFx
    unfold cFunc at h2
    split at h2
    · simp only [bind_some, pure_some] at h2
      obtain ⟨_, _, h2⟩ := h2
      cases h2
    · rename_i hb
      simp only [map_some, AFunc.ext.injEq] at h2
      obtain ⟨x', h4, rfl⟩ := h2
      exact hX f fn x' h1 hb h4 args m v m' h φ w args' hG hR hargs hroom
  · rename_i na nt rs c hFx
    obtain ⟨fn, h1, h2, h3⟩ := hF f _ hFx
    unfold cFunc at h2
    split at h2
    · rename_i code hb
      simp only [bind_some, pure_some, AFunc.body.injEq] at h2
      obtain ⟨rs', hrs, h4, h5, h6, h7⟩ := h2
      subst h4 h5 h6 h7
      split at h
      · cases h
      · rename_i hna
        split at h
        · rename_i e s hs
          have n1 : m.nx ≤ s.m.nx := (exec_nx hMC fuel).1 _ _ _ _ _ _ hs
          have hlen := hargs.length
          have hB : ∀ g, isBody F g = true → ∃ fn, P.funcs[g]? = some fn ∧ fn.body.isSome = true := by
            unfold isBody
            intro g hg
            split at hg
            · rename_i hFg
              obtain ⟨fn2, k1, k2, _⟩ := hF g _ hFg
              refine ⟨fn2, k1, ?_⟩
              unfold cFunc at k2
              split at k2
              · rename_i hbb; simp [hbb]
              · simp only [map_some] at k2
                obtain ⟨_, _, k2⟩ := k2
                cases k2
            · cases hg
          obtain ⟨hE, _, _⟩ := exec_sound (isB := isBody F) hfol ih hMC hB fuel
          refine .inr (.inl ⟨f, args'.toArray, w, ?_, ?_⟩)
          · have hn : fn.body.isNone = false := by simp [hb]
            have hname : fn.name ≠ "runtime.NumGoroutine" := by simpa using h3
            simp [callFunc, h1, hname, hb]
          · refine callsIn_of_wp_marks h1 hb trivial ?_
            have hsz : (args'.toArray ++ Array.replicate (fn.ntmps - args'.toArray.size) Go.undef).size ≥ fn.ntmps := by simp; omega
            refine hE (keepOf fn code) fn.ntmps none f code _ e s hs φ w _ none hG hR ⟨puts_FrR hargs _, ?_, hsz, .nil⟩ ?_ .none _ fun a1 w1 φ1 g1 g2 g3 g4 => ?_
            · intro t u hu
              rw [T.get_puts] at hu
              split at hu
              · rename_i ht
                unfold keepOf
                simp only [Bool.or_eq_true, decide_eq_true_eq]
                left; omega
              · simp at hu
            · -- what is made behind the body
              refine hroom.left ?_
              split at h
              · cases h
              · split at h
                · rename_i m2 ht
                  have := take_nx _ _ _ ht
                  split at h <;> first | (cases h; omega) | cases h
                · cases h
            · -- the body has ended
              have leave : ∀ m2 vs, takeDs s.m s.ds = some m2 → resV s.fr m2 rs' = some vs → v = tupV vs → m' = m2 → LeavesInM Fence.wide 0 P fn a1.tmps (onlyV (Aft P w0 B φ m w v m')) a1.defers .returning w1 := by
                intro m2 vs ht hv hvv hm
                subst hvv hm
                obtain ⟨k1, k2⟩ := takes_sound (fn := fn) (tmps := a1.tmps) (R := onlyV (Aft P w0 B φ m w (tupV vs) m')) s.ds a1.defers φ1 s.m w1 m' g1.ds ht g3
                refine k2 fun w' q1 q2 => ?_
                obtain ⟨v', r1, r2⟩ := results_sound' q1 g1.fr hrs hv
                exact ⟨v', r1, φ1, r2, by rw [k1]; exact g2, q1, g4.trans q2⟩
              split at h
              · cases h
              · rename_i hne
                split at h
                · rename_i m2 ht
                  have hfin : LeavesInM Fence.wide 0 P fn a1.tmps (onlyV (Aft P w0 B φ m w v m')) a1.defers .returning w1 := by
                    split at h
                    · rename_i v1 hv
                      cases h
                      exact leave _ _ ht hv rfl rfl
                    · rename_i vs hno hv
                      cases h
                      refine leave _ vs ht hv ?_ rfl
                      cases vs with
                      | nil => rfl
                      | cons a l =>
                        cases l with
                        | nil => exact absurd rfl (hno a)
                        | cons b l => rfl
                    · cases h
                  cases e with
                  | nrm => exact hfin
                  | exit i => exact absurd rfl (hne i)
                  | ret => exact hfin
                · cases h
        · cases h
    · simp only [map_some] at h2
      obtain ⟨_, _, h2⟩ := h2
      cases h2

/-- A call whose answer is known wherever it is made behind 'w0': it leaves all there was as it was. -/
def ConS (P : Program) (w0 : World) (f : FuncId) (args : List AV) (v : AV) : Prop :=
  ∀ w, Below w0.heap.size w0 w → ∀ φ args', VRs φ args args' → InvR P (callFunc f args'.toArray) w (fun v' w' => (∀ φ, VR φ v v') ∧ Below w.heap.size w w')

/-- A value that leads nowhere. -/
def AV.flat : AV → Bool
  | .bool _ | .int _ _ | .str _ | .ptr none | .map none | .nilFunc | .nilIface | .slice none _ _ => true
  | _ => false
theorem VR.flat {φ φ' : Emb} {v : AV} {v' : Value} (h : VR φ v v') (hf : v.flat = true) : VR φ' v v' := by
  cases h <;> first | exact VR.bool _ | exact VR.int _ _ | exact VR.str _ | exact VR.ptrN | exact VR.mapN | exact VR.nilFunc | exact VR.nilIface | exact VR.sliceN _ _ | cases hf
theorem VRs.flat {φ φ' : Emb} : ∀ {l : List AV} {l' : List Value}, VRs φ l l' → l.all AV.flat = true → VRs φ' l l'
  | _, _, .nil, _ => .nil
  | _, _, .cons h t, hf => by
    simp only [List.all_cons, Bool.and_eq_true] at hf
    exact .cons (h.flat hf.1) (t.flat hf.2)

/-- 'X': contracts. 'Z': functions that are run by themselves, with an empty memory; what they made is forgotten. 'g': the number of the program's variables. -/
def callX (X : FuncId → List AV → Option AV) (Z : FuncId → Bool) (g : Nat) (F : FuncId → Option AFunc) (fuel : Nat) : Nat → CallF
  | 0, _, _, _ => none
  | d + 1, f, args, m =>
    match X f args with
    | some v => some (v, m)
    | none =>
      match Z f with
      | true => if args.all AV.flat then (match callStep F fuel (callX X Z g F fuel d) f args ⟨.e, g⟩ with
        | some (v, _) => if v.flat then some (v, m) else none
        | none => none) else none
      | false => callStep F fuel (callX X Z g F fuel d) f args m

theorem Rel.of_below (hR : Rel P w0 B φ m w) {w' : World} (h : Below w.heap.size w w') : Rel P w0 B φ m w' where
  live := fun b o h1 h2 => by
    obtain ⟨e, o', g1, g2, g3⟩ := hR.live b o h1 h2
    refine ⟨e, o', g1, ?_, g3⟩
    rw [h.block e.C (by
      rcases Nat.lt_or_ge e.C w.heap.size with hl | hl
      · exact hl
      · rw [Array.getElem?_eq_none hl] at g2; cases g2)]
    exact g2
  own := hR.own
  apart := hR.apart
  below := hR.below.trans ⟨h.os, h.tape, h.output, h.size, fun k hk => h.block k (Nat.lt_of_lt_of_le hk hR.hB)⟩
  hB := Nat.le_trans hR.hB h.size
  fresh := hR.fresh

theorem InvR.mono {s : Sem Next} {w : World} {R R' : Value → World → Prop} (h : InvR P s w R) (hr : ∀ v w', R v w' → R' v w') : InvR P s w R' := by
  have ho : ∀ e w'', onlyV R e w'' → onlyV R' e w'' := fun e w'' he => by
    cases e with
    | returned u => exact hr _ _ he
    | panicked _ => exact he.elim
    | outgrown => exact he.elim
  rcases h with ⟨v', w', h1, h2⟩ | ⟨g, as, w', h1, h2⟩ | ⟨l, g, tmps, as, bd, w', h1, h2⟩
  · exact .inl ⟨v', w', h1, hr _ _ h2⟩
  · exact .inr (.inl ⟨g, as, w', h1, h2.mono ho⟩)
  · exact .inr (.inr ⟨l, g, tmps, as, bd, w', h1, h2.mono ho⟩)

theorem callX_nx {X : FuncId → List AV → Option AV} {Z : FuncId → Bool} {g : Nat} {F : FuncId → Option AFunc} {fuel : Nat} : ∀ (d : Nat), MonC (callX X Z g F fuel d)
  | 0 => fun f args m v m' h => by simp [callX] at h
  | d + 1 => fun f args m v m' h => by
    simp only [callX] at h
    split at h
    · cases h; exact Nat.le_refl _
    · split at h
      · split at h
        · split at h
          · split at h
            · cases h; exact Nat.le_refl _
            · cases h
          · cases h
        · cases h
      · exact step_nx (callX_nx d) f args m v m' h

theorem callX_sound (hfol : P.follows .mixedOrders = true) {X : FuncId → List AV → Option AV} (hX : ∀ f args v, X f args = some v → ConS P w0 f args v) {Z : FuncId → Bool} {F : FuncId → Option AFunc} (hF : ∀ f a, F f = some a → ∃ fn, P.funcs[f]? = some fn ∧ cFunc P fn = some a ∧ (fn.name == "runtime.NumGoroutine") = false) {fuel : Nat} :
    ∀ (d : Nat) (w1 : World) (B : Nat), Below w0.heap.size w0 w1 → w0.heap.size ≤ B → CallS P w1 B (callX X Z P.globals.size F fuel d)
  | 0, _, _, _, _ => fun f args m v m' h => by simp [callX] at h
  | d + 1, w1, B, hb1, hB1 => by
    intro f args m v m' h φ w args' hG hR hargs hroom
    have hbw : Below w0.heap.size w0 w := hb1.trans ⟨hR.below.os, hR.below.tape, hR.below.output, hR.below.size, fun k hk => hR.below.block k (Nat.lt_of_lt_of_le hk hB1)⟩
    simp only [callX] at h
    split at h
    · rename_i u hu
      cases h
      refine (hX f args _ hu w hbw φ args' hargs).mono fun v' w' ⟨h1, h2⟩ => ?_
      exact ⟨φ, h1 φ, Gr.refl _ _, hR.of_below h2, h2.size, fun C hC _ => h2.block C hC, fun b o e g1 g2 g3 => .inl ⟨b, o, e, g1, g2, g3, rfl⟩⟩
    · split at h
      · split at h
        · rename_i hfl
          split at h
          · rename_i u mu hu
            split at h
            · rename_i hv
              obtain ⟨rfl, rfl⟩ : u = v ∧ m = m' := by simpa using h
              have hbs : w0.heap.size ≤ w.heap.size := Nat.le_trans hB1 hR.hB
              have := step_sound (w0 := w) (B := w.heap.size) hfol ext_sound hF (callX_sound hfol hX hF (Z := Z) (fuel := fuel) d w w.heap.size hbw hbs) (callX_nx d) f args ⟨.e, P.globals.size⟩ u mu hu (emb0 P) w args' glob0 (rel0 w) (hargs.flat hfl) (room0 _)
              refine this.mono fun v' w' ⟨φ', g1, _, g3, _⟩ => ?_
              have h2 : Below w.heap.size w w' := g3.below
              exact ⟨φ, g1.flat hv, Gr.refl _ _, hR.of_below h2, h2.size, fun C hC _ => h2.block C hC, fun b o e g1 g2 g3 => .inl ⟨b, o, e, g1, g2, g3, rfl⟩⟩
            · cases h
          · cases h
        · cases h
      · exact step_sound hfol ext_sound hF (callX_sound hfol hX hF (Z := Z) (fuel := fuel) d w1 B hb1 hB1) (callX_nx d) f args m v m' h φ w args' hG hR hargs hroom

/-- A call whose answer our interpreter finds, with contracts. -/
theorem closed_callX (hfol : P.follows .mixedOrders = true) {w0 : World} {X : FuncId → List AV → Option AV} (hX : ∀ f args v, X f args = some v → ConS P w0 f args v) {Z : FuncId → Bool} {F : FuncId → Option AFunc} (hF : ∀ f a, F f = some a → ∃ fn, P.funcs[f]? = some fn ∧ cFunc P fn = some a ∧ (fn.name == "runtime.NumGoroutine") = false) {fuel d : Nat} {f : FuncId} {args : List AV} {args' : List Value} {v : AV} {m' : Me}
    (h : callX X Z P.globals.size F fuel d f args ⟨.e, P.globals.size⟩ = some (v, m')) (w : World) (hw : Below w0.heap.size w0 w) (ha : VRs (emb0 P) args args') : InvR P (callFunc f args'.toArray) w (fun v' w' => (∃ φ', VR φ' v v') ∧ Below w.heap.size w w') :=
  (callX_sound hfol hX hF (Z := Z) (fuel := fuel) d w w.heap.size hw hw.size f args ⟨.e, P.globals.size⟩ v m' h (emb0 P) w args' glob0 (rel0 w) ha (room0 _)).mono fun _ _ ⟨φ', h2, _, h4, _⟩ => ⟨⟨φ', h2⟩, h4.below⟩

theorem con_of_callX (hfol : P.follows .mixedOrders = true) {w0 : World} {X : FuncId → List AV → Option AV} (hX : ∀ f args v, X f args = some v → ConS P w0 f args v) {Z : FuncId → Bool} {F : FuncId → Option AFunc} (hF : ∀ f a, F f = some a → ∃ fn, P.funcs[f]? = some fn ∧ cFunc P fn = some a ∧ (fn.name == "runtime.NumGoroutine") = false) {fuel d : Nat} {f : FuncId} {args : List AV} {v : AV} {m' : Me}
    (h : callX X Z P.globals.size F fuel d f args ⟨.e, P.globals.size⟩ = some (v, m')) (ha : args.all AV.flat = true) (hv : v.flat = true) : ConS P w0 f args v := fun w hw _ _ hargs =>
  (closed_callX hfol hX hF h w hw (hargs.flat ha)).mono fun _ _ ⟨⟨_, h1⟩, h2⟩ => ⟨fun _ => h1.flat hv, h2⟩

/-- A call that is known by 'Calls' (a contract of the library's, say). -/
theorem con_of_calls {f : FuncId} {fn : Func} {args : List AV} {v : AV} (hf : P.funcs[f]? = some fn) (hb : fn.body.isSome = true) (hn : (fn.name == "runtime.NumGoroutine") = false)
    (h : ∀ w, Below w0.heap.size w0 w → ∀ φ args', VRs φ args args' → Calls P f args'.toArray w (fun e w' => (∃ v', e = .returned v' ∧ ∀ φ, VR φ v v') ∧ Below w.heap.size w w')) : ConS P w0 f args v := by
  intro w hw φ args' ha
  have hname : fn.name ≠ "runtime.NumGoroutine" := by simpa using hn
  obtain ⟨c, hc⟩ := Option.isSome_iff_exists.1 hb
  refine .inr (.inl ⟨f, args'.toArray, w, by simp [callFunc, hf, hname, hc], ?_⟩)
  refine (callsIn_wide.2 (h w hw φ args' ha)).mono fun e w' ⟨⟨v', he, h1⟩, h2⟩ => ?_
  subst he
  exact ⟨h1, h2⟩

end Go.Den

/- A second evaluator, equal to the first one: each piece of code is looked at once; frames and blocks are gone through by paths; what is stored is a value in whole. -/
namespace Go.Den
open Go

/-! ## Paths -/
inductive Pth where
  | z
  | l (p : Pth)
  | r (p : Pth)

def pthF : Nat → Nat → Pth
  | 0, _ => .z
  | f + 1, k =>
    match k with
    | 0 => .z
    | k' + 1 => match k' % 2 with
      | 0 => .l (pthF f (k' / 2))
      | _ + 1 => .r (pthF f (k' / 2))

def pth (k : Nat) : Pth := pthF (k + 1) k

noncomputable def getP {α : Type} (p : Pth) : T α → Option α :=
  Pth.rec (motive := fun _ => T α → Option α)
    (fun t => T.rec (motive := fun _ => Option α) none (fun _ v _ _ _ => v) t)
    (fun _ ih t => T.rec (motive := fun _ => Option α) none (fun l _ _ _ _ => ih l) t)
    (fun _ ih t => T.rec (motive := fun _ => Option α) none (fun _ _ r _ _ => ih r) t) p

noncomputable def forceT {α β : Type} (t : T α) : (T α → β) → β :=
  T.rec (motive := fun _ => (T α → β) → β) (fun κ => κ .e) (fun l v r _ _ κ => κ (.n l v r)) t

noncomputable def setP {α : Type} (x : Option α) (p : Pth) : T α → T α :=
  Pth.rec (motive := fun _ => T α → T α)
    (fun t => T.rec (motive := fun _ => T α) (.n .e x .e) (fun l _ r _ _ => .n l x r) t)
    (fun _ ih t => T.rec (motive := fun _ => T α) (forceT (ih .e) fun l => .n l none .e) (fun l v r _ _ => forceT (ih l) fun l => .n l v r) t)
    (fun _ ih t => T.rec (motive := fun _ => T α) (forceT (ih .e) fun r => .n .e none r) (fun l v r _ _ => forceT (ih r) fun r => .n l v r) t) p

@[simp] theorem forceT_eq {α β : Type} (t : T α) (κ : T α → β) : forceT t κ = κ t := by cases t <;> rfl

theorem getP_eq {α : Type} : ∀ (f k : Nat) (t : T α), k < f → getP (pthF f k) t = t.get k
  | 0, k, t, h => by omega
  | f + 1, 0, t, _ => by cases t <;> rfl
  | f + 1, k + 1, t, h => by
    simp only [pthF]
    rcases Nat.mod_two_eq_zero_or_one k with h2 | h2
    · rw [h2]
      cases t with
      | e => rfl
      | n l v r => simp only [T.get]; rw [h2]; exact getP_eq f (k / 2) l (by omega)
    · rw [h2]
      cases t with
      | e => rfl
      | n l v r => simp only [T.get]; rw [h2]; exact getP_eq f (k / 2) r (by omega)

theorem setP_eq {α : Type} (x : Option α) : ∀ (f g k : Nat) (t : T α), k < f → k < g → setP x (pthF f k) t = T.setF g t k x
  | 0, _, k, t, h, _ => by omega
  | _, 0, k, t, _, h => by omega
  | f + 1, g + 1, 0, t, _, _ => by cases t <;> rfl
  | f + 1, g + 1, k + 1, t, h, h' => by
    simp only [pthF, T.setF]
    rcases Nat.mod_two_eq_zero_or_one k with h2 | h2
    · rw [h2]
      show setP x (.l _) t = _
      cases t with
      | e => show forceT _ _ = _; rw [forceT_eq]; show T.n (setP x (pthF f (k / 2)) .e) _ _ = _; rw [setP_eq x f g (k / 2) .e (by omega) (by omega)]; rfl
      | n l v r => show forceT _ _ = _; rw [forceT_eq]; show T.n (setP x (pthF f (k / 2)) l) _ _ = _; rw [setP_eq x f g (k / 2) l (by omega) (by omega)]; rfl
    · rw [h2]
      show setP x (.r _) t = _
      cases t with
      | e => show forceT _ _ = _; rw [forceT_eq]; show T.n _ _ (setP x (pthF f (k / 2)) .e) = _; rw [setP_eq x f g (k / 2) .e (by omega) (by omega)]; rfl
      | n l v r => show forceT _ _ = _; rw [forceT_eq]; show T.n _ _ (setP x (pthF f (k / 2)) r) = _; rw [setP_eq x f g (k / 2) r (by omega) (by omega)]; rfl

@[simp] theorem getP_pth {α : Type} (k : Nat) (t : T α) : getP (pth k) t = t.get k := getP_eq _ _ _ (Nat.lt_succ_self _)
@[simp] theorem setP_pth {α : Type} (x : α) (k : Nat) (t : T α) : setP (some x) (pth k) t = t.set k x := setP_eq _ _ _ _ _ (Nat.lt_succ_self _) (Nat.lt_succ_self _)

/-! ## Values in whole -/
noncomputable def forceN {β : Type} (n : Nat) : (Nat → β) → β :=
  Nat.rec (motive := fun _ => (Nat → β) → β) (fun κ => κ 0) (fun k _ κ => κ (Nat.succ k)) n
@[simp] theorem forceN_eq {β : Type} (n : Nat) (κ : Nat → β) : forceN n κ = κ n := by cases n <;> rfl

noncomputable def forceL {α β : Type} (l : List α) : (List α → β) → β :=
  List.rec (motive := fun _ => (List α → β) → β) (fun κ => κ []) (fun a _ ih κ => ih fun l => κ (a :: l)) l
@[simp] theorem forceL_eq {α β : Type} (l : List α) (κ : List α → β) : forceL l κ = κ l := by
  induction l generalizing κ with
  | nil => rfl
  | cons a l ih => show forceL l _ = _; rw [ih]

noncomputable def fInt (k : IntKind) (n : Int) : (AV → Bool) → Bool :=
  Int.rec (motive := fun _ => (AV → Bool) → Bool) (fun a κ => forceN a fun a => κ (.int k (.ofNat a))) (fun a κ => forceN a fun a => κ (.int k (.negSucc a))) n
noncomputable def fBool (b : Bool) : (AV → Bool) → Bool :=
  Bool.rec (motive := fun _ => (AV → Bool) → Bool) (fun κ => κ (.bool false)) (fun κ => κ (.bool true)) b
noncomputable def fPtr : Option (Nat × Nat) → (AV → Bool) → Bool
  | none => fun κ => κ (.ptr none)
  | some (b, i) => fun κ => forceN b fun b => forceN i fun i => κ (.ptr (some (b, i)))
noncomputable def fSlice : Option (Nat × Nat × Nat) → Nat → Nat → (AV → Bool) → Bool
  | none => fun n c κ => forceN n fun n => forceN c fun c => κ (.slice none n c)
  | some (b, i, z) => fun n c κ => forceN b fun b => forceN i fun i => forceN z fun z => forceN n fun n => forceN c fun c => κ (.slice (some (b, i, z)) n c)

noncomputable def forceV : AV → (AV → Bool) → Bool
  | .int k n => fInt k n
  | .bool b => fBool b
  | .str s => fun κ => forceL s fun s => κ (.str s)
  | .ptr a => fPtr a
  | .slice a n c => fSlice a n c
  | .agg cs => fun κ => forceL cs fun cs => κ (.agg cs)
  | .tuple cs => fun κ => forceL cs fun cs => κ (.tuple cs)
  | v => fun κ => κ v

@[simp] theorem forceV_eq (v : AV) (κ : AV → Bool) : forceV v κ = κ v := by
  cases v with
  | int k n => cases n <;> simp only [forceV, fInt, forceN_eq]
  | bool b => cases b <;> rfl
  | str s => simp only [forceV, forceL_eq]
  | ptr a => rcases a with _ | ⟨b, i⟩ <;> simp only [forceV, fPtr, forceN_eq]
  | slice a n c => rcases a with _ | ⟨b, i, z⟩ <;> simp only [forceV, fSlice, forceN_eq]
  | agg cs => simp only [forceV, forceL_eq]
  | tuple cs => simp only [forceV, forceL_eq]
  | _ => rfl

/-- 'o', and then 'κ'. -/
def bo {α : Type} (o : Option α) (κ : α → Bool) : Bool :=
  match o with
  | some v => κ v
  | none => false
noncomputable def bf (o : Option AV) : (AV → Bool) → Bool :=
  Option.rec (motive := fun _ => (AV → Bool) → Bool) (fun _ => false) (fun v => forceV v) o
@[simp] theorem bf_eq (o : Option AV) (κ : AV → Bool) : bf o κ = bo o κ := by
  cases o with
  | none => rfl
  | some v => exact forceV_eq v κ

/-- An answer with memory. -/
def b2 (o : Option (AV × Me)) (κ : AV → Me → Bool) : Bool :=
  match o with
  | some (v, m) => κ v m
  | none => false

/-! ## Operands -/
noncomputable def tmpK (p : Pth) (fr : T AV) (κ : AV → Bool) : Bool :=
  Option.rec (motive := fun _ => Bool) (κ .unk) (fun v => κ v) (getP p fr)
noncomputable def locK (t : Nat) (e : Env) : (AV → Bool) → Bool :=
  List.rec (motive := fun _ => (AV → Bool) → Bool) (fun κ => κ .unk)
    (fun kv _ ih => Prod.rec (motive := fun _ => (AV → Bool) → Bool) (fun k v κ => Bool.rec (motive := fun _ => Bool) (ih κ) (κ v) (Nat.beq k t)) kv) e

abbrev PK := Env → T AV → (AV → Bool) → Bool
/-- A piece of code that was looked at: what it does. -/
structure PW where
  run : PK

noncomputable def opdW (x : Opd) : PW :=
  match x with
  | .tmp t => ⟨fun _ => tmpK (pth t)⟩
  | .loc t => ⟨fun e _ => locK t e⟩
  | .const v => ⟨fun _ _ κ => κ v⟩
  | .global g => ⟨fun _ _ κ => κ (.ptr (some (g, 0)))⟩
  | .func f => ⟨fun _ _ κ => κ (.func (.func f) [] [])⟩
noncomputable def lookK (x : Opd) : PK := (opdW x).run

theorem locK_eq (t : Nat) : ∀ (e : Env) (κ : AV → Bool), locK t e κ = κ (e.get t)
  | [], κ => rfl
  | (k, v) :: e, κ => by
    show Bool.rec (motive := fun _ => Bool) (locK t e κ) (κ v) (Nat.beq k t) = _
    rw [locK_eq t e]
    simp only [Env.get]
    cases h : Nat.beq k t with
    | false => rw [if_neg (by rw [← Nat.beq_eq, h]; simp)]
    | true => rw [if_pos (Nat.eq_of_beq_eq_true h)]

@[simp] theorem lookK_eq (x : Opd) (e : Env) (fr : T AV) (κ : AV → Bool) : lookK x e fr κ = κ (look e fr x) := by
  cases x with
  | tmp t => simp only [lookK, opdW, tmpK, getP_pth, look]; cases fr.get t <;> rfl
  | loc t => exact locK_eq t e κ
  | _ => rfl

noncomputable def lookKs : List Opd → Env → T AV → (List AV → Bool) → Bool
  | [] => fun _ _ κ => κ []
  | x :: l => fun e fr κ => lookK x e fr fun v => lookKs l e fr fun vs => κ (v :: vs)
@[simp] theorem lookKs_eq (e : Env) (fr : T AV) : ∀ (l : List Opd) (κ : List AV → Bool), lookKs l e fr κ = κ (l.map (look e fr))
  | [], κ => rfl
  | x :: l, κ => by simp only [lookKs, lookK_eq, lookKs_eq e fr l, List.map_cons]

noncomputable def un1 (f : AV → Option AV) (x : Opd) : PK := fun e fr κ => lookK x e fr fun v => bf (f v) κ
noncomputable def un2 (f : AV → AV → Option AV) (x y : Opd) : PK := fun e fr κ => lookK x e fr fun v => lookK y e fr fun u => bf (f v u) κ
noncomputable def bs (o : Option AV) : (AV → Bool) → Bool :=
  Option.rec (motive := fun _ => (AV → Bool) → Bool) (fun _ => false) (fun v κ => κ v) o
@[simp] theorem bs_eq (o : Option AV) (κ : AV → Bool) : bs o κ = bo o κ := by cases o <;> rfl
/-- Of an answer that lies there in whole. -/
noncomputable def un0 (f : AV → Option AV) (x : Opd) : PK := fun e fr κ => lookK x e fr fun v => bs (f v) κ
@[simp] theorem un0_eq (f : AV → Option AV) (x : Opd) (e : Env) (fr : T AV) (κ : AV → Bool) : un0 f x e fr κ = bo (f (look e fr x)) κ := by simp only [un0, lookK_eq, bs_eq]
@[simp] theorem un1_eq (f : AV → Option AV) (x : Opd) (e : Env) (fr : T AV) (κ : AV → Bool) : un1 f x e fr κ = bo (f (look e fr x)) κ := by simp only [un1, lookK_eq, bf_eq]
@[simp] theorem un2_eq (f : AV → AV → Option AV) (x y : Opd) (e : Env) (fr : T AV) (κ : AV → Bool) : un2 f x y e fr κ = bo (f (look e fr x) (look e fr y)) κ := by simp only [un2, lookK_eq, bf_eq]

/-! ## Numbers -/
inductive IR where
  | no
  | yes (k : IntKind) (n : Int)
def asInt : AV → IR
  | .int k n => .yes k n
  | _ => .no
inductive BR where
  | no | t | f
noncomputable def asBR : Bool → BR := fun b => Bool.rec (motive := fun _ => BR) .f .t b
noncomputable def asBool : AV → BR
  | .bool b => asBR b
  | _ => .no
inductive PR where
  | no
  | yes (b i : Nat)
def asPtr : AV → PR
  | .ptr (some (b, i)) => .yes b i
  | _ => .no

def kn : IntKind → Nat
  | .i8 => 0 | .i16 => 1 | .i32 => 2 | .i64 => 3 | .u8 => 4 | .u16 => 5 | .u32 => 6 | .u64 => 7
theorem kn_eq (j k : IntKind) : Nat.beq (kn j) (kn k) = decide (j = k) := by cases j <;> cases k <;> rfl

/-- The numbers below it, 0 and up, are of the kind. -/
def kl : IntKind → Nat
  | .i8 => 128 | .i16 => 32768 | .i32 => 2147483648 | .i64 => 9223372036854775808 | .u8 => 256 | .u16 => 65536 | .u32 => 4294967296 | .u64 => 18446744073709551616

noncomputable def wrapK (k : IntKind) (n : Int) : Int :=
  Int.rec (motive := fun _ => Int) (fun a => Bool.rec (motive := fun _ => Int) (k.wrap (.ofNat a)) (.ofNat a) (Nat.ble (Nat.succ a) (kl k))) (fun a => k.wrap (.negSucc a)) n
theorem wrapK_eq (k : IntKind) (n : Int) : wrapK k n = k.wrap n := by
  cases n with
  | negSucc a => rfl
  | ofNat a =>
    show Bool.rec (motive := fun _ => Int) (k.wrap (.ofNat a)) (.ofNat a) (Nat.ble (Nat.succ a) (kl k)) = _
    cases h : Nat.ble (Nat.succ a) (kl k) with
    | false => rfl
    | true =>
      have h2 : a < kl k := Nat.le_of_ble_eq_true h
      show (Int.ofNat a) = _
      unfold IntKind.wrap
      have e1 : (Int.ofNat a) = (a : Int) := rfl
      rw [e1]
      cases k <;> simp [kl, IntKind.bits, IntKind.signed] at h2 ⊢ <;> omega

noncomputable def addI (x y : Int) : Int :=
  Int.rec (motive := fun _ => Int) (fun a => Int.rec (motive := fun _ => Int) (fun b => .ofNat (Nat.add a b)) (fun b => .ofNat a + .negSucc b) y) (fun a => .negSucc a + y) x
theorem addI_eq (x y : Int) : addI x y = x + y := by cases x <;> cases y <;> rfl
noncomputable def subI (x y : Int) : Int :=
  Int.rec (motive := fun _ => Int) (fun a => Int.rec (motive := fun _ => Int) (fun b => Bool.rec (motive := fun _ => Int) (Int.ofNat a - Int.ofNat b) (.ofNat (Nat.sub a b)) (Nat.ble b a)) (fun b => .ofNat a - .negSucc b) y) (fun a => .negSucc a - y) x
theorem subI_eq (x y : Int) : subI x y = x - y := by
  cases x with
  | negSucc a => rfl
  | ofNat a =>
    cases y with
    | negSucc b => rfl
    | ofNat b =>
      show Bool.rec (motive := fun _ => Int) (Int.ofNat a - Int.ofNat b) (.ofNat (Nat.sub a b)) (Nat.ble b a) = _
      cases h : Nat.ble b a with
      | false => rfl
      | true =>
        have h2 : b ≤ a := Nat.le_of_ble_eq_true h
        show ((a - b : Nat) : Int) = (a : Int) - (b : Int)
        omega
noncomputable def leI (x y : Int) : Bool :=
  Int.rec (motive := fun _ => Bool) (fun a => Int.rec (motive := fun _ => Bool) (fun b => Nat.ble a b) (fun b => decide (Int.ofNat a ≤ .negSucc b)) y) (fun a => decide (.negSucc a ≤ y)) x
theorem leI_eq (x y : Int) : leI x y = decide (x ≤ y) := by
  cases x with
  | negSucc a => rfl
  | ofNat a =>
    cases y with
    | negSucc b => rfl
    | ofNat b =>
      show Nat.ble a b = decide ((a : Int) ≤ (b : Int))
      rw [Bool.eq_iff_iff]; simp
noncomputable def ltI (x y : Int) : Bool :=
  Int.rec (motive := fun _ => Bool) (fun a => Int.rec (motive := fun _ => Bool) (fun b => Nat.ble (Nat.succ a) b) (fun b => decide (Int.ofNat a < .negSucc b)) y) (fun a => decide (.negSucc a < y)) x
theorem ltI_eq (x y : Int) : ltI x y = decide (x < y) := by
  cases x with
  | negSucc a => rfl
  | ofNat a =>
    cases y with
    | negSucc b => rfl
    | ofNat b =>
      show Nat.ble (Nat.succ a) b = decide ((a : Int) < (b : Int))
      rw [Bool.eq_iff_iff]; simp; omega
noncomputable def eqI (x y : Int) : Bool :=
  Int.rec (motive := fun _ => Bool) (fun a => Int.rec (motive := fun _ => Bool) (fun b => Nat.beq a b) (fun _ => false) y) (fun a => Int.rec (motive := fun _ => Bool) (fun _ => false) (fun b => Nat.beq a b) y) x
theorem eqI_eq (x y : Int) : eqI x y = (x == y) := by
  cases x with
  | negSucc a =>
    cases y with
    | ofNat b => rfl
    | negSucc b => show Nat.beq a b = _; rw [Bool.eq_iff_iff]; simp
  | ofNat a =>
    cases y with
    | negSucc b => rfl
    | ofNat b => show Nat.beq a b = _; rw [Bool.eq_iff_iff]; simp; omega

noncomputable def arith (g : IntKind → Int → Int → Option AV) (s : AV → AV → Option AV) (x y : AV) : Option AV :=
  IR.rec (motive := fun _ => Option AV) (s x y) (fun k a => IR.rec (motive := fun _ => Option AV) (s x y) (fun k' b => Bool.rec (motive := fun _ => Option AV) none (g k a b) (Nat.beq (kn k) (kn k'))) (asInt y)) (asInt x)

theorem arith_eq {op : BinOp} {q : EqT} {g : IntKind → Int → Int → Option AV} (h1 : op ≠ .shl) (h2 : op ≠ .shr) (hg : ∀ k a b, g k a b = intBin op k a b) (x y : AV) : arith g (binV op q) x y = binV op q x y := by
  cases x <;> first
    | rfl
    | (cases y <;> first
        | rfl
        | (rename_i k a k' b
           show Bool.rec (motive := fun _ => Option AV) none (g k a b) (Nat.beq (kn k) (kn k')) = _
           rw [kn_eq, hg]
           by_cases h : k = k'
           · subst h
             rw [decide_eq_true rfl]
             cases op <;> first | exact absurd rfl h1 | exact absurd rfl h2 | simp [binV]
           · rw [decide_eq_false h]
             cases op <;> first | exact absurd rfl h1 | exact absurd rfl h2 | simp [binV, h]))

noncomputable def binF (op : BinOp) (q : EqT) : AV → AV → Option AV :=
  match op with
  | .add => arith (fun k a b => some (.int k (wrapK k (addI a b)))) (binV .add q)
  | .sub => arith (fun k a b => some (.int k (wrapK k (subI a b)))) (binV .sub q)
  | .eql => arith (fun _ a b => some (.bool (eqI a b))) (binV .eql q)
  | .neq => arith (fun _ a b => some (.bool (!eqI a b))) (binV .neq q)
  | .lss => arith (fun _ a b => some (.bool (ltI a b))) (binV .lss q)
  | .leq => arith (fun _ a b => some (.bool (leI a b))) (binV .leq q)
  | .gtr => arith (fun _ a b => some (.bool (ltI b a))) (binV .gtr q)
  | .geq => arith (fun _ a b => some (.bool (leI b a))) (binV .geq q)
  | op => binV op q

theorem binF_eq (op : BinOp) (q : EqT) (x y : AV) : binF op q x y = binV op q x y := by
  cases op <;> first
    | rfl
    | (refine arith_eq (by simp) (by simp) (fun k a b => ?_) x y
       simp only [intBin, wrapK_eq, addI_eq, subI_eq, eqI_eq, ltI_eq, leI_eq, bne, gt_iff_lt, ge_iff_le])

/-! ## What hangs on nothing but the operands -/
noncomputable def pickK (c a b : Opd) : PK := fun e fr κ => lookK c e fr fun v =>
  BR.rec (motive := fun _ => Bool) false (lookK a e fr κ) (lookK b e fr κ) (asBool v)

def i2iV (k : IntKind) (v : AV) : Option AV :=
  match v with
  | .int _ n => some (.int k (k.wrap n))
  | _ => none
noncomputable def i2iF (k : IntKind) (v : AV) : Option AV :=
  IR.rec (motive := fun _ => Option AV) none (fun _ n => some (.int k (wrapK k n))) (asInt v)

def nilV (v : AV) : Option AV :=
  match v with
  | .ptr (some a) => some (.ptr (some a))
  | .func (.func f) a b => some (.func (.func f) a b)
  | .func (.yield f) a b => some (.func (.yield f) a b)
  | .bool b => some (.bool b)
  | .slice a n c => some (.slice a n c)
  | .map r => some (.map r)
  | _ => none
def faV (off : Nat) (v : AV) : Option AV :=
  match v with
  | .ptr (some (b, i)) => some (.ptr (some (b, i + off)))
  | _ => none
def fdV (off : Nat) (n : Option Nat) (v : AV) : Option AV :=
  match v with
  | .agg cs => partOf cs off n
  | _ => none
def iaV (len z : Nat) (x i : AV) : Option AV :=
  match x with
  | .ptr (some (b, j)) => (idxOf i len).map fun k => .ptr (some (b, j + k * z))
  | _ => none
def isV (z : Nat) (x i : AV) : Option AV :=
  match x with
  | .slice (some (b, j, _)) len _ => (idxOf i len).map fun k => .ptr (some (b, j + k * z))
  | _ => none
def xaV (len z : Nat) (n : Option Nat) (x i : AV) : Option AV :=
  match x with
  | .agg cs => (idxOf i len).bind fun k => partOf cs (k * z) n
  | _ => none
def xsV (x i : AV) : Option AV :=
  match x with
  | .str s => (idxOf i s.length).bind fun k => (s[k]?).map fun b => .int .u8 b.toNat
  | _ => none
def exV (i : Nat) (x : AV) : Option AV :=
  match x with
  | .tuple vs => vs[i]?
  | _ => none
def lsV (x : AV) : Option AV :=
  match x with
  | .str s => some (.int .i64 s.length)
  | _ => none
def llV (x : AV) : Option AV :=
  match x with
  | .slice _ n _ => some (.int .i64 n)
  | _ => none

noncomputable def slowK (o : AOp) : PK := fun e fr κ => bf (pureV (look e fr) o) κ

noncomputable def binW (op : BinOp) (q : EqT) (x y : Opd) : PW :=
  match op with
  | .add => ⟨un2 (arith (fun k a b => some (.int k (wrapK k (addI a b)))) (binV .add q)) x y⟩
  | .sub => ⟨un2 (arith (fun k a b => some (.int k (wrapK k (subI a b)))) (binV .sub q)) x y⟩
  | .eql => ⟨un2 (arith (fun _ a b => some (.bool (eqI a b))) (binV .eql q)) x y⟩
  | .neq => ⟨un2 (arith (fun _ a b => some (.bool (!eqI a b))) (binV .neq q)) x y⟩
  | .lss => ⟨un2 (arith (fun _ a b => some (.bool (ltI a b))) (binV .lss q)) x y⟩
  | .leq => ⟨un2 (arith (fun _ a b => some (.bool (leI a b))) (binV .leq q)) x y⟩
  | .gtr => ⟨un2 (arith (fun _ a b => some (.bool (ltI b a))) (binV .gtr q)) x y⟩
  | .geq => ⟨un2 (arith (fun _ a b => some (.bool (leI b a))) (binV .geq q)) x y⟩
  | op => ⟨un2 (binV op q) x y⟩
theorem binW_eq (op : BinOp) (q : EqT) (x y : Opd) : binW op q x y = ⟨un2 (binF op q) x y⟩ := by cases op <;> rfl

noncomputable def convW (c : Cmp) (el : TypeId) (x : Opd) : PW :=
  match c with
  | .i2i k => ⟨un1 (i2iF k) x⟩
  | c => ⟨slowK (.conv c el x)⟩

noncomputable def fieldW (off : Nat) (n : Option Nat) (x : Opd) : PW :=
  match n with
  | none => ⟨un0 (fdV off none) x⟩
  | some n => ⟨un1 (fdV off (some n)) x⟩

noncomputable def pureW (o : AOp) : PW :=
  match o with
  | .val x => opdW x
  | .pick c a b => ⟨pickK c a b⟩
  | .nilCheck x => ⟨un1 nilV x⟩
  | .bin op q x y => binW op q x y
  | .un op x => ⟨un1 (unV op) x⟩
  | .conv c el x => convW c el x
  | .mkIface t x => ⟨un0 (fun v => some (.iface t v)) x⟩
  | .fieldAddr off x => ⟨un1 (faV off) x⟩
  | .field off n x => fieldW off n x
  | .idxArr len z x i => ⟨un2 (iaV len z) x i⟩
  | .idxSl z x i => ⟨un2 (isV z) x i⟩
  | .ixArr len z n x i => ⟨un2 (xaV len z n) x i⟩
  | .ixStr x i => ⟨un2 xsV x i⟩
  | .extract x i => ⟨un0 (exV i) x⟩
  | .lenStr x => ⟨un1 lsV x⟩
  | .lenSl x => ⟨un1 llV x⟩
  | o => ⟨slowK o⟩
noncomputable def pureK (o : AOp) : PK := (pureW o).run

theorem pickK_eq (c a b : Opd) (e : Env) (fr : T AV) (κ : AV → Bool) : pickK c a b e fr κ = bo (pureV (look e fr) (.pick c a b)) κ := by
  simp only [pickK, lookK_eq, pureV]
  cases look e fr c <;> first
    | rfl
    | (rename_i b; cases b <;> rfl)

theorem i2iF_eq (k : IntKind) (v : AV) : i2iF k v = i2iV k v := by
  cases v <;> first | rfl | (simp only [i2iF, asInt, i2iV, wrapK_eq])

theorem pureK_eq (o : AOp) (e : Env) (fr : T AV) (κ : AV → Bool) : pureK o e fr κ = bo (pureV (look e fr) o) κ := by
  cases o with
  | val x => exact lookK_eq x e fr κ
  | pick c a b => exact pickK_eq c a b e fr κ
  | bin op q x y => simp only [pureK, pureW, binW_eq, un2_eq, binF_eq]; rfl
  | conv c el x =>
    cases c with
    | i2i k => simp only [pureK, pureW, convW, un1_eq, i2iF_eq, pureV, i2iV]; cases look e fr x <;> rfl
    | _ => simp only [pureK, pureW, convW, slowK, bf_eq]
  | nilCheck x => simp only [pureK, pureW, un1_eq]; rfl
  | un op x => simp only [pureK, pureW, un1_eq]; rfl
  | mkIface t x => simp only [pureK, pureW, un0_eq]; rfl
  | fieldAddr off x => simp only [pureK, pureW, un1_eq]; rfl
  | field off n x => cases n <;> simp only [pureK, pureW, fieldW, un0_eq, un1_eq] <;> rfl
  | idxArr len z x i => simp only [pureK, pureW, un2_eq]; rfl
  | idxSl z x i => simp only [pureK, pureW, un2_eq]; rfl
  | ixArr len z n x i => simp only [pureK, pureW, un2_eq]; rfl
  | ixStr x i => simp only [pureK, pureW, un2_eq]; rfl
  | extract x i => simp only [pureK, pureW, un0_eq]; rfl
  | lenStr x => simp only [pureK, pureW, un1_eq]; rfl
  | lenSl x => simp only [pureK, pureW, un1_eq]; rfl
  | _ => simp only [pureK, pureW, convW, slowK, bf_eq]

end Go.Den
