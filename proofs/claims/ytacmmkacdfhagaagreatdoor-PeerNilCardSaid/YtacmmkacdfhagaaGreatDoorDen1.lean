/- The relation between the abstract interpreter's states and the model's worlds. -/
import Derived.Test.YtacmmkacdfhagaaGreatDoorDen0
import Derived.Below
import Derived.Laws.Cells
import Derived.RangeFuncRecord
import Derived.Laws.Entries
import Derived.Laws.Strings2

set_option linter.unusedSimpArgs false
set_option linter.unusedVariables false
set_option linter.unusedSectionVars false
set_option linter.deprecated false

namespace Go.Den
open Go Go.RowKit

/-! ## The trie -/
theorem T.get_setF {α : Type} : ∀ (f : Nat) (t : T α) (k : Nat) (x : Option α) (j : Nat), k < f → (T.setF f t k x).get j = if j = k then x else t.get j := by
  intro f
  induction f with
  | zero => intro t k x j h; omega
  | succ f ih =>
    intro t k x j hk
    have hl : ∀ i, t.left.get i = t.get (2 * i + 1) := by
      intro i; cases t with
      | e => simp [T.left, T.get]
      | n l v r => simp only [T.left, T.get]; rw [show 2 * i % 2 = 0 by omega, show 2 * i / 2 = i by omega]
    have hr : ∀ i, t.right.get i = t.get (2 * i + 2) := by
      intro i; cases t with
      | e => simp [T.right, T.get]
      | n l v r => simp only [T.right, T.get]; rw [show (2 * i + 1) % 2 = 1 by omega, show (2 * i + 1) / 2 = i by omega]
    have hv : t.val = t.get 0 := by cases t <;> rfl
    have split : ∀ j : Nat, j = 0 ∨ (∃ i, j = 2 * i + 1) ∨ (∃ i, j = 2 * i + 2) := by
      intro j
      rcases Nat.eq_zero_or_pos j with h | h
      · exact .inl h
      · rcases Nat.mod_two_eq_zero_or_one j with h2 | h2
        · exact .inr (.inr ⟨j / 2 - 1, by omega⟩)
        · exact .inr (.inl ⟨j / 2, by omega⟩)
    have gl : ∀ (l : T α) (v : Option α) (r : T α) i, (T.n l v r).get (2 * i + 1) = l.get i := by
      intro l v r i; simp only [T.get]; rw [show 2 * i % 2 = 0 by omega, show 2 * i / 2 = i by omega]
    have gr : ∀ (l : T α) (v : Option α) (r : T α) i, (T.n l v r).get (2 * i + 2) = r.get i := by
      intro l v r i; simp only [T.get]; rw [show (2 * i + 1) % 2 = 1 by omega, show (2 * i + 1) / 2 = i by omega]
    rcases split k with rfl | ⟨a, rfl⟩ | ⟨a, rfl⟩
    · simp only [T.setF]
      rcases split j with rfl | ⟨i, rfl⟩ | ⟨i, rfl⟩
      · simp [T.get]
      · rw [gl, hl]; simp
      · rw [gr, hr]; simp
    · simp only [T.setF]
      rw [show 2 * a % 2 = 0 by omega, show 2 * a / 2 = a by omega]
      rcases split j with rfl | ⟨i, rfl⟩ | ⟨i, rfl⟩
      · simp [T.get, hv]
      · simp only []; rw [gl, ih _ _ _ _ (by omega), hl]; by_cases h : i = a <;> simp [h]; intro h2; omega
      · simp only []; rw [gr, hr]; rw [if_neg (by omega)]
    · simp only [T.setF]
      rw [show (2 * a + 1) % 2 = 1 by omega, show (2 * a + 1) / 2 = a by omega]
      rcases split j with rfl | ⟨i, rfl⟩ | ⟨i, rfl⟩
      · simp [T.get, hv]
      · simp only []; rw [gl, hl]; rw [if_neg (by omega)]
      · simp only []; rw [gr, ih _ _ _ _ (by omega), hr]; by_cases h : i = a <;> simp [h]; intro h2; omega

theorem T.get_set {α : Type} (t : T α) (k : Nat) (x : α) (j : Nat) : (t.set k x).get j = if j = k then some x else t.get j :=
  T.get_setF _ _ _ _ _ (Nat.lt_succ_self _)

theorem T.get_puts {α : Type} : ∀ (l : List α) (t : T α) (i j : Nat), (t.puts i l).get j = if i ≤ j ∧ j < i + l.length then l[j - i]? else t.get j := by
  intro l
  induction l with
  | nil => intro t i j; simp only [T.puts, List.length_nil]; rw [if_neg (by omega)]
  | cons x l ih =>
    intro t i j
    simp only [T.puts]
    rw [ih, T.get_set]
    by_cases h : j = i
    · subst h; rw [if_neg (by omega), if_pos rfl, if_pos (by simp)]; simp
    · by_cases h2 : i + 1 ≤ j ∧ j < i + 1 + l.length
      · rw [if_pos h2, if_pos (by simp; omega), show j - i = (j - (i + 1)) + 1 by omega]; simp
      · rw [if_neg h2, if_neg h, if_neg (by simp; omega)]

@[simp] theorem T.get_e {α : Type} (k : Nat) : (T.e : T α).get k = none := by cases k <;> rfl

theorem Me.get_put (m : Me) (b : Nat) (o : Ob) (j : Nat) : (m.put b o).get j = if j = b then some o else m.get j := T.get_set _ _ _ _
theorem Me.get_new (m : Me) (o : Ob) (j : Nat) : (m.new o).get j = if j = m.nx then some o else m.get j := T.get_set _ _ _ _
@[simp] theorem Me.nx_put (m : Me) (b : Nat) (o : Ob) : (m.put b o).nx = m.nx := rfl
@[simp] theorem Me.nx_new (m : Me) (o : Ob) : (m.new o).nx = m.nx + 1 := rfl

/-! ## Values -/
/-- Where a block of ours lies: its block, its first cell there, how many cells it may take, how many an element of it has; is its end unknown to us? -/
structure E where
  C : Nat
  o : Nat
  K : Nat
  z : Nat
  opn : Bool

abbrev Emb := Nat → Option E

inductive FnR (φ : Emb) : Fn → Fn → Prop
  | func (f : FuncId) : FnR φ (.func f) (.func f)
  | yield {l : Nat} {e : E} (h : φ l = some e) : FnR φ (.yield l) (.yield e.C)

mutual
inductive VR (φ : Emb) : AV → Value → Prop
  | unk (v : Value) : VR φ .unk v
  | bool (b : Bool) : VR φ (.bool b) (.bool b)
  | int (k : IntKind) (n : Int) : VR φ (.int k n) (.int k n)
  | str (l : List UInt8) : VR φ (.str l) (.string ⟨⟨l⟩⟩)
  | ptrN : VR φ (.ptr none) (.pointer none)
  | ptr {b i : Nat} {e : E} (h : φ b = some e) : VR φ (.ptr (some (b, i))) (.pointer (some ⟨e.C, e.o + i, none⟩))
  | sliceN (n c : Nat) : VR φ (.slice none n c) (.slice none n c)
  | slice {b i z n c : Nat} {e : E} (h : φ b = some e) (ho : e.opn = false) : VR φ (.slice (some (b, i, z)) n c) (.slice (some ⟨e.C, e.o + i, none⟩) n c)
  | sliceO {b i z n c c' : Nat} {e : E} (h : φ b = some e) (ho : e.opn = true) (hz : z = e.z) (hc : c ≤ c') (hK : i + c' * e.z ≤ e.K) :
      VR φ (.slice (some (b, i, z)) n c) (.slice (some ⟨e.C, e.o + i, none⟩) n c')
  | sliceE {b i z c' : Nat} {e : E} {a : Addr} (h : φ b = some e) (ho : e.opn = true) (hz : z = e.z) (ha : c' = 0 ∨ ∃ i2, a = ⟨e.C, e.o + i2, none⟩ ∧ i2 + c' * e.z ≤ e.K) :
      VR φ (.slice (some (b, i, z)) 0 0) (.slice (some a) 0 c')
  | mapN : VR φ (.map none) (.map none)
  | map {r : Nat} {e : E} (h : φ r = some e) : VR φ (.map (some r)) (.map (some e.C))
  | func {f f' : Fn} {a b : List AV} {a' b' : Array Value} (hf : FnR φ f f') (ha : VRs φ a a'.toList) (hb : VRs φ b b'.toList) : VR φ (.func f a b) (.func f' a' b')
  | nilFunc : VR φ .nilFunc .nilFunc
  | iface (t : TypeId) {v : AV} {v' : Value} (h : VR φ v v') : VR φ (.iface t v) (.iface t v')
  | nilIface : VR φ .nilIface .nilIface
  | agg {cs : List AV} {cs' : Array Value} (h : VRs φ cs cs'.toList) : VR φ (.agg cs) (.agg cs')
  | tuple {cs : List AV} {cs' : Array Value} (h : VRs φ cs cs'.toList) : VR φ (.tuple cs) (.tuple cs')
inductive VRs (φ : Emb) : List AV → List Value → Prop
  | nil : VRs φ [] []
  | cons {v : AV} {v' : Value} {l : List AV} {l' : List Value} (h : VR φ v v') (t : VRs φ l l') : VRs φ (v :: l) (v' :: l')
end

def Le (φ φ' : Emb) : Prop := ∀ b e, φ b = some e → φ' b = some e
theorem Le.refl (φ : Emb) : Le φ φ := fun _ _ h => h
theorem Le.trans {a b c : Emb} (h : Le a b) (k : Le b c) : Le a c := fun x e hx => k x e (h x e hx)

theorem FnR.mono {φ φ' : Emb} (h : Le φ φ') {f f' : Fn} (r : FnR φ f f') : FnR φ' f f' := by
  cases r with
  | func f => exact .func f
  | yield hl => exact .yield (h _ _ hl)

mutual
theorem VR.mono {φ φ' : Emb} (h : Le φ φ') : ∀ {v : AV} {v' : Value}, VR φ v v' → VR φ' v v'
  | _, _, .unk v => .unk v
  | _, _, .bool b => .bool b
  | _, _, .int k n => .int k n
  | _, _, .str l => .str l
  | _, _, .ptrN => .ptrN
  | _, _, .ptr hb => .ptr (h _ _ hb)
  | _, _, .sliceN n c => .sliceN n c
  | _, _, .slice hb ho => .slice (h _ _ hb) ho
  | _, _, .sliceO hb ho hz hc hK => .sliceO (h _ _ hb) ho hz hc hK
  | _, _, .sliceE hb ho hz ha => .sliceE (h _ _ hb) ho hz ha
  | _, _, .mapN => .mapN
  | _, _, .map hb => .map (h _ _ hb)
  | _, _, .func hf ha hb => .func (hf.mono h) (VRs.mono h ha) (VRs.mono h hb)
  | _, _, .nilFunc => .nilFunc
  | _, _, .iface t hv => .iface t (VR.mono h hv)
  | _, _, .nilIface => .nilIface
  | _, _, .agg hs => .agg (VRs.mono h hs)
  | _, _, .tuple hs => .tuple (VRs.mono h hs)
theorem VRs.mono {φ φ' : Emb} (h : Le φ φ') : ∀ {l : List AV} {l' : List Value}, VRs φ l l' → VRs φ' l l'
  | _, _, .nil => .nil
  | _, _, .cons hv ht => .cons (VR.mono h hv) (VRs.mono h ht)
end

theorem VR.undef (φ : Emb) : VR φ .undef Go.undef := .tuple .nil

theorem VRs.length {φ : Emb} : ∀ {l : List AV} {l' : List Value}, VRs φ l l' → l'.length = l.length
  | _, _, .nil => rfl
  | _, _, .cons _ t => by simp [VRs.length t]

theorem VRs.get {φ : Emb} : ∀ {l : List AV} {l' : List Value}, VRs φ l l' → ∀ (i : Nat) (v : AV), l[i]? = some v → ∃ v', l'[i]? = some v' ∧ VR φ v v'
  | _, _, .nil, i, v, h => by simp at h
  | _, _, .cons hv t, 0, v, h => by simp at h; subst h; exact ⟨_, rfl, hv⟩
  | _, _, .cons _ t, i + 1, v, h => by simpa using VRs.get t i v (by simpa using h)

theorem VRs.append {φ : Emb} : ∀ {a : List AV} {a' : List Value} {b : List AV} {b' : List Value}, VRs φ a a' → VRs φ b b' → VRs φ (a ++ b) (a' ++ b')
  | _, _, _, _, .nil, h => h
  | _, _, _, _, .cons hv t, h => .cons hv (VRs.append t h)

theorem VRs.drop {φ : Emb} : ∀ {l : List AV} {l' : List Value}, VRs φ l l' → ∀ n, VRs φ (l.drop n) (l'.drop n)
  | _, _, h, 0 => h
  | _, _, .nil, _ + 1 => .nil
  | _, _, .cons _ t, n + 1 => VRs.drop t n

theorem VRs.take {φ : Emb} : ∀ {l : List AV} {l' : List Value}, VRs φ l l' → ∀ n, VRs φ (l.take n) (l'.take n)
  | _, _, _, 0 => .nil
  | _, _, .nil, _ + 1 => .nil
  | _, _, .cons hv t, n + 1 => .cons hv (VRs.take t n)

theorem VRs.set {φ : Emb} : ∀ {l : List AV} {l' : List Value}, VRs φ l l' → ∀ (i : Nat) {v : AV} {v' : Value}, VR φ v v' → VRs φ (l.set i v) (l'.set i v')
  | _, _, .nil, _, _, _, _ => .nil
  | _, _, .cons _ t, 0, _, _, h => .cons h t
  | _, _, .cons hv t, i + 1, _, _, h => .cons hv (VRs.set t i h)

theorem VRs.of_get {φ : Emb} : ∀ {l : List AV} {l' : List Value}, l.length = l'.length → (∀ (i : Nat) (v : AV) (v' : Value), l[i]? = some v → l'[i]? = some v' → VR φ v v') → VRs φ l l'
  | [], [], _, _ => .nil
  | v :: l, v' :: l', hl, h => .cons (h 0 v v' rfl rfl) (VRs.of_get (by simpa using hl) fun i u u' h1 h2 => h (i + 1) u u' (by simpa using h1) (by simpa using h2))
  | [], _ :: _, hl, _ => by simp at hl
  | _ :: _, [], hl, _ => by simp at hl

/-- What a value's cells are. -/
theorem VR.cells {φ : Emb} {v : AV} {v' : Value} (h : VR φ v v') (hk : v.cells.all AV.one = true) : VRs φ v.cells v'.cells.toList := by
  cases h with
  | agg hs => exact hs
  | unk v => simp [AV.cells, AV.one] at hk
  | tuple hs => simp [AV.cells, AV.one] at hk
  | _ => exact .cons (by constructor <;> assumption) .nil

theorem VR.oneCell {φ : Emb} {v : AV} {v' : Value} (h : VR φ v v') (hk : v.one = true) : v'.oneCell' = true := by
  cases h <;> simp_all [AV.one, Value.oneCell']

/-! ## Memory -/
def Ob.live : Ob → Prop
  | .dead => False
  | _ => True

def Ob.notRo : Ob → Prop
  | .cells _ _ _ _ .ro => False
  | .dead => False
  | _ => True

theorem Ob.notRo.live {o : Ob} (h : o.notRo) : o.live := by cases o <;> simp_all [Ob.notRo, Ob.live]

/-- No cell of a row from o on, K many, is frozen. -/
def Free (fz : Nat × Nat) (o K : Nat) : Prop := ∀ j, fz.1 ≤ j → j < fz.2 → o + K ≤ j

def MdR (P : Program) (e : E) (size : Nat) (el : TypeId) (cc : Array Value) (el' : TypeId) (fz : Nat × Nat) : Md → Prop
  | .own => e.opn = false ∧ e.o = 0 ∧ e.K = size ∧ cc.size = size ∧ el' = el ∧ Free fz e.o e.K
  | .open_ => e.opn = true ∧ el' = el ∧ sz P el = some e.z ∧ 0 < e.z ∧ Free fz e.o e.K
  | .froz => e.opn = true ∧ el' = el ∧ sz P el = some e.z ∧ 0 < e.z
  | .ro => e.opn = false

mutual
inductive MR (φ : Emb) : List (AV × AV × Nat) → List MapEntry → Prop
  | nil : MR φ [] []
  | cons {k v : AV} {n : Nat} {e : MapEntry} {l : List (AV × AV × Nat)} {l' : List MapEntry} (hk : VR φ k e.key) (hv : VR φ v e.val) (hb : e.born = n) (t : MR φ l l') : MR φ ((k, v, n) :: l) (e :: l')
end

inductive MapO (φ : Emb) : Option Nat → Option Nat → Prop
  | none : MapO φ none none
  | some {m : Nat} {e : E} (h : φ m = some e) : MapO φ (some m) (some e.C)

/-- What a jump out of a round is. -/
inductive JR : Option ACode → Option Code → Prop
  | none : JR none none
  | exit (i : Nat) : JR (some (.exit i)) (some (.exit i))
  | ret : JR (some .ret) (some .ret)

/-- The frame that we keep, and the model's temporaries. -/
def FrR (φ : Emb) (fr : T AV) (tmps : Array Value) : Prop := ∀ t v, fr.get t = some v → VR φ v (tmps.getD t Go.undef)

/-- Only kept slots are in the frame. -/
def FrK (K : Nat → Bool) (fr : T AV) : Prop := ∀ t v, fr.get t = some v → K t = true

structure LoopC (P : Program) (p : Lp) (l : Loop) (nt : Nat) (K : Nat → Bool) : Prop where
  assign : p.assign = cCode K P nt l.assign
  body : p.body = cCode K P nt l.body
  fk : FrK K p.fr
  ps : ∀ t, t ∈ p.params → t < nt ∧ K t = true

inductive OR (P : Program) (φ : Emb) (e : E) : Ob → Obj → Prop
  | cells {t : T AV} {size : Nat} {d : Option AV} {el : TypeId} {md : Md} {cc : Array Value} {el' : TypeId} {fz : Nat × Nat}
      (hc : ∀ i, i < size → ∃ v', cc[e.o + i]? = some v' ∧ ∀ v, (Ob.cells t size d el md).cell i = some v → VR φ v v')
      (hK : size ≤ e.K) (hs : e.o + e.K ≤ cc.size) (hm : MdR P e size el cc el' fz md) : OR P φ e (.cells t size d el md) (.cells cc el' fz)
  | map {es : List (AV × AV × Nat)} {es' : Array MapEntry} {clock : Nat} (h : MR φ es es'.toList) : OR P φ e (.map es clock) (.map es' clock)
  | siter (s : List UInt8) (pos : Nat) (ho : e.o = 0) : OR P φ e (.siter s pos) (.stringIter ⟨⟨s⟩⟩ pos)
  | miter {m m' : Option Nat} {since : Nat} {seen : List Nat} {last : Nat} (h : MapO φ m m') (ho : e.o = 0) : OR P φ e (.miter m since seen last) (.mapIter m' since seen.toArray last)
  | loop {p : Lp} {l : Loop} {nt : Nat} (hs : l.state = p.state) (hp : JR p.pend l.pending) (hr : FrR φ p.fr l.tmps) (hn : nt ≤ l.tmps.size) (hps : l.params.toList = p.params)
      {K : Nat → Bool} (hK : LoopC P p l nt K) : OR P φ e (.loop p) (.loop l)
  | dfr : OR P φ e (.dfr true) (.deferred (some []))
  | dfrN : OR P φ e (.dfr false) (.deferred none)

theorem FrR.mono {φ φ' : Emb} (h : Le φ φ') {fr : T AV} {tmps : Array Value} (r : FrR φ fr tmps) : FrR φ' fr tmps := fun t v hv => (r t v hv).mono h

theorem MR.mono {φ φ' : Emb} (h : Le φ φ') : ∀ {l : List (AV × AV × Nat)} {l' : List MapEntry}, MR φ l l' → MR φ' l l'
  | _, _, .nil => .nil
  | _, _, .cons hk hv hb t => .cons (hk.mono h) (hv.mono h) hb (MR.mono h t)

theorem OR.mono {P : Program} {φ φ' : Emb} {e : E} (h : Le φ φ') {o : Ob} {o' : Obj} (r : OR P φ e o o') : OR P φ' e o o' := by
  cases r with
  | cells hc hK hs hm => exact .cells (fun i hi => let ⟨v', h1, h2⟩ := hc i hi; ⟨v', h1, fun v hv => (h2 v hv).mono h⟩) hK hs hm
  | map hm => exact .map (hm.mono h)
  | siter s pos ho => exact .siter s pos ho
  | miter hm ho => exact .miter (by cases hm with | none => exact .none | some hx => exact .some (h _ _ hx)) ho
  | loop hs hp hr hn hps hK => exact .loop hs hp (hr.mono h) hn hps hK
  | dfr => exact .dfr
  | dfrN => exact .dfrN

structure Rel (P : Program) (w0 : World) (B : Nat) (φ : Emb) (m : Me) (w : World) : Prop where
  live : ∀ b o, m.get b = some o → o.live → ∃ e o', φ b = some e ∧ w.heap[e.C]? = some o' ∧ OR P φ e o o'
  own : ∀ b o e, m.get b = some o → o.notRo → φ b = some e → B ≤ e.C
  apart : ∀ b b' o o' e e', m.get b = some o → m.get b' = some o' → o.notRo → o'.live → φ b = some e → φ b' = some e' → e.C = e'.C → b = b'
  below : Below B w0 w
  hB : B ≤ w.heap.size
  fresh : ∀ b, m.nx ≤ b → m.get b = none

/-- What a step leaves alone. -/
structure Fr (φ : Emb) (m : Me) (w : World) (φ' : Emb) (m' : Me) (w' : World) : Prop where
  size : w.heap.size ≤ w'.heap.size
  keep : ∀ C, C < w.heap.size → (∀ b o e, m.get b = some o → o.live → φ b = some e → e.C ≠ C) → w'.heap[C]? = w.heap[C]?
  img : ∀ b o e, m'.get b = some o → o.live → φ' b = some e → (∃ b0 o0 e0, m.get b0 = some o0 ∧ o0.live ∧ φ b0 = some e0 ∧ e0.C = e.C) ∨ w.heap.size ≤ e.C

/-- How the embedding grows. -/
structure Gr (φ φ' : Emb) (a b : Nat) : Prop where
  le : Le φ φ'
  new : ∀ x, φ x = none → φ' x ≠ none → a ≤ x ∧ x < b
  ab : a ≤ b

def Room (φ : Emb) (a b : Nat) : Prop := ∀ x, a ≤ x → x < b → φ x = none

theorem Gr.refl (φ : Emb) (a : Nat) : Gr φ φ a a := ⟨Le.refl _, fun _ h k => absurd h k, Nat.le_refl _⟩
theorem Gr.trans {φ φ' φ'' : Emb} {a b c : Nat} (h : Gr φ φ' a b) (k : Gr φ' φ'' b c) : Gr φ φ'' a c :=
  ⟨h.le.trans k.le, fun x hx hx' => by
    by_cases hb : φ' x = none
    · have := k.new x hb hx'; exact ⟨Nat.le_trans h.ab this.1, this.2⟩
    · have := h.new x hx hb; exact ⟨this.1, Nat.lt_of_lt_of_le this.2 k.ab⟩, Nat.le_trans h.ab k.ab⟩
theorem Room.left {φ : Emb} {a b c : Nat} (h : Room φ a c) (hb : b ≤ c) : Room φ a b := fun x h1 h2 => h x h1 (Nat.lt_of_lt_of_le h2 hb)
theorem Room.right {φ φ' : Emb} {a b c : Nat} (h : Room φ a c) (g : Gr φ φ' a b) : Room φ' b c := fun x h1 h2 => by
  by_cases hx : φ' x = none
  · exact hx
  · have := g.new x (h x (Nat.le_trans g.ab h1) h2) hx; omega

theorem Fr.refl (φ : Emb) (m : Me) (w : World) : Fr φ m w φ m w := ⟨Nat.le_refl _, fun _ _ _ => rfl, fun b o e h1 h2 h3 => .inl ⟨b, o, e, h1, h2, h3, rfl⟩⟩
theorem Fr.trans {φ φ' φ'' : Emb} {m m' m'' : Me} {w w' w'' : World} (h : Fr φ m w φ' m' w') (k : Fr φ' m' w' φ'' m'' w'') : Fr φ m w φ'' m'' w'' where
  size := Nat.le_trans h.size k.size
  keep := fun C hC hn => by
    rw [k.keep C (Nat.lt_of_lt_of_le hC h.size) fun b o e h1 h2 h3 h4 => ?_, h.keep C hC hn]
    rcases h.img b o e h1 h2 h3 with ⟨b0, o0, e0, g1, g2, g3, g4⟩ | g
    · exact hn b0 o0 e0 g1 g2 g3 (g4.trans h4)
    · omega
  img := fun b o e h1 h2 h3 => by
    rcases k.img b o e h1 h2 h3 with ⟨b0, o0, e0, g1, g2, g3, g4⟩ | g
    · rcases h.img b0 o0 e0 g1 g2 g3 with ⟨b1, o1, e1, f1, f2, f3, f4⟩ | f
      · exact .inl ⟨b1, o1, e1, f1, f2, f3, f4.trans g4⟩
      · exact .inr (by omega)
    · exact .inr (Nat.le_trans h.size g)

end Go.Den

/- Steps of memory: a new block, a block that turns, a block that is given up. -/
namespace Go.Den
open Go Go.RowKit

variable {P : Program} {w0 : World} {B : Nat} {φ : Emb} {m : Me} {w : World}

/-- w' is w but for block C. -/
structure OnlyAt (C : Nat) (w w' : World) : Prop where
  os : w'.os = w.os
  tape : w'.tape = w.tape
  output : w'.output = w.output
  size : w'.heap.size = w.heap.size
  block : ∀ k, k ≠ C → w'.heap[k]? = w.heap[k]?

theorem OnlyAt.refl (C : Nat) (w : World) : OnlyAt C w w := ⟨rfl, rfl, rfl, rfl, fun _ _ => rfl⟩
theorem OnlyAt.trans {C : Nat} {a b c : World} (h : OnlyAt C a b) (k : OnlyAt C b c) : OnlyAt C a c :=
  ⟨k.os.trans h.os, k.tape.trans h.tape, k.output.trans h.output, k.size.trans h.size, fun i hi => (k.block i hi).trans (h.block i hi)⟩
theorem OnlyAt.setCell (w : World) (a : Addr) (v : Value) : OnlyAt a.block w (w.setCell a v) :=
  ⟨rfl, rfl, rfl, by simp [World.setCell], fun k hk => Below.heap_setCell _ _ _ _ hk⟩
theorem OnlyAt.putObj (w : World) (r : Nat) (o : Obj) : OnlyAt r w (w.putObj r o) :=
  ⟨rfl, rfl, rfl, by simp [World.putObj], fun k hk => by
    show (w.heap.setIfInBounds r o)[k]? = _
    rw [Array.getElem?_setIfInBounds_ne (Ne.symm hk)]⟩

theorem OnlyAt.below {C : Nat} {w w' : World} (h : OnlyAt C w w') (hb : Below B w0 w) (hC : B ≤ C) : Below B w0 w' :=
  hb.trans ⟨h.os, h.tape, h.output, by rw [h.size]; exact Nat.le_refl _, fun k hk => h.block k (by omega)⟩

theorem Rel.drew (h : Rel P w0 B φ m w) : Rel P w0 B φ m w.drew :=
  ⟨h.live, h.own, h.apart, h.below.drew, h.hB, h.fresh⟩
theorem Fr.drew (φ : Emb) (m : Me) (w : World) : Fr φ m w φ m w.drew :=
  ⟨Nat.le_refl _, fun _ _ _ => rfl, fun b o e h1 h2 h3 => .inl ⟨b, o, e, h1, h2, h3, rfl⟩⟩

theorem Rel.lt (h : Rel P w0 B φ m w) {b : Nat} {o : Ob} {e : E} (hb : m.get b = some o) (hl : o.live) (he : φ b = some e) : e.C < w.heap.size := by
  obtain ⟨e', o', h1, h2, _⟩ := h.live b o hb hl
  rw [he] at h1; cases h1
  exact (Array.getElem?_eq_some_iff.1 h2).1

theorem Rel.nx (h : Rel P w0 B φ m w) {b : Nat} {o : Ob} (hb : m.get b = some o) : b < m.nx := by
  by_cases hn : b < m.nx
  · exact hn
  · rw [h.fresh b (by omega)] at hb; cases hb

def upd (φ : Emb) (b : Nat) (e : E) : Emb := fun x => if x = b then some e else φ x
theorem upd_self (φ : Emb) (b : Nat) (e : E) : upd φ b e b = some e := by simp [upd]
theorem upd_le {φ : Emb} {b : Nat} (e : E) (h : φ b = none) : Le φ (upd φ b e) := fun x e' hx => by
  unfold upd; split
  · rename_i hb; rw [hb, h] at hx; cases hx
  · exact hx
theorem upd_gr {φ : Emb} {b c : Nat} (e : E) (h : φ b = none) (hc : c = b + 1) : Gr φ (upd φ b e) b c :=
  ⟨upd_le e h, fun x hx hn => by
    unfold upd at hn; split at hn
    · omega
    · exact absurd hx hn, by omega⟩

/-- A new block, whose place is C (its own new block, or the block of one that was given up: 'hC'). -/
theorem Rel.extend (h : Rel P w0 B φ m w) (hn : φ m.nx = none) (ob : Ob) (e : E) (w' : World) (o' : Obj)
    (hb : Below B w0 w') (hB : B ≤ w'.heap.size)
    (hC : ∀ b o f, m.get b = some o → o.live → φ b = some f → f.C ≠ e.C)
    (hsame : ∀ b o f, m.get b = some o → o.live → φ b = some f → w'.heap[f.C]? = w.heap[f.C]?)
    (hBe : ob.notRo → B ≤ e.C) (ho : w'.heap[e.C]? = some o') (hor : OR P (upd φ m.nx e) e ob o') : Rel P w0 B (upd φ m.nx e) (m.new ob) w' := by
  have hle := upd_le e hn
  have hne : ∀ {b o}, m.get b = some o → b ≠ m.nx := fun hb e' => by subst e'; rw [h.fresh _ (Nat.le_refl _)] at hb; cases hb
  have old : ∀ {b f}, b ≠ m.nx → upd φ m.nx e b = some f → φ b = some f := fun hb hf => by unfold upd at hf; rwa [if_neg hb] at hf
  refine ⟨?_, ?_, ?_, hb, hB, ?_⟩
  · intro b o hg hl
    rw [Me.get_new] at hg
    split at hg
    · rename_i e'; subst e'; cases hg
      exact ⟨e, o', upd_self _ _ _, ho, hor⟩
    · obtain ⟨f, o'', h1, h2, h3⟩ := h.live b o hg hl
      exact ⟨f, o'', hle _ _ h1, (hsame b o f hg hl h1).trans h2, h3.mono hle⟩
  · intro b o f hg hr hf
    rw [Me.get_new] at hg
    split at hg
    · rename_i e'; subst e'; cases hg
      rw [upd_self] at hf; cases hf; exact hBe hr
    · exact h.own b o f hg hr (old (hne hg) hf)
  · intro b b' o o' f f' hg hg' hr hl hf hf' hCC
    rw [Me.get_new] at hg hg'
    split at hg <;> split at hg'
    · omega
    · rename_i e1 e2; cases hg
      have h1 := old (hne hg') hf'
      subst e1
      rw [upd_self] at hf; cases hf
      exact absurd hCC.symm (hC b' o' f' hg' hl h1)
    · rename_i e1 e2; cases hg'
      have h1 := old (hne hg) hf
      subst e2
      rw [upd_self] at hf'; cases hf'
      exact absurd hCC (hC b o f hg hr.live h1)
    · exact h.apart b b' o o' f f' hg hg' hr hl (old (hne hg) hf) (old (hne hg') hf') hCC
  · intro b hb
    rw [Me.get_new]
    simp only [Me.nx_new] at hb
    rw [if_neg (by omega)]
    exact h.fresh b (by omega)

theorem Below.alloc' {w : World} (h : Below B w0 w) (hB : B ≤ w.heap.size) (o : Obj) : Below B w0 (w.alloc o) := h.alloc hB o

/-- A new block in new memory. -/
theorem Rel.alloc (h : Rel P w0 B φ m w) (hn : φ m.nx = none) (ob : Ob) (o' : Obj) (K z : Nat) (opn : Bool)
    (hor : OR P (upd φ m.nx ⟨w.heap.size, 0, K, z, opn⟩) ⟨w.heap.size, 0, K, z, opn⟩ ob o') :
    Rel P w0 B (upd φ m.nx ⟨w.heap.size, 0, K, z, opn⟩) (m.new ob) (w.alloc o') ∧ Gr φ (upd φ m.nx ⟨w.heap.size, 0, K, z, opn⟩) m.nx (m.new ob).nx ∧
      Fr φ m w (upd φ m.nx ⟨w.heap.size, 0, K, z, opn⟩) (m.new ob) (w.alloc o') := by
  have hlt : ∀ b o f, m.get b = some o → o.live → φ b = some f → f.C < w.heap.size := fun b o f h1 h2 h3 => h.lt h1 h2 h3
  refine ⟨h.extend hn ob _ _ o' (h.below.alloc h.hB o') (by simp; have := h.hB; omega) (fun b o f h1 h2 h3 => by have := hlt b o f h1 h2 h3; simp; omega)
      (fun b o f h1 h2 h3 => Below.heap_alloc _ _ _ (hlt b o f h1 h2 h3)) (fun _ => h.hB) (World.alloc_heap_new _ _) hor, upd_gr _ hn rfl, ?_⟩
  refine ⟨by simp, fun C hC _ => Below.heap_alloc _ _ _ hC, fun b o f hg hl hf => ?_⟩
  rw [Me.get_new] at hg
  by_cases hb : b = m.nx
  · subst hb; rw [upd_self] at hf; cases hf; exact .inr (Nat.le_refl _)
  · rw [if_neg hb] at hg
    unfold upd at hf; rw [if_neg hb] at hf
    exact .inl ⟨b, o, f, hg, hl, hf, rfl⟩

/-- A block that turns. -/
theorem Rel.put (h : Rel P w0 B φ m w) {b : Nat} {o ob : Ob} {e : E} {w' : World} {o' : Obj} (hg : m.get b = some o) (hr : o.notRo) (he : φ b = some e)
    (hw : OnlyAt e.C w w') (ho : w'.heap[e.C]? = some o') (hor : OR P φ e ob o') :
    Rel P w0 B φ (m.put b ob) w' ∧ Fr φ m w φ (m.put b ob) w' := by
  have hC := h.own b o e hg hr he
  refine ⟨⟨?_, ?_, ?_, hw.below h.below hC, by rw [hw.size]; exact h.hB, ?_⟩, ?_⟩
  · intro c oc hc hl
    rw [Me.get_put] at hc
    split at hc
    · rename_i e'; subst e'; cases hc; exact ⟨e, o', he, ho, hor⟩
    · rename_i hne
      obtain ⟨f, o'', h1, h2, h3⟩ := h.live c oc hc hl
      refine ⟨f, o'', h1, ?_, h3⟩
      rw [hw.block _ fun hCC => hne (h.apart b c o oc e f hg hc hr hl he h1 hCC.symm).symm]
      exact h2
  · intro c oc f hc hr' hf
    rw [Me.get_put] at hc
    split at hc
    · rename_i e'; subst e'; rw [he] at hf; cases hf; exact hC
    · exact h.own c oc f hc hr' hf
  · intro c c' oc oc' f f' hc hc' hr' hl' hf hf' hCC
    rw [Me.get_put] at hc hc'
    split at hc <;> split at hc'
    · omega
    · rename_i e1 _; subst e1
      exact h.apart c c' o oc' f f' hg hc' hr hl' hf hf' hCC
    · rename_i _ e1; subst e1
      exact (h.apart c' c o oc f' f hg hc hr hr'.live hf' hf hCC.symm).symm
    · exact h.apart c c' oc oc' f f' hc hc' hr' hl' hf hf' hCC
  · intro c hc
    rw [Me.get_put]
    have := h.nx hg
    simp only [Me.nx_put] at hc
    rw [if_neg (by omega)]
    exact h.fresh c hc
  · refine ⟨by rw [hw.size]; exact Nat.le_refl _, fun C hC' hn => hw.block C fun e' => hn b o e hg hr.live he e'.symm, fun c oc f hc hl hf => ?_⟩
    rw [Me.get_put] at hc
    split at hc
    · rename_i e'; subst e'; exact .inl ⟨c, o, f, hg, hr.live, hf, rfl⟩
    · exact .inl ⟨c, oc, f, hc, hl, hf, rfl⟩

/-- The same without a turn of the world. -/
theorem Rel.put' (h : Rel P w0 B φ m w) {b : Nat} {o ob : Ob} {e : E} {o' : Obj} (hg : m.get b = some o) (hr : o.notRo) (he : φ b = some e)
    (ho : w.heap[e.C]? = some o') (hor : OR P φ e ob o') : Rel P w0 B φ (m.put b ob) w ∧ Fr φ m w φ (m.put b ob) w :=
  h.put hg hr he (OnlyAt.refl _ _) ho hor

/-- A block that is given up. -/
theorem Rel.dead (h : Rel P w0 B φ m w) {b : Nat} {o : Ob} (hg : m.get b = some o) : Rel P w0 B φ (m.put b .dead) w := by
  refine ⟨?_, ?_, ?_, h.below, h.hB, ?_⟩
  · intro c oc hc hl
    rw [Me.get_put] at hc
    split at hc
    · cases hc; exact hl.elim
    · exact h.live c oc hc hl
  · intro c oc f hc hr' hf
    rw [Me.get_put] at hc
    split at hc
    · cases hc; exact hr'.elim
    · exact h.own c oc f hc hr' hf
  · intro c c' oc oc' f f' hc hc' hr' hl' hf hf' hCC
    rw [Me.get_put] at hc hc'
    split at hc
    · cases hc; exact hr'.elim
    · split at hc'
      · cases hc'; exact hl'.elim
      · exact h.apart c c' oc oc' f f' hc hc' hr' hl' hf hf' hCC
  · intro c hc
    rw [Me.get_put]
    have := h.nx hg
    simp only [Me.nx_put] at hc
    rw [if_neg (by omega)]
    exact h.fresh c hc

/-! ## Cells -/
theorem add_off (C o n : Nat) : (⟨C, o, none⟩ : Addr).add n = ⟨C, o + n, none⟩ := by unfold Addr.add; split <;> simp_all

theorem cell_of {C : Nat} {cc : Array Value} {el : TypeId} {fz : Nat × Nat} (h : w.heap[C]? = some (.cells cc el fz)) (i : Nat) : w.cell? ⟨C, i, none⟩ = cc[i]? := by
  simp [World.cell?, h]

theorem frozen_of {C : Nat} {cc : Array Value} {el : TypeId} {fz : Nat × Nat} (h : w.heap[C]? = some (.cells cc el fz)) (i : Nat) : w.frozen? ⟨C, i, none⟩ = (decide (fz.1 ≤ i) && decide (i < fz.2)) := by
  obtain ⟨a, b⟩ := fz
  simp [World.frozen?, h]

theorem free_frozen {C : Nat} {cc : Array Value} {el : TypeId} {fz : Nat × Nat} {o K : Nat} (h : w.heap[C]? = some (.cells cc el fz)) (hf : Free fz o K) {i : Nat} (hi : i < o + K) :
    w.frozen? ⟨C, i, none⟩ = false := by
  rw [frozen_of h]
  by_cases h1 : fz.1 ≤ i <;> by_cases h2 : i < fz.2 <;> simp [h1, h2]
  have := hf i h1 h2; omega

/-- The cells of an array from i on set to others. -/
def putA (cc : Array Value) : Nat → List Value → Array Value
  | _, [] => cc
  | i, v :: vs => putA (cc.setIfInBounds i v) (i + 1) vs

@[simp] theorem putA_size : ∀ (vs : List Value) (cc : Array Value) (i : Nat), (putA cc i vs).size = cc.size
  | [], _, _ => rfl
  | _ :: vs, cc, i => by rw [putA, putA_size vs]; simp

theorem putA_get : ∀ (vs : List Value) (cc : Array Value) (i j : Nat), i + vs.length ≤ cc.size → (putA cc i vs)[j]? = if i ≤ j ∧ j < i + vs.length then vs[j - i]? else cc[j]?
  | [], cc, i, j, _ => by simp only [putA, List.length_nil]; rw [if_neg (by omega)]
  | v :: vs, cc, i, j, h => by
    simp only [List.length_cons] at h
    rw [putA, putA_get vs _ _ _ (by simp; omega)]
    by_cases hj : j = i
    · subst hj; rw [if_neg (by omega), if_pos (by simp)]; have hlt : j < cc.size := by omega
      simp [hlt]
    · by_cases h2 : i + 1 ≤ j ∧ j < i + 1 + vs.length
      · rw [if_pos h2, if_pos (by simp; omega), show j - i = (j - (i + 1)) + 1 by omega]; simp
      · rw [if_neg h2, if_neg (by simp; omega)]
        rw [Array.getElem?_setIfInBounds_ne (Ne.symm hj)]

theorem heap_setCell_at {C i : Nat} {cc : Array Value} {el : TypeId} {fz : Nat × Nat} (h : w.heap[C]? = some (.cells cc el fz)) (v : Value) :
    (w.setCell ⟨C, i, none⟩ v).heap[C]? = some (.cells (cc.setIfInBounds i v) el fz) := by
  simp [World.setCell, Array.getElem?_modify, h]

/-- Values stored one by one. -/
theorem run_storeCells_put {C o : Nat} {el : TypeId} {fz : Nat × Nat} : ∀ (vs : List Value) (i : Nat) (cc : Array Value) (w : World), w.heap[C]? = some (.cells cc el fz) →
    o + i + vs.length ≤ cc.size → (∀ j, o + i ≤ j → j < o + i + vs.length → ¬ (fz.1 ≤ j ∧ j < fz.2)) → (∀ v ∈ vs, v.oneCell' = true) →
    ∃ w', (storeCells ⟨C, o, none⟩ vs i).run P w = .ok () w' ∧ OnlyAt C w w' ∧ w'.heap[C]? = some (.cells (putA cc (o + i) vs) el fz)
  | [], i, cc, w, h, _, _, _ => ⟨w, rfl, OnlyAt.refl _ _, h⟩
  | v :: vs, i, cc, w, h, hs, hf, h1 => by
    simp only [List.length_cons] at hs hf
    have hlt : o + i < cc.size := by omega
    have hcell : w.cell? ⟨C, o + i, none⟩ = some cc[o + i] := by rw [cell_of h, Array.getElem?_eq_getElem hlt]
    have hfz : w.frozen? ⟨C, o + i, none⟩ = false := by
      rw [frozen_of h]; have := hf (o + i) (by omega) (by omega)
      simp only [Bool.and_eq_false_imp, decide_eq_true_eq, decide_eq_false_iff_not]; omega
    obtain ⟨w', hr, ho, hh⟩ := run_storeCells_put (C := C) (o := o) vs (i + 1) (cc.setIfInBounds (o + i) v) (w.setCell ⟨C, o + i, none⟩ v) (heap_setCell_at h v) (by simp; omega)
      (fun j h2 h3 => hf j (by omega) (by omega)) (fun u hu => h1 u (by simp [hu]))
    refine ⟨w', ?_, (OnlyAt.setCell w ⟨C, o + i, none⟩ v).trans ho, by rw [hh, putA]; rfl⟩
    simp only [storeCells, Sem.run_bind, add_off, run_store P w _ v _ (h1 v (by simp)), hcell, hfz, Bool.false_eq_true, if_false, Result.andThen_ok]
    exact hr

/-- Values loaded one by one. -/
theorem run_loadCells_of {C o n : Nat} {cc : Array Value} {el : TypeId} {fz : Nat × Nat} (h : w.heap[C]? = some (.cells cc el fz)) (hn : o + n ≤ cc.size) :
    (loadCells ⟨C, o, none⟩ n).run P w = .ok ((cc.toList.drop o).take n).toArray w := by
  have hl : ((cc.toList.drop o).take n).length = n := by simp; omega
  have := run_loadCells_list (P := P) w ⟨C, o, none⟩ ((cc.toList.drop o).take n) (fun j v hj => by
    rw [add_off, cell_of h]
    have hjn : j < n := by have := (List.getElem?_eq_some_iff.1 hj).1; omega
    rw [List.getElem?_take_of_lt hjn, List.getElem?_drop] at hj
    simpa using hj)
  rwa [hl] at this

end Go.Den

/- Operations that hang on their operands alone. -/
namespace Go.Den
open Go Go.RowKit

variable {P : Program} {w0 : World} {B : Nat} {φ : Emb} {m : Me} {w : World}

theorem bind_some {α β : Type} {x : Option α} {f : α → Option β} {b : β} : (x >>= f) = some b ↔ ∃ a, x = some a ∧ f a = some b := Option.bind_eq_some_iff
theorem pure_some {α : Type} {a b : α} : (pure a : Option α) = some b ↔ a = b := by simp [pure]
theorem map_some {α β : Type} {x : Option α} {f : α → β} {b : β} : x.map f = some b ↔ ∃ a, x = some a ∧ f a = b := Option.map_eq_some_iff

/-! ## Constants and operands -/
theorem mapM_VRs {n : Nat} (ih : ∀ v a, toAV n v = some a → VR φ a v) : ∀ (l : List Value) (l' : List AV), l.mapM (toAV n) = some l' → VRs φ l' l
  | [], l', h => by simp [pure] at h; subst h; exact .nil
  | v :: l, l', h => by
    rw [List.mapM_cons] at h
    simp only [bind_some, pure_some] at h
    obtain ⟨a, ha, l2, hl, rfl⟩ := h
    exact .cons (ih v a ha) (mapM_VRs ih l l2 hl)

theorem toAV_VR : ∀ (n : Nat) (v : Value) (a : AV), toAV n v = some a → VR φ a v
  | 0, _, _, h => by simp [toAV] at h
  | n + 1, v, a, h => by
    unfold toAV at h
    split at h
    · cases h; exact .bool _
    · cases h; exact .int _ _
    · cases h; exact .str _
    · cases h; exact .ptrN
    · cases h; exact .sliceN _ _
    · cases h; exact .mapN
    · cases h; exact .nilFunc
    · cases h; exact .nilIface
    · split at h
      · rename_i f x y hxy
        cases h
        obtain ⟨h1, h2⟩ := hxy
        have e1 : x.toList = [] := by simpa using h1
        have e2 : y.toList = [] := by simpa using h2
        exact .func (.func _) (by rw [e1]; exact .nil) (by rw [e2]; exact .nil)
      · cases h
    · simp only [map_some] at h
      obtain ⟨b, hb, rfl⟩ := h
      exact .iface _ (toAV_VR n _ _ hb)
    · simp only [map_some] at h
      obtain ⟨b, hb, rfl⟩ := h
      exact .agg (mapM_VRs (fun v a => toAV_VR n v a) _ _ hb)
    · split at h
      · rename_i cs hcs
        cases h
        have e1 : cs.toList = [] := by simpa using hcs
        exact .tuple (by rw [e1]; exact .nil)
      · cases h
    · cases h

/-- The program's variables lie where they lie. -/
def GlobR (P : Program) (φ : Emb) : Prop := ∀ g, g < P.globals.size → ∃ e, φ g = some e ∧ e.C = g ∧ e.o = 0
theorem GlobR.mono {φ φ' : Emb} (h : GlobR P φ) (hl : Le φ φ') : GlobR P φ' := fun g hg => let ⟨e, h1, h2⟩ := h g hg; ⟨e, hl _ _ h1, h2⟩

/-- A region's own slots and the frame's. -/
structure FS (φ : Emb) (e : Env) (fr : T AV) (tmps : Array Value) : Prop where
  fr : FrR φ fr tmps
  env : ∀ t, VR φ (e.get t) (tmps.getD t Go.undef)

theorem FS.mono {φ φ' : Emb} (h : Le φ φ') {e : Env} {fr : T AV} {tmps : Array Value} (r : FS φ e fr tmps) : FS φ' e fr tmps := ⟨r.fr.mono h, fun t => (r.env t).mono h⟩
theorem FS.start {φ : Emb} {fr : T AV} {tmps : Array Value} (h : FrR φ fr tmps) : FS φ [] fr tmps := ⟨h, fun _ => .unk _⟩

theorem opd_VR (hG : GlobR P φ) {K : Nat → Bool} {e : Env} {fr : T AV} {a : Act} (h : FS φ e fr a.tmps) {x : Operand} {y : Opd} (hx : opd P K x = some y) :
    VR φ (look e fr y) (a.eval x) := by
  cases x with
  | tmp t =>
    simp only [opd] at hx
    split at hx <;> cases hx
    · simp only [look]
      cases hg : fr.get t with
      | none => exact .unk _
      | some v => exact h.fr t v hg
    · exact h.env t
  | const v =>
    simp only [opd, map_some] at hx
    obtain ⟨b, hb, rfl⟩ := hx
    exact toAV_VR _ _ _ hb
  | global g =>
    simp only [opd] at hx
    split at hx
    · rename_i hg
      cases hx
      obtain ⟨e, h1, h2, h3⟩ := hG g hg
      have := VR.ptr (i := 0) h1
      rw [h2, h3] at this
      exact this
    · cases hx
  | func f => cases hx; exact .func (.func f) .nil .nil

/-- Operands and what they come to. -/
def OpR (P : Program) (φ : Emb) (K : Nat → Bool) (r : Opd → AV) (ρ : Operand → Value) : Prop := ∀ x y, opd P K x = some y → VR φ (r y) (ρ x)

theorem OpR.of (hG : GlobR P φ) {K : Nat → Bool} {e : Env} {fr : T AV} {a : Act} (h : FS φ e fr a.tmps) : OpR P φ K (look e fr) a.eval := fun _ _ hx => opd_VR hG h hx

theorem opds_VRs {K : Nat → Bool} {r : Opd → AV} {ρ : Operand → Value} (h : OpR P φ K r ρ) : ∀ {l : List Operand} {l' : List Opd}, opds P K l = some l' → VRs φ (l'.map r) (l.map ρ)
  | [], l', hl => by simp [opds, pure] at hl; subst hl; exact .nil
  | x :: l, l', hl => by
    unfold opds at hl
    rw [List.mapM_cons] at hl
    simp only [bind_some, pure_some] at hl
    obtain ⟨a, ha, l2, hl, rfl⟩ := hl
    exact .cons (h x a ha) (opds_VRs h hl)

/-! ## Types -/
theorem run_und {t : TypeId} {d : TypeDesc} (h : und P t = some d) (w : World) : (underlying t).run P w = .ok d w := run_underlying h w

theorem run_info {t : TypeId} {i : TypeInfo} (h : P.info? t = some i) (w : World) : (typeInfo t).run P w = .ok i w := by
  simp [typeInfo, h]

theorem run_sz {t : TypeId} {n : Nat} (h : sz P t = some n) (w : World) : (sizeOf t).run P w = .ok n w := by
  simp only [sz, map_some] at h
  obtain ⟨i, hi, rfl⟩ := h
  simp [sizeOf, run_info hi]

theorem run_zero {t : TypeId} {z : AV} (h : zeroAV P t = some z) (w : World) : ∃ v, (zeroValue t).run P w = .ok v w ∧ VR φ z v := by
  unfold zeroAV at h
  rw [Option.bind_eq_some_iff] at h
  obtain ⟨v, hv, hz⟩ := h
  rw [Option.bind_eq_some_iff] at hv
  obtain ⟨i, hi, hiz⟩ := hv
  exact ⟨v, by simp [zeroValue, run_info hi, hiz], toAV_VR _ _ _ hz⟩

theorem run_zero' {t : TypeId} {z : AV} (h : zeroAV P t = some z) : ∃ v, (∀ w, (zeroValue t).run P w = .ok v w) ∧ ∀ φ, VR φ z v := by
  unfold zeroAV at h
  rw [Option.bind_eq_some_iff] at h
  obtain ⟨v, hv, hz⟩ := h
  rw [Option.bind_eq_some_iff] at hv
  obtain ⟨i, hi, hiz⟩ := hv
  exact ⟨v, fun w => by simp [zeroValue, run_info hi, hiz], fun φ => toAV_VR _ _ _ hz⟩

/-- Is a type an aggregate, and of how many cells? -/
theorem aggN_none {t : TypeId} (h : aggN P t = some none) (w : World) : (isAgg t).run P w = .ok false w := by
  unfold aggN at h
  split at h
  · simp at h
  · simp at h
  · rename_i d hd1 hd2 hd
    simp only [isAgg, Sem.run_bind, run_und hd, Result.andThen_ok]
    rfl
  · cases h

theorem aggN_some {t : TypeId} {n : Nat} (h : aggN P t = some (some n)) (w : World) : (isAgg t).run P w = .ok true w ∧ (sizeOf t).run P w = .ok n w := by
  unfold aggN at h
  split at h
  · rename_i fs hd
    simp only [map_some, Option.some.injEq, exists_eq_right] at h
    exact ⟨by simp [isAgg, run_und hd], run_sz h w⟩
  · rename_i k e hd
    simp only [map_some, Option.some.injEq, exists_eq_right] at h
    exact ⟨by simp [isAgg, run_und hd], run_sz h w⟩
  · cases h
  · cases h

theorem run_part {t : TypeId} {k : Option Nat} (hk : aggN P t = some k) {cs : List AV} {cs' : Array Value} (hcs : VRs φ cs cs'.toList) {off : Nat} {v : AV} (hv : partOf cs off k = some v) :
    ∃ v', (∀ w, (part t cs' off).run P w = .ok v' w) ∧ VR φ v v' := by
  cases k with
  | none =>
    simp only [partOf] at hv
    obtain ⟨v', h1, h2⟩ := hcs.get off v hv
    refine ⟨v', fun w => ?_, h2⟩
    simp only [part, Sem.run_bind, aggN_none hk, Result.andThen_ok, Bool.false_eq_true, if_false]
    have : cs'[off]? = some v' := by simpa using h1
    simp [this]
  | some n =>
    simp only [partOf] at hv
    split at hv
    · rename_i hle
      cases hv
      refine ⟨.agg (cs'.extract off (off + n)), fun w => ?_, .agg ?_⟩
      · obtain ⟨h1, h2⟩ := aggN_some hk w
        simp [part, h1, h2]
      · have : (cs'.extract off (off + n)).toList = (cs'.toList.drop off).take n := by
          simp
        rw [this]
        exact (hcs.drop off).take n
    · cases hv

end Go.Den

/- Numbers, texts, comparisons. -/
namespace Go.Den
open Go Go.RowKit

variable {P : Program} {w0 : World} {B : Nat} {φ : Emb} {m : Me} {w : World}

theorem toList_mk (l : List UInt8) : (⟨⟨l⟩⟩ : ByteArray).toList = l := by
  rw [Go.ByteArray.toList_eq]

/-- A closed computation: it yields v' in every world, and leaves it alone. -/
def Yi (P : Program) (φ : Emb) (s : Sem Value) (v : AV) : Prop := ∃ v', (∀ w, s.run P w = .ok v' w) ∧ VR φ v v'

theorem Yi.pure {v : AV} {v' : Value} (h : VR φ v v') : Yi P φ (Pure.pure v') v := ⟨v', fun _ => rfl, h⟩

theorem intBin_sound {op : BinOp} {k : IntKind} {x y : Int} {v : AV} (h : intBin op k x y = some v) (hs : op ≠ .shl) (hs' : op ≠ .shr) :
    Yi P φ (match op with
      | .add | .sub | .mul => Op.intArith op k x y
      | .quo | .rem => Op.intDiv op k x y
      | .and | .or | .xor | .andNot => Op.intBits op k x y
      | _ => Op.intCmp op x y) v := by
  cases op <;> simp only [intBin] at h
  case add => cases h; exact .pure (.int _ _)
  case sub => cases h; exact .pure (.int _ _)
  case mul => cases h; exact .pure (.int _ _)
  case quo => split at h <;> cases h; rename_i hy; simp only [Op.intDiv, if_neg hy]; exact .pure (.int _ _)
  case rem => split at h <;> cases h; rename_i hy; simp only [Op.intDiv, if_neg hy]; exact .pure (.int _ _)
  case and => cases h; exact .pure (.int _ _)
  case or => cases h; exact .pure (.int _ _)
  case xor => cases h; exact .pure (.int _ _)
  case andNot => cases h; exact .pure (.int _ _)
  case eql => cases h; exact .pure (.bool _)
  case neq => cases h; exact .pure (.bool _)
  case lss => cases h; exact .pure (.bool _)
  case leq => cases h; exact .pure (.bool _)
  case gtr => cases h; exact .pure (.bool _)
  case geq => cases h; exact .pure (.bool _)
  case shl => exact absurd rfl hs
  case shr => exact absurd rfl hs'

theorem shiftV_sound {op : BinOp} {k : IntKind} {x y : Int} {v : AV} (yk : IntKind) (h : shiftV op k x y = some v) : Yi P φ (Op.shift op k x yk y) v := by
  unfold shiftV at h
  split at h
  · cases h
  · rename_i hy
    simp only [Op.shift, if_neg hy]
    cases op <;> simp only at h <;> cases h
    · exact .pure (.int _ _)
    · exact .pure (.int _ _)

theorem strBin_sound {op : BinOp} {x y : List UInt8} {v : AV} (h : strBin op x y = some v) : Yi P φ (Op.stringOp op ⟨⟨x⟩⟩ ⟨⟨y⟩⟩) v := by
  have hsz : ∀ l : List UInt8, (⟨⟨l⟩⟩ : ByteArray).size = l.length := fun l => rfl
  unfold Op.stringOp
  simp only [toList_mk]
  cases op <;> simp only [strBin] at h
  case add =>
    split at h
    · cases h
    · rename_i hn
      cases h
      simp only [hsz, if_neg hn]
      have : (⟨⟨x⟩⟩ : ByteArray) ++ ⟨⟨y⟩⟩ = ⟨⟨x ++ y⟩⟩ := by
        apply ByteArray.ext; apply Array.ext'
        simp
      rw [this]
      exact .pure (.str _)
  case eql => cases h; exact .pure (.bool _)
  case neq => cases h; exact .pure (.bool _)
  case lss => cases h; exact .pure (.bool _)
  case leq => cases h; exact .pure (.bool _)
  case gtr => cases h; exact .pure (.bool _)
  case geq => cases h; exact .pure (.bool _)
  all_goals cases h


/-! ## '==' -/
/-- What a struct's parts are, field by field. -/
def fieldsT (P : Program) (n : Nat) (fs : List Field) : Option (List (Nat × Option Nat × EqT)) :=
  fs.mapM fun f => if f.name = "_" then none else do
    let q ← eqT P n f.type
    let a ← aggN P f.type
    pure (f.offset, a, q)

def EqOk (P : Program) (φ : Emb) (k : Nat) : Prop := ∀ (t : TypeId) (q : EqT), eqT P k t = some q → ∀ (n : Nat) (x y : AV) (b : Bool), eqV n q x y = some b →
    ∀ (x' y' : Value), VR φ x x' → VR φ y y' → ∀ d, k ≤ d → ∀ w, (Op.equalIn d t x' y').run P w = .ok b w

theorem fields_sound {k : Nat} (ih : EqOk P φ k) {d : Nat} (hd : k ≤ d) {xs ys : List AV} {xs' ys' : Array Value} (hx : VRs φ xs xs'.toList) (hy : VRs φ ys ys'.toList) :
    ∀ (fs : List Field) (l : List (Nat × Option Nat × EqT)), fieldsT P k fs = some l → ∀ (n : Nat) (b : Bool), eqV.go n l xs ys = some b → ∀ w,
      (forIn fs ((none : Option Bool), ()) fun (f : Field) (__s : Option Bool × Unit) =>
            if f.name ≠ "_" then do
              let a ← part f.type xs' f.offset
              let b ← part f.type ys' f.offset
              let c ← Op.equalIn d f.type a b
              if (!c) = true then pure (ForInStep.done (some false, ())) else pure (ForInStep.yield (none, ()))
            else (pure (ForInStep.yield (none, ())) : Sem (ForInStep (Option Bool × Unit)))).run P w = .ok (if b then none else some false, ()) w := by
  intro fs
  induction fs with
  | nil =>
    intro l hl n b hb w
    simp [fieldsT, pure] at hl
    subst hl
    cases n with
    | zero => simp [eqV.go] at hb
    | succ n => simp only [eqV.go, Option.some.injEq] at hb; subst hb; rfl
  | cons f fs ihf =>
    intro l hl n b hb w
    unfold fieldsT at hl
    rw [List.mapM_cons] at hl
    simp only [bind_some, pure_some] at hl
    obtain ⟨p, hp, l2, hl2, rfl⟩ := hl
    split at hp
    · cases hp
    · rename_i hname
      simp only [bind_some, pure_some] at hp
      obtain ⟨q, hq, a, ha, rfl⟩ := hp
      cases n with
      | zero => simp [eqV.go] at hb
      | succ n =>
        simp only [eqV.go] at hb
        split at hb
        · rename_i u v hu hv
          obtain ⟨u', hu1, hu2⟩ := run_part (P := P) ha hx hu
          obtain ⟨v', hv1, hv2⟩ := run_part (P := P) ha hy hv
          rw [List.forIn_cons]
          simp only [ne_eq, hname, not_false_eq_true, if_true, Sem.run_bind, hu1, hv1, Result.andThen_ok]
          cases hc : eqV n q u v with
          | none => rw [hc] at hb; simp at hb
          | some c =>
            rw [hc] at hb
            rw [ih f.type q hq n u v c hc u' v' hu2 hv2 d hd w]
            cases c with
            | true =>
              simp only at hb
              simpa using ihf l2 hl2 n b hb w
            | false =>
              simp only [Option.some.injEq] at hb
              subst hb
              simp
        · cases hb

theorem addr_beq (C o i j : Nat) : ((⟨C, o + i, none⟩ : Addr) == ⟨C, o + j, none⟩) = (i == j) := by
  rw [Bool.eq_iff_iff]
  simp

set_option maxHeartbeats 2000000 in
theorem eq_step {k : Nat} (ih : EqOk P φ k) : EqOk P φ (k + 1) := by
  intro t q hq n x y b hb x' y' hx hy d hd w
  obtain ⟨d, rfl⟩ : ∃ d', d = d' + 1 := ⟨d - 1, by omega⟩
  have hd' : k ≤ d := by omega
  cases n with
  | zero => simp [eqV] at hb
  | succ n =>
    unfold eqT at hq
    split at hq
    · rename_i hu
      cases hq
      cases x <;> cases y <;> simp only [eqV] at hb <;> (first | cases hb | skip)
      cases hx; cases hy
      simp [Op.equalIn, run_und hu]
    · rename_i kk hu
      cases hq
      cases x <;> cases y <;> simp only [eqV] at hb <;> (first | cases hb | skip)
      split at hb
      · rename_i hk; subst hk; cases hb; cases hx; cases hy
        simp [Op.equalIn, run_und hu]
      · cases hb
    · rename_i hu
      cases hq
      cases x <;> cases y <;> simp only [eqV] at hb <;> (first | cases hb | skip)
      cases hx; cases hy
      rename_i s s'
      have : ((⟨⟨s⟩⟩ : ByteArray) == ⟨⟨s'⟩⟩) = (s == s') := by
        show ((⟨s⟩ : Array UInt8) == ⟨s'⟩) = (s == s')
        simp
      simp [Op.equalIn, run_und hu, this]
    · rename_i e hu
      split at hq
      · cases hq
      · rename_i s hs hne
        cases hq
        have hs0 : s ≠ 0 := fun h => hs h
        cases x <;> cases y <;> simp only [eqV] at hb <;> (first | cases hb | skip)
        cases hx <;> cases hy <;> simp only [eqV] at hb
        · cases hb; simp [Op.equalIn, run_und hu]
        · cases hb; simp [Op.equalIn, run_und hu]
        · cases hb; simp [Op.equalIn, run_und hu]
        · rename_i b1 i1 e1 h1 b2 i2 e2 h2
          split at hb
          · rename_i hbb
            replace hbb : b1 = b2 := hbb
            subst hbb
            rw [h1] at h2; cases h2
            cases hb
            simp [Op.equalIn, run_und hu, run_sz hne, hs0, sameAddr, addr_beq]
          · cases hb
      · cases hq
    · rename_i hu
      cases hq
      cases x <;> cases y <;> simp only [eqV] at hb <;> (first | cases hb | skip)
      cases hx <;> cases hy <;> simp only [eqV] at hb
      · cases hb; simp [Op.equalIn, run_und hu, samePointer]
      · cases hb; simp [Op.equalIn, run_und hu, samePointer]
      · cases hb; simp [Op.equalIn, run_und hu, samePointer]
      · rename_i b1 i1 e1 h1 b2 i2 e2 h2
        split at hb
        · rename_i hbb
          replace hbb : b1 = b2 := hbb
          subst hbb
          rw [h1] at h2; cases h2
          cases hb
          simp [Op.equalIn, run_und hu, samePointer, sameAddr, addr_beq]
        · cases hb
    · rename_i ms hu
      cases hq
      cases x <;> cases y <;> simp only [eqV] at hb <;> (first | cases hb | skip)
      · cases hx; cases hy; simp [Op.equalIn, run_und hu]
      · cases hx; cases hy; simp [Op.equalIn, run_und hu]
      · cases hx; cases hy; simp [Op.equalIn, run_und hu]
    · rename_i fs hu
      split at hq
      · cases hq
      · rename_i hst
        simp only [map_some] at hq
        obtain ⟨l, hl, rfl⟩ := hq
        cases x <;> cases y <;> simp only [eqV] at hb <;> (first | cases hb | skip)
        cases hx; cases hy
        rename_i xs ys xs' hxs ys' hys
        have hf := fields_sound ih hd' hxs hys fs.toList l hl n b hb w
        rw [Array.forIn_toList] at hf
        simp only [Op.equalIn, Sem.run_bind, run_und hu, Result.andThen_ok, run_program, hst, Bool.false_eq_true, if_false]
        rw [hf]
        cases b <;> simp
    · rename_i e hu
      cases hq
      cases x <;> cases y <;> simp only [eqV] at hb <;> (first | cases hb | skip)
      cases hx <;> cases hy <;> simp only at hb <;> cases hb <;> simp [Op.equalIn, run_und hu]
    · rename_i kt e hu
      cases hq
      cases x <;> cases y <;> simp only [eqV] at hb <;> (first | cases hb | skip)
      cases hx <;> cases hy <;> simp only at hb <;> cases hb <;> simp [Op.equalIn, run_und hu]
    · rename_i ps rs v hu
      cases hq
      cases x <;> cases y <;> simp only [eqV] at hb <;> (first | cases hb | skip)
      all_goals (cases hx; cases hy; simp [Op.equalIn, run_und hu])
    · cases hq

end Go.Den

/- Operations that hang on their operands alone: the soundness of 'pureV'. -/
namespace Go.Den
open Go Go.RowKit

variable {P : Program} {w0 : World} {B : Nat} {φ : Emb} {m : Me} {w : World}

theorem EqOk.all : ∀ k, EqOk P φ k
  | 0 => fun t q hq => by simp [eqT] at hq
  | k + 1 => eq_step (EqOk.all k)

theorem equal_sound {t : TypeId} {q : EqT} {k : Nat} (hk : k ≤ 10000) (hq : eqT P k t = some q) {x y : AV} {b : Bool} (h : eqV 400 q x y = some b) {x' y' : Value} (hx : VR φ x x') (hy : VR φ y y') (w : World) :
    (Op.equal t x' y').run P w = .ok b w :=
  EqOk.all k t q hq _ x y b h x' y' hx hy _ hk w

/-- What the compiler has made sure of at '==' and '!='. -/
def EqC (P : Program) (t : TypeId) (x y : Operand) (q : EqT) : Prop :=
  eqT P 8 t = some q ∧ (q = .iface → isNilConst x = true ∨ isNilConst y = true) ∧ (∀ l, q = .parts l → P.eqGuardType P.depth t = false)

theorem guard_sound {op : BinOp} {t : TypeId} {x y : Operand} {a b : AV} {a' b' : Value} {q : EqT} {c : Bool} (hc : EqC P t x y q) (h : eqV 400 q a b = some c) (ha : VR φ a a') (hb : VR φ b b') (w : World) :
    (eqGuard op t x y a' b').run P w = .ok () w := by
  unfold eqGuard
  obtain ⟨_, h2, h3⟩ := hc
  cases op <;> simp only [Bool.not_false, Bool.not_true, if_true, Bool.false_eq_true, if_false] <;> try rfl
  all_goals
    split
    · rename_i h4 h5
      cases ha with
      | nilIface =>
        cases hb with
        | nilIface =>
          have hq : q = .iface := by cases q <;> simp [eqV] at h; rfl
          rcases h2 hq with h | h
          · cases x <;> simp [isNilConst] at h ⊢
          · cases y <;> simp [isNilConst] at h ⊢
        | unk v => cases q <;> simp [eqV] at h
      | unk v => cases q <;> simp [eqV] at h
    · cases ha with
      | agg hxs =>
        cases hb with
        | agg hys =>
          have : ∃ l, q = .parts l := by cases q <;> simp [eqV] at h; exact ⟨_, rfl⟩
          obtain ⟨l, hl⟩ := this
          simp [h3 l hl]
        | unk v => cases q <;> simp [eqV] at h
      | unk v => cases q <;> simp [eqV] at h
    · rfl


set_option maxHeartbeats 1000000 in
theorem binV_sound {op : BinOp} {t : TypeId} {x y : Operand} {a b : AV} {a' b' : Value} {q : EqT} {v : AV} (hc : op = .eql ∨ op = .neq → EqC P t x y q) (h : binV op q a b = some v)
    (ha : VR φ a a') (hb : VR φ b b') : Yi P φ (do eqGuard op t x y a' b'; binOp op t a' b') v := by
  have noGuard : ∀ {k k' : IntKind} {i j : Int}, a' = .int k i → b' = .int k' j → ∀ w, (eqGuard op t x y a' b').run P w = .ok () w := by
    intro k k' i j e1 e2 w; subst e1; subst e2; unfold eqGuard; cases op <;> rfl
  have noGuardS : ∀ {i j : ByteArray}, a' = .string i → b' = .string j → ∀ w, (eqGuard op t x y a' b').run P w = .ok () w := by
    intro i j e1 e2 w; subst e1; subst e2; unfold eqGuard; cases op <;> rfl
  unfold binV at h
  split at h
  · rename_i k i k' j
    cases ha; cases hb
    obtain ⟨v', h1, h2⟩ := shiftV_sound (P := P) (φ := φ) k' h
    exact ⟨v', fun w => by simp [noGuard rfl rfl w, binOp, h1], h2⟩
  · rename_i k i k' j
    cases ha; cases hb
    obtain ⟨v', h1, h2⟩ := shiftV_sound (P := P) (φ := φ) k' h
    exact ⟨v', fun w => by simp [noGuard rfl rfl w, binOp, h1], h2⟩
  · rename_i k i k' j hs1 hs2
    split at h
    · rename_i hk
      subst hk
      cases ha; cases hb
      obtain ⟨v', h1, h2⟩ := intBin_sound (P := P) (φ := φ) h (fun e => hs1 e) (fun e => hs2 e)
      refine ⟨v', fun w => ?_, h2⟩
      have h1 := h1 w
      simp only [Sem.run_bind, noGuard rfl rfl w, Result.andThen_ok]
      cases op <;> simp only [binOp, ne_eq, not_true_eq_false, if_false] <;> first | exact h1 | exact absurd rfl hs1 | exact absurd rfl hs2
    · cases h
  · cases ha; cases hb
    obtain ⟨v', h1, h2⟩ := strBin_sound (P := P) (φ := φ) h
    exact ⟨v', fun w => by simp [noGuardS rfl rfl w, binOp, h1], h2⟩
  · rename_i h3 h4
    simp only [map_some] at h
    obtain ⟨c, hcc, rfl⟩ := h
    refine ⟨.bool c, fun w => ?_, .bool _⟩
    have hg := guard_sound (op := .eql) (hc (.inl rfl)) hcc ha hb w
    have he := equal_sound (P := P) (by omega) (hc (.inl rfl)).1 hcc ha hb w
    have hbin : binOp .eql t a' b' = (do pure (.bool (← Op.equal t a' b'))) := by
      cases ha <;> cases hb <;> first | rfl | exact (h3 _ _ _ _ rfl rfl).elim | exact (h4 _ _ rfl rfl).elim | (exfalso; cases q <;> simp [eqV] at hcc)
    simp [hg, he, hbin]
  · rename_i h3 h4
    simp only [map_some] at h
    obtain ⟨c, hcc, rfl⟩ := h
    refine ⟨.bool !c, fun w => ?_, .bool _⟩
    have hg := guard_sound (op := .neq) (hc (.inr rfl)) hcc ha hb w
    have he := equal_sound (P := P) (by omega) (hc (.inr rfl)).1 hcc ha hb w
    have hbin : binOp .neq t a' b' = (do pure (.bool (!(← Op.equal t a' b')))) := by
      cases ha <;> cases hb <;> first | rfl | exact (h3 _ _ _ _ rfl rfl).elim | exact (h4 _ _ rfl rfl).elim | (exfalso; cases q <;> simp [eqV] at hcc)
    simp [hg, he, hbin]
  · cases h

end Go.Den

/- Operations that hang on their operands alone: aggregates, slices, the rest. -/
namespace Go.Den
open Go Go.RowKit

variable {P : Program} {w0 : World} {B : Nat} {φ : Emb} {m : Me} {w : World}

/-! ## Aggregates -/
theorem foldl_put : ∀ (vs : List Value) (i off : Nat) (cells : Array Value),
    (vs.zipIdx i).foldl (fun cs (c : Value × Nat) => cs.setIfInBounds (off + c.2) c.1) cells = putA cells (off + i) vs
  | [], _, _, _ => rfl
  | v :: vs, i, off, cells => by
    rw [List.zipIdx_cons, List.foldl_cons, foldl_put vs (i + 1) off]
    rw [putA]; rfl

theorem putA_toList : ∀ (vs : List Value) (i : Nat) (cells : Array Value), (putA cells i vs).toList = (vs.zipIdx i).foldl (fun l c => l.set c.2 c.1) cells.toList
  | [], _, _ => rfl
  | v :: vs, i, cells => by rw [putA, putA_toList vs, List.zipIdx_cons, List.foldl_cons]; simp

theorem putsAt_VRs : ∀ {vs : List AV} {vs' : List Value}, VRs φ vs vs' → ∀ (i : Nat) {cells : List AV} {cells' : Array Value}, VRs φ cells cells'.toList → VRs φ (putsAt cells i vs) (putA cells' i vs').toList
  | _, _, .nil, _, _, _, h => h
  | _, _, .cons hv t, i, cells, cells', h => by
    rw [putsAt, putA]
    exact putsAt_VRs t (i + 1) (by simpa using h.set i hv)

theorem putsAt_length : ∀ (vs : List AV) (i : Nat) (cells : List AV), (putsAt cells i vs).length = cells.length
  | [], _, _ => rfl
  | v :: vs, i, cells => by rw [putsAt, putsAt_length vs]; simp

theorem fill_sound {K : Nat → Bool} {r : Opd → AV} {ρ : Operand → Value} (hρ : OpR P φ K r ρ) {pl pl' : Nat → Option (Nat × Nat)} (hpl : ∀ i x, pl i = some x → pl' i = some x) :
    ∀ (ps : List (Nat × Operand)) (l : List (Nat × Nat × Opd)), partsOf P K pl ps = some l → ∀ (cells cs : List AV) (cells' : Array Value), VRs φ cells cells'.toList →
      fillV cells (l.map fun (off, s, x) => (off, s, r x)) = some cs → ∃ cs', Instr.fill pl' cells' (ps.map fun (i, x) => (i, ρ x)) = some cs' ∧ VRs φ cs cs'.toList := by
  intro ps
  induction ps with
  | nil =>
    intro l hl cells cs cells' hc h
    simp [partsOf, pure] at hl
    subst hl
    simp only [List.map_nil, fillV, Option.some.injEq] at h
    subst h
    exact ⟨cells', rfl, hc⟩
  | cons p ps ih =>
    intro l hl cells cs cells' hc h
    obtain ⟨i, x⟩ := p
    unfold partsOf at hl
    rw [List.mapM_cons] at hl
    simp only [bind_some, pure_some] at hl
    obtain ⟨q, ⟨⟨off, s⟩, ho, y, hy, rfl⟩, l2, hl2, rfl⟩ := hl
    simp only [List.map_cons, fillV] at h
    split at h
    · cases h
    · rename_i hn
      simp only [not_or, Nat.not_lt, Decidable.not_not, Bool.not_eq_true, Bool.not_eq_false', Bool.not_eq_eq_eq_not, Bool.not_true, Bool.not_false] at hn
      obtain ⟨h1, h2, h3⟩ := hn
      have hv := (hρ x y hy).cells (by simpa using h3)
      have hlen : (ρ x).cells.size = (r y).cells.length := by simpa using hv.length
      have hcl : cells'.size = cells.length := by simpa using hc.length
      obtain ⟨cs', hf, hcs⟩ := ih l2 hl2 _ cs _ (putsAt_VRs hv off hc) h
      refine ⟨cs', ?_, hcs⟩
      have hc1 : ¬ ((ρ x).cells.size ≠ s) := by rw [hlen]; exact fun h => h h1
      have hc2 : ¬ (off + (ρ x).cells.size > cells'.size) := by rw [hlen, hcl]; omega
      simp only [List.map_cons, Instr.fill, hpl i _ ho]
      rw [if_neg (by simp; omega)]
      have := foldl_put (ρ x).cells.toList 0 off cells'
      simp only [Nat.add_zero] at this
      rw [← hf, ← this]
      congr 1
      rw [← Array.foldl_toList]
      simp

/-! ## Slices -/
theorem bound_sound {x : AV} {y n : Nat} {x' : Value} (h : bound x y = some n) (hx : VR φ x x') (code : BoundsCode) {y' : Nat} (hy : y ≤ y') (w : World) :
    (Instr.sliceBound x' y' code).run P w = .ok n w ∧ n ≤ y := by
  unfold bound at h
  split at h
  · rename_i k i
    cases hx
    split at h
    · rename_i hi
      cases h
      have : 0 ≤ i ∧ i ≤ (y' : Int) := ⟨hi.1, by omega⟩
      exact ⟨by simp [Instr.sliceBound, asIntOf, this], by omega⟩
    · cases h
  · cases h

/-- Bounds, where the model's capacity may be more than ours if no third index is given. -/
theorem bounds_sound {isSlice : Bool} {len cap cap' l h k : Nat} {lo hi mx : Option AV} {lo' hi' mx' : Option Value} (hb : bounds3 len cap lo hi mx = some (l, h, k))
    (h1 : ∀ v, lo = some v → ∃ v', lo' = some v' ∧ VR φ v v') (h1n : lo = none → lo' = none)
    (h2 : ∀ v, hi = some v → ∃ v', hi' = some v' ∧ VR φ v v') (h2n : hi = none → hi' = none)
    (h3 : ∀ v, mx = some v → ∃ v', mx' = some v' ∧ VR φ v v') (h3n : mx = none → mx' = none)
    (hc : cap ≤ cap') (w : World) :
    (Instr.sliceBounds isSlice len cap' lo' hi' mx').run P w = .ok (l, h, if mx.isSome then k else cap') w ∧ l ≤ h ∧ (mx = none → k = cap) ∧ (mx.isSome → k ≤ cap) ∧ (mx = none → h ≤ cap) ∧ h ≤ k := by
  unfold bounds3 at hb
  simp only [bind_some, pure_some] at hb
  obtain ⟨k', hk, h', hh, l', hl, he⟩ := hb
  simp only [Prod.mk.injEq] at he
  obtain ⟨rfl, rfl, rfl⟩ := he
  unfold Instr.sliceBounds
  cases mx with
  | some v =>
    obtain ⟨v', rfl, hv⟩ := h3 v rfl
    simp only at hk
    cases hi with
    | none => simp at hh
    | some u =>
      obtain ⟨u', rfl, hu⟩ := h2 u rfl
      simp only at hh
      obtain ⟨r1, b1⟩ := bound_sound (P := P) hk hv (if isSlice then .slice3Acap else .slice3Alen) hc w
      obtain ⟨r2, b2⟩ := bound_sound (P := P) hh hu .slice3B (Nat.le_refl _) w
      cases lo with
      | none =>
        rw [h1n rfl]
        simp only [Option.some.injEq] at hl
        subst hl
        refine ⟨by simp [r1, r2], Nat.zero_le _, by simp, fun _ => b1, by simp, b2⟩
      | some t =>
        obtain ⟨t', rfl, ht⟩ := h1 t rfl
        simp only at hl
        obtain ⟨r3, b3⟩ := bound_sound (P := P) hl ht .slice3C (Nat.le_refl _) w
        refine ⟨by simp [r1, r2, r3], b3, by simp, fun _ => b1, by simp, b2⟩
  | none =>
    rw [h3n rfl]
    simp only [Option.some.injEq] at hk
    subst hk
    cases hi with
    | none =>
      rw [h2n rfl]
      simp only [Option.isSome_none, Bool.false_eq_true, false_or] at hh
      split at hh
      · cases hh
      rename_i hlc
      simp only [Option.some.injEq] at hh
      subst hh
      cases lo with
      | none =>
        rw [h1n rfl]
        simp only [Option.some.injEq] at hl
        subst hl
        exact ⟨by simp, Nat.zero_le _, fun _ => rfl, by simp, fun _ => by omega, by omega⟩
      | some t =>
        obtain ⟨t', rfl, ht⟩ := h1 t rfl
        simp only at hl
        obtain ⟨r3, b3⟩ := bound_sound (P := P) hl ht .sliceB (Nat.le_refl _) w
        exact ⟨by simp [r3], b3, fun _ => rfl, by simp, fun _ => by omega, by omega⟩
    | some u =>
      obtain ⟨u', rfl, hu⟩ := h2 u rfl
      simp only at hh
      obtain ⟨r2, b2⟩ := bound_sound (P := P) hh hu (if isSlice then .sliceAcap else .sliceAlen) hc w
      cases lo with
      | none =>
        rw [h1n rfl]
        simp only [Option.some.injEq] at hl
        subst hl
        exact ⟨by simp [r2], Nat.zero_le _, fun _ => rfl, by simp, fun _ => b2, b2⟩
      | some t =>
        obtain ⟨t', rfl, ht⟩ := h1 t rfl
        simp only at hl
        obtain ⟨r3, b3⟩ := bound_sound (P := P) hl ht .sliceB (Nat.le_refl _) w
        exact ⟨by simp [r2, r3], b3, fun _ => rfl, by simp, fun _ => b2, b2⟩

end Go.Den

/- The soundness of 'pureV'. -/
namespace Go.Den
open Go Go.RowKit

variable {P : Program} {w0 : World} {B : Nat} {φ : Emb} {m : Me} {w : World}

theorem slice_sl_sound {z l h k len cap : Nat} {lo hi mx : Option AV} {lo' hi' mx' : Option Value} {t e : TypeId} (hu : und P t = some (.slice e)) (hz : sz P e = some z) (hz0 : z ≠ 0)
    (hb : bounds3 len cap lo hi mx = some (l, h, k)) {a : Option (Nat × Nat × Nat)} {x' : Value} (hx : VR φ (.slice a len cap) x')
    (h1 : ∀ v, lo = some v → ∃ v', lo' = some v' ∧ VR φ v v') (h1n : lo = none → lo' = none)
    (h2 : ∀ v, hi = some v → ∃ v', hi' = some v' ∧ VR φ v v') (h2n : hi = none → hi' = none)
    (h3 : ∀ v, mx = some v → ∃ v', mx' = some v' ∧ VR φ v v') (h3n : mx = none → mx' = none) {v : AV}
    (hv : (match a with | none => some (AV.slice none (h - l) (k - l)) | some (b, i, zz) => if zz = z then some (AV.slice (some (b, if k = l then i else i + l * z, z)) (h - l) (k - l)) else none) = some v) :
    Yi P φ (Instr.slice t x' lo' hi' mx') v := by
  have base : ∀ (a' : Option Addr) (cap' : Nat), x' = .slice a' len cap' → cap ≤ cap' → ∀ w,
      (Instr.slice t x' lo' hi' mx').run P w = .ok (.slice (if (if mx.isSome then k else cap') = l then a' else a'.map (·.add (l * z))) (h - l) ((if mx.isSome then k else cap') - l)) w ∧
        l ≤ h ∧ (mx = none → k = cap) ∧ (mx.isSome → k ≤ cap) ∧ h ≤ k := by
    intro a' cap' hx' hc w
    subst hx'
    obtain ⟨hr, g1, g2, g3, g4, g5⟩ := bounds_sound (P := P) (isSlice := true) hb h1 h1n h2 h2n h3 h3n hc w
    refine ⟨?_, g1, g2, g3, g5⟩
    simp [Instr.slice, run_und hu, hr, run_sz hz]
  cases hx with
  | sliceN =>
    simp only [Option.some.injEq] at hv
    subst hv
    refine ⟨.slice none (h - l) ((if mx.isSome then k else cap) - l), fun w => ?_, ?_⟩
    · obtain ⟨hr, _⟩ := base none cap rfl (Nat.le_refl _) w
      rw [hr]; simp
    · obtain ⟨_, _, g2, _⟩ := base none cap rfl (Nat.le_refl _) default
      have : (if mx.isSome then k else cap) = k := by
        cases mx with
        | none => simp [g2 rfl]
        | some u => simp
      rw [this]; exact .sliceN _ _
  | slice hb' ho =>
    rename_i b i zz f
    simp only at hv
    split at hv
    · rename_i hzz
      cases hv
      obtain ⟨hr, _, g2, _⟩ := base _ cap rfl (Nat.le_refl _) default
      have hk : (if mx.isSome then k else cap) = k := by
        cases mx with
        | none => simp [g2 rfl]
        | some u => simp
      refine ⟨.slice (if k = l then some ⟨f.C, f.o + i, none⟩ else some ⟨f.C, f.o + (i + l * z), none⟩) (h - l) (k - l), fun w => ?_, ?_⟩
      · obtain ⟨hr, _⟩ := base _ cap rfl (Nat.le_refl _) w
        rw [hr, hk]
        split
        · rfl
        · simp [add_off, Nat.add_assoc]
      · split
        · exact .slice hb' ho
        · exact .slice hb' ho
    · cases hv
  | sliceO hb' ho hzz hc hK =>
    rename_i b i zz c' f
    simp only at hv
    split at hv
    · rename_i hzz'
      cases hv
      have hfz : z = f.z := hzz'.symm.trans hzz
      obtain ⟨_, g1, g2, g3, g5⟩ := base _ c' rfl hc default
      have mono : ∀ {a b : Nat}, a ≤ b → a * f.z ≤ b * f.z := fun h => Nat.mul_le_mul_right _ h
      cases mx with
      | some u =>
        have hkc := g3 rfl
        refine ⟨.slice (if k = l then some ⟨f.C, f.o + i, none⟩ else some ⟨f.C, f.o + (i + l * z), none⟩) (h - l) (k - l), fun w => ?_, ?_⟩
        · obtain ⟨hr, _⟩ := base _ c' rfl hc w
          rw [hr]
          simp only [Option.isSome_some, if_true]
          split
          · rfl
          · simp [add_off, Nat.add_assoc]
        · have hkk : i + k * f.z ≤ f.K := by have := mono (Nat.le_trans hkc hc); omega
          split
          · rename_i hkl
            subst hkl
            refine .sliceO hb' ho hfz (Nat.le_refl _) ?_
            simp; omega
          · refine .sliceO hb' ho hfz (Nat.le_refl _) ?_
            have : l * z + (k - l) * f.z = k * f.z := by rw [hfz, ← Nat.add_mul]; congr 1; omega
            omega
      | none =>
        have hkc := g2 rfl
        subst hkc
        refine ⟨.slice (if c' = l then some ⟨f.C, f.o + i, none⟩ else some ⟨f.C, f.o + (i + l * z), none⟩) (h - l) (c' - l), fun w => ?_, ?_⟩
        · obtain ⟨hr, _⟩ := base _ c' rfl hc w
          rw [hr]
          simp only [Option.isSome_none, Bool.false_eq_true, if_false]
          split
          · rfl
          · simp [add_off, Nat.add_assoc]
        · by_cases hkl : k = l
          · subst hkl
            have e1 : h - k = 0 := by omega
            rw [if_pos rfl, e1, Nat.sub_self]
            split
            · rename_i hcl; subst hcl; rw [Nat.sub_self]; exact .sliceE hb' ho hfz (.inl rfl)
            · refine .sliceE hb' ho hfz (.inr ⟨i + k * z, rfl, ?_⟩)
              have : k * z + (c' - k) * f.z = c' * f.z := by rw [hfz, ← Nat.add_mul]; congr 1; omega
              omega
          · rw [if_neg hkl, if_neg (by omega)]
            refine .sliceO hb' ho hfz (by omega) ?_
            have : l * z + (c' - l) * f.z = c' * f.z := by rw [hfz, ← Nat.add_mul]; congr 1; omega
            omega
    · cases hv
  | sliceE hb' ho hzz ha =>
    rename_i b i zz c' f a'
    simp only at hv
    split at hv
    · rename_i hzz'
      cases hv
      have hfz : z = f.z := hzz'.symm.trans hzz
      obtain ⟨_, g1, g2, g3, g5⟩ := base _ c' rfl (Nat.zero_le _) default
      have hk0 : k = 0 := by
        cases mx with
        | none => exact g2 rfl
        | some u => have := g3 rfl; omega
      have hl0 : l = 0 := by omega
      have hh0 : h = 0 := by omega
      subst hk0 hl0 hh0
      simp only [Nat.sub_zero, if_true]
      cases mx with
      | some u =>
        refine ⟨.slice (some a') 0 0, fun w => ?_, .sliceE hb' ho hfz (.inl rfl)⟩
        obtain ⟨hr, _⟩ := base _ c' rfl (Nat.zero_le _) w
        rw [hr]; simp
      | none =>
        refine ⟨.slice (some a') 0 c', fun w => ?_, .sliceE hb' ho hfz ha⟩
        obtain ⟨hr, _⟩ := base _ c' rfl (Nat.zero_le _) w
        rw [hr]; simp [Addr.add]
    · cases hv


theorem slice_ptr_sound {n z l h k : Nat} {lo hi mx : Option AV} {lo' hi' mx' : Option Value} {e : TypeId} (hz : sz P e = some z)
    (hb : bounds3 n n lo hi mx = some (l, h, k)) {b i : Nat} {f : E} (hf : φ b = some f) (ho : f.opn = false)
    (h1 : ∀ v, lo = some v → ∃ v', lo' = some v' ∧ VR φ v v') (h1n : lo = none → lo' = none)
    (h2 : ∀ v, hi = some v → ∃ v', hi' = some v' ∧ VR φ v v') (h2n : hi = none → hi' = none)
    (h3 : ∀ v, mx = some v → ∃ v', mx' = some v' ∧ VR φ v v') (h3n : mx = none → mx' = none) :
    Yi P φ (do
      let (l, h, m) ← Instr.sliceBounds false n n lo' hi' mx'
      let size ← sizeOf e
      pure (.slice (some (if m = l then ⟨f.C, f.o + i, none⟩ else (⟨f.C, f.o + i, none⟩ : Addr).add (l * size))) (h - l) (m - l)))
      (.slice (some (b, if k = l then i else i + l * z, z)) (h - l) (k - l)) := by
  refine ⟨.slice (some (if k = l then ⟨f.C, f.o + i, none⟩ else ⟨f.C, f.o + (i + l * z), none⟩)) (h - l) (k - l), fun w => ?_, ?_⟩
  · obtain ⟨hr, _, g2, _⟩ := bounds_sound (P := P) (isSlice := false) hb h1 h1n h2 h2n h3 h3n (Nat.le_refl n) w
    have hk : (if mx.isSome then k else n) = k := by
      cases mx with
      | none => simp [g2 rfl]
      | some u => simp
    rw [hk] at hr
    simp only [Sem.run_bind, hr, Result.andThen_ok, run_sz hz]
    show Result.ok _ w = Result.ok _ w
    congr 3
    split <;> simp [add_off, Nat.add_assoc]
  · split
    · exact .slice hf ho
    · exact .slice hf ho

theorem idx_sound {i : AV} {len k : Nat} {i' : Value} (h : idxOf i len = some k) (hi : VR φ i i') : ∃ kk n, i' = .int kk n ∧ 0 ≤ n ∧ n < len ∧ n.toNat = k := by
  unfold idxOf at h
  split at h
  · cases hi
    split at h
    · rename_i hn
      cases h
      exact ⟨_, _, rfl, hn.1, hn.2, rfl⟩
    · cases h
  · cases h

theorem mxn_sound (mx : Bool) : ∀ (l : List AV) (v r : AV) (l' : List Value) (v' : Value), mxnV mx v l = some r → VR φ v v' → VRs φ l l' →
    Yi P φ (l'.foldlM (if mx then Builtin.max2 else Builtin.min2) v') r
  | [], v, r, l', v', h, hv, hl => by
    cases hl
    simp only [mxnV, Option.some.injEq] at h
    subst h
    exact ⟨v', fun _ => rfl, hv⟩
  | u :: l, v, r, l', v', h, hv, hl => by
    unfold mxnV at h
    split at h
    · rename_i heq; cases heq
    · rename_i k x kk y l2 heq
      cases heq
      cases hl with
      | cons hu ht =>
        cases hv; cases hu
        obtain ⟨r', h1, h2⟩ := mxn_sound mx l _ r _ _ h (.int _ _) ht
        refine ⟨r', fun w => ?_, h2⟩
        cases mx
        · simp only [Bool.false_eq_true, if_false] at h1 ⊢
          simp only [List.foldlM_cons, Builtin.min2, pure_bind]
          exact h1 w
        · simp only [if_true] at h1 ⊢
          simp only [List.foldlM_cons, Builtin.max2, pure_bind]
          exact h1 w
    · cases h

end Go.Den
