/- The second evaluator: memory, regions, code, calls. -/
import Derived.Test.YtacmmkacdfhagaaGreatDoorDen7
import Derived.Carry
import Derived.ProofKit

set_option linter.unusedSimpArgs false
set_option linter.unusedVariables false
set_option linter.unusedSectionVars false
set_option linter.deprecated false

namespace Go.Den
open Go

/-! ## Memory -/
noncomputable def cellK (t : T AV) (size : Nat) (d : Option AV) (i : Nat) : Option AV :=
  Bool.rec (motive := fun _ => Option AV) none (Option.rec (motive := fun _ => Option AV) d (fun v => some v) (getP (pth i) t)) (Nat.ble (Nat.succ i) size)
theorem cellK_eq (t : T AV) (size : Nat) (d : Option AV) (el : TypeId) (md : Md) (i : Nat) : cellK t size d i = (Ob.cells t size d el md).cell i := by
  simp only [cellK, Ob.cell, getP_pth]
  cases h : Nat.ble (Nat.succ i) size with
  | false => rw [if_neg (by intro h2; rw [Nat.ble_eq_true_of_le h2] at h; cases h)]
  | true => rw [if_pos (show i < size from Nat.le_of_ble_eq_true h)]; cases t.get i <;> rfl

noncomputable def cellsK (t : T AV) (size : Nat) (d : Option AV) (n : Nat) : Nat → Option (List AV) :=
  Nat.rec (motive := fun _ => Nat → Option (List AV)) (fun _ => some [])
    (fun _ ih i => Option.rec (motive := fun _ => Option (List AV)) none (fun v => Option.rec (motive := fun _ => Option (List AV)) none (fun l => some (v :: l)) (ih (Nat.succ i))) (cellK t size d i)) n
theorem cellsK_eq (t : T AV) (size : Nat) (d : Option AV) (el : TypeId) (md : Md) : ∀ (n i : Nat), cellsK t size d n i = (Ob.cells t size d el md).cellsFrom i n
  | 0, i => rfl
  | n + 1, i => by
    show Option.rec (motive := fun _ => Option (List AV)) none (fun v => Option.rec (motive := fun _ => Option (List AV)) none (fun l => some (v :: l)) (cellsK t size d n (Nat.succ i))) (cellK t size d i) = _
    rw [cellK_eq t size d el md, cellsK_eq t size d el md n]
    simp only [Ob.cellsFrom]
    cases (Ob.cells t size d el md).cell i with
    | none => rfl
    | some v => cases (Ob.cells t size d el md).cellsFrom (i + 1) n <;> rfl

noncomputable def load1 (ob : Ob) : Nat → Option AV :=
  match ob with
  | .cells t size d _ _ => fun i => cellK t size d i
  | _ => fun _ => none
noncomputable def loadN (n : Nat) (ob : Ob) : Nat → Option AV :=
  match ob with
  | .cells t size d _ _ => fun i => (cellsK t size d n i).map .agg
  | ob => fun i => ob.loadV i (some n)
theorem load1_eq (ob : Ob) (i : Nat) : load1 ob i = ob.loadV i none := by
  cases ob <;> first | rfl | (rename_i t size d el md; exact cellK_eq t size d el md i)
theorem loadN_eq (n : Nat) (ob : Ob) (i : Nat) : loadN n ob i = ob.loadV i (some n) := by
  cases ob <;> first | rfl | (rename_i t size d el md; simp only [loadN, Ob.loadV]; rw [cellsK_eq t size d el md])

abbrev MK := Env → T AV → Me → (AV → Me → Bool) → Bool
structure MW where
  run : MK

noncomputable def atPtr (v : AV) (m : Me) (κ : Nat → Nat → Ob → Bool) : Bool :=
  PR.rec (motive := fun _ => Bool) false (fun b i => Option.rec (motive := fun _ => Bool) false (fun ob => κ b i ob) (getP (pth b) m.m)) (asPtr v)

noncomputable def load1K (x : Opd) : MK := fun e fr m κ => lookK x e fr fun v => atPtr v m fun _ i ob => bs (load1 ob i) fun v => κ v m
noncomputable def loadNK (n : Nat) (x : Opd) : MK := fun e fr m κ => lookK x e fr fun v => atPtr v m fun _ i ob => bf (loadN n ob i) fun v => κ v m
noncomputable def loadW (n : Option Nat) (x : Opd) : MW :=
  match n with
  | none => ⟨load1K x⟩
  | some n => ⟨loadNK n x⟩

noncomputable def putsK (vs : List AV) : T AV → Nat → (T AV → Bool) → Bool :=
  List.rec (motive := fun _ => T AV → Nat → (T AV → Bool) → Bool) (fun t _ κ => κ t) (fun v _ ih t i κ => forceT (setP (some v) (pth i) t) fun t => ih t (Nat.succ i) κ) vs
@[simp] theorem putsK_eq : ∀ (vs : List AV) (t : T AV) (i : Nat) (κ : T AV → Bool), putsK vs t i κ = κ (T.puts t i vs)
  | [], _, _, _ => rfl
  | v :: vs, t, i, κ => by
    show forceT (setP (some v) (pth i) t) _ = _
    rw [forceT_eq, setP_pth]
    exact putsK_eq vs _ _ κ

def mdOk : Md → Bool
  | .own => true
  | .open_ => true
  | _ => false

noncomputable def putC (cs : List AV) (t : T AV) (size : Nat) (d : Option AV) (el : TypeId) (md : Md) (i : Nat) (κ : Ob → Bool) : Bool :=
  Bool.rec (motive := fun _ => Bool) false (putsK cs t i fun t => κ (.cells t size d el md)) (and (Nat.ble (Nat.add i cs.length) size) (and (cs.all AV.one) (mdOk md)))
theorem putC_eq (cs : List AV) (t : T AV) (size : Nat) (d : Option AV) (el : TypeId) (md : Md) (i : Nat) (κ : Ob → Bool) : putC cs t size d el md i κ = bo ((Ob.cells t size d el md).putCells i cs) κ := by
  simp only [putC, Ob.putCells, putsK_eq]
  by_cases h : i + cs.length ≤ size
  · have h1 : Nat.ble (Nat.add i cs.length) size = true := Nat.ble_eq_true_of_le h
    rw [h1]
    cases h2 : cs.all AV.one with
    | false => simp [bo]
    | true => cases md <;> simp [mdOk, bo, h]
  · have h1 : Nat.ble (Nat.add i cs.length) size = false := by
      cases h3 : Nat.ble (Nat.add i cs.length) size with
      | false => rfl
      | true => exact absurd (Nat.le_of_ble_eq_true h3) h
    rw [h1]
    simp [bo, h]

noncomputable def putO (cs : List AV) (ob : Ob) : Nat → (Ob → Bool) → Bool :=
  match ob with
  | .cells t size d el md => fun i κ => putC cs t size d el md i κ
  | _ => fun _ _ => false
theorem putO_eq (cs : List AV) (ob : Ob) (i : Nat) (κ : Ob → Bool) : putO cs ob i κ = bo (ob.putCells i cs) κ := by
  cases ob <;> first | rfl | exact putC_eq _ _ _ _ _ _ _ _

noncomputable def storeK (n : Nat) (a x : Opd) : MK := fun e fr m κ => lookK a e fr fun p => atPtr p m fun b i ob => lookK x e fr fun v =>
  forceL v.cells fun cs => Bool.rec (motive := fun _ => Bool) false (putO cs ob i fun ob => forceT (setP (some ob) (pth b) m.m) fun t => κ .undef ⟨t, m.nx⟩) (Nat.beq cs.length n)

noncomputable def newK (ob : Ob) (m : Me) (κ : Nat → Me → Bool) : Bool :=
  forceN m.nx fun b => forceT (setP (some ob) (pth b) m.m) fun t => κ b ⟨t, Nat.succ b⟩
@[simp] theorem newK_eq (ob : Ob) (m : Me) (κ : Nat → Me → Bool) : newK ob m κ = κ m.nx (m.new ob) := by
  simp only [newK, forceN_eq, forceT_eq, setP_pth]; rfl

noncomputable def zboxK (el : TypeId) (z : List AV) : MK := fun _ _ m κ => newK (ownOb el z) m fun b m => κ (.ptr (some (b, 0))) m
noncomputable def boxK (el : TypeId) (x : Opd) : MK := fun e fr m κ => lookK x e fr fun v => forceL v.cells fun cs =>
  Bool.rec (motive := fun _ => Bool) false (putsK cs .e 0 fun t => newK (.cells t cs.length none el .own) m fun b m => κ (.ptr (some (b, 0))) m) (cs.all AV.one)

noncomputable def allocK (o : AOp) : MK := fun e fr m κ =>
  Option.rec (motive := fun _ => Bool) false (fun p => newK p.1 m fun b m => forceV (p.2 b) fun v => κ v m) (allocV (look e fr) o)
noncomputable def readK (o : AOp) : MK := fun e fr m κ => bf (readV (look e fr) m o) fun v => κ v m

noncomputable def b2f (o : Option (AV × Me)) (κ : AV → Me → Bool) : Bool :=
  match o with
  | some (v, m) => forceV v fun v => forceT m.m fun t => forceN m.nx fun n => κ v ⟨t, n⟩
  | none => false
@[simp] theorem b2f_eq (o : Option (AV × Me)) (κ : AV → Me → Bool) : b2f o κ = b2 o κ := by
  rcases o with _ | ⟨v, m⟩
  · rfl
  · simp only [b2f, b2, forceV_eq, forceT_eq, forceN_eq]
noncomputable def effK (o : AOp) : MK := fun e fr m κ => b2f (simpleV (look e fr) m o) κ

noncomputable def clsW (c : Cls) (o : AOp) : MW :=
  match c with
  | .pure => ⟨fun e fr m κ => pureK o e fr fun v => κ v m⟩
  | .read => ⟨readK o⟩
  | .alloc => ⟨allocK o⟩
  | _ => ⟨effK o⟩

noncomputable def simpleW (o : AOp) : MW :=
  match o with
  | .load n x => loadW n x
  | .store n a x => ⟨storeK n a x⟩
  | .zbox el z => ⟨zboxK el z⟩
  | .box el x => ⟨boxK el x⟩
  | o => clsW o.cls o

theorem atPtr_eq (v : AV) (m : Me) (κ : Nat → Nat → Ob → Bool) : atPtr v m κ = (match v with | .ptr (some (b, i)) => bo (m.get b) (κ b i) | _ => false) := by
  unfold atPtr
  cases v <;> first
    | rfl
    | (rename_i a
       rcases a with _ | ⟨b, i⟩
       · rfl
       · show Option.rec (motive := fun _ => Bool) false (fun ob => κ b i ob) (getP (pth b) m.m) = _
         rw [getP_pth]
         show _ = bo (m.m.get b) (κ b i)
         cases m.m.get b <;> rfl)

theorem clsW_eq (o : AOp) (e : Env) (fr : T AV) (m : Me) (κ : AV → Me → Bool) : (clsW o.cls o).run e fr m κ = b2 (simpleV (look e fr) m o) κ := by
  cases h : o.cls with
  | pure => simp only [clsW, pureK_eq, simpleV, h]; cases pureV (look e fr) o <;> rfl
  | read => simp only [clsW, readK, bf_eq, simpleV, h]; cases readV (look e fr) m o <;> rfl
  | alloc =>
    simp only [clsW, allocK, newK_eq, forceV_eq, simpleV, h]
    rcases allocV (look e fr) o with _ | ⟨ob, f⟩ <;> rfl
  | store => simp only [clsW, effK, b2f_eq]
  | eff => simp only [clsW, effK, b2f_eq]

theorem simpleW_eq (o : AOp) (e : Env) (fr : T AV) (m : Me) (κ : AV → Me → Bool) : (simpleW o).run e fr m κ = b2 (simpleV (look e fr) m o) κ := by
  cases o with
  | load n x =>
    have h : (AOp.load n x).cls = .read := rfl
    cases n with
    | none =>
      simp only [simpleW, loadW, load1K, lookK_eq, atPtr_eq, bs_eq, load1_eq, simpleV, h, readV]
      cases look e fr x <;> first
        | rfl
        | (rename_i a
           rcases a with _ | ⟨b, i⟩
           · rfl
           · dsimp only
             cases m.get b with
             | none => rfl
             | some ob => show bo (ob.loadV i none) (fun v => κ v m) = b2 ((ob.loadV i none).map fun v => (v, m)) κ; cases ob.loadV i none <;> rfl)
    | some n =>
      simp only [simpleW, loadW, loadNK, lookK_eq, atPtr_eq, bf_eq, loadN_eq, simpleV, h, readV]
      cases look e fr x <;> first
        | rfl
        | (rename_i a
           rcases a with _ | ⟨b, i⟩
           · rfl
           · dsimp only
             cases m.get b with
             | none => rfl
             | some ob => show bo (ob.loadV i (some n)) (fun v => κ v m) = b2 ((ob.loadV i (some n)).map fun v => (v, m)) κ; cases ob.loadV i (some n) <;> rfl)
  | store n a x =>
    have h : (AOp.store n a x).cls = .store := rfl
    simp only [simpleW, storeK, lookK_eq, atPtr_eq, forceL_eq, putO_eq, forceT_eq, setP_pth, simpleV, h, storeV]
    cases look e fr a <;> first
      | rfl
      | (rename_i a
         rcases a with _ | ⟨b, i⟩
         · rfl
         · dsimp only
           cases hb : m.get b with
           | none => show false = _; split <;> rfl
           | some ob =>
             show Bool.rec (motive := fun _ => Bool) false _ (Nat.beq (look e fr x).cells.length n) = _
             by_cases hn : (look e fr x).cells.length = n
             · rw [if_neg (by simpa using hn), Nat.beq_eq.mpr hn]
               show bo (ob.putCells i (look e fr x).cells) (fun ob => κ .undef ⟨m.m.set b ob, m.nx⟩) = b2 (((ob.putCells i (look e fr x).cells).map fun ob => m.put b ob).map fun m => (.undef, m)) κ
               cases ob.putCells i (look e fr x).cells <;> rfl
             · rw [if_pos hn]
               have : Nat.beq (look e fr x).cells.length n = false := by
                 cases h3 : Nat.beq (look e fr x).cells.length n with
                 | false => rfl
                 | true => exact absurd (Nat.eq_of_beq_eq_true h3) hn
               rw [this]; rfl)
  | zbox el z => simp only [simpleW, zboxK, newK_eq]; rfl
  | box el x =>
    have h : (AOp.box el x).cls = .alloc := rfl
    simp only [simpleW, boxK, lookK_eq, forceL_eq, putsK_eq, newK_eq, simpleV, h, allocV]
    cases h2 : (look e fr x).cells.all AV.one with
    | false => simp [b2]
    | true => simp [b2, ownOb]
  | _ => simp only [simpleW]; exact clsW_eq _ e fr m κ

/-! ## Regions -/
abbrev CallK := FuncId → List AV → Me → (AV → Me → Bool) → Bool
abbrev RoundK := Nat → List AV → Me → (AV → Me → Bool) → Bool

structure OW where
  run : CallK → RoundK → Env → T AV → Me → (AV → Me → Bool) → Bool

noncomputable def targetK (cf : CallK) (rd : RoundK) (f : AV) : List AV → Me → (AV → Me → Bool) → Bool :=
  match f with
  | .func (.func g) first cap => fun args => forceL (first ++ args ++ cap) (cf g)
  | .func (.yield l) first _ => fun args => forceL (first ++ args) (rd l)
  | _ => fun _ _ _ => false

noncomputable def callW (f : Opd) (args : List Opd) : OW :=
  match f with
  | .func g => ⟨fun cf _ e fr m κ => lookKs args e fr fun vs => cf g vs m κ⟩
  | f => ⟨fun cf rd e fr m κ => lookK f e fr fun fv => lookKs args e fr fun vs => targetK cf rd fv vs m κ⟩

noncomputable def operW (o : AOp) : OW :=
  match o with
  | .call f args => callW f args
  | .invoke .. => ⟨fun _ _ _ _ _ _ => false⟩
  | o => ⟨fun _ _ => (simpleW o).run⟩

def CallKV (cf : CallK) (callF : CallF) : Prop := ∀ f args m κ, cf f args m κ = b2 (callF f args m) κ
def RoundKV (rd : RoundK) (round : Nat → List AV → Me → Option (AV × Me)) : Prop := ∀ l args m κ, rd l args m κ = b2 (round l args m) κ

theorem targetK_eq {cf : CallK} {callF : CallF} (hc : CallKV cf callF) {rd : RoundK} {round : Nat → List AV → Me → Option (AV × Me)} (hr : RoundKV rd round) (f : AV) (args : List AV) (m : Me) (κ : AV → Me → Bool) :
    targetK cf rd f args m κ = b2 (targetV callF round f args m) κ := by
  cases f <;> first
    | rfl
    | (rename_i fn first cap
       cases fn <;> first
         | rfl
         | (simp only [targetK, targetV, forceL_eq]; first | exact hc _ _ _ _ | exact hr _ _ _ _))

theorem operW_eq {cf : CallK} {callF : CallF} (hc : CallKV cf callF) {rd : RoundK} {round : Nat → List AV → Me → Option (AV × Me)} (hr : RoundKV rd round) (o : AOp) (e : Env) (fr : T AV) (m : Me) (κ : AV → Me → Bool) :
    (operW o).run cf rd e fr m κ = b2 (operV callF round (look e fr) m o) κ := by
  cases o with
  | call f args =>
    cases f with
    | func g =>
      simp only [operW, callW, lookKs_eq, operV, look, targetV]
      rw [hc]; simp
    | _ => simp only [operW, callW, lookK_eq, lookKs_eq, operV]; exact targetK_eq hc hr _ _ _ _
  | invoke r n l => rfl
  | _ => simp only [operW, operV]; exact simpleW_eq _ e fr m κ

structure RW where
  run : CallK → RoundK → Env → T AV → Me → (T AV → Me → Bool) → Bool

noncomputable def doW (op : OW) (dst : Option (Bool × Nat)) (w : RW) : RW :=
  match dst with
  | none => ⟨fun cf rd e fr m κ => op.run cf rd e fr m fun _ m => w.run cf rd e fr m κ⟩
  | some (true, d) => ⟨fun cf rd e fr m κ => op.run cf rd e fr m fun v m => forceT (setP (some v) (pth d) fr) fun fr => w.run cf rd e fr m κ⟩
  | some (false, d) => ⟨fun cf rd e fr m κ => op.run cf rd e fr m fun v m => w.run cf rd ((d, v) :: e) fr m κ⟩

theorem doW_eq (op : OW) (dst : Option (Bool × Nat)) (w : RW) (cf : CallK) (rd : RoundK) (e : Env) (fr : T AV) (m : Me) (κ : T AV → Me → Bool) :
    (doW op dst w).run cf rd e fr m κ = op.run cf rd e fr m fun v m => w.run cf rd (putE e dst v) (putV fr dst v) m κ := by
  rcases dst with _ | ⟨_ | _, d⟩
  · rfl
  · rfl
  · simp only [doW, forceT_eq, setP_pth]; rfl

def undW : OW := ⟨fun _ _ _ _ m κ => κ .undef m⟩

inductive GR where
  | no | t | f
/-- Is an operation wanted? -/
noncomputable def grOf (want : Bool) (v : AV) : GR :=
  match v with
  | .bool b => Bool.rec (motive := fun _ => GR) (Bool.rec (motive := fun _ => GR) .t .f want) (Bool.rec (motive := fun _ => GR) .f .t want) b
  | .unk => .no
  | _ => .f

noncomputable def guardW (g : Option (Opd × Bool)) (a b : RW) : RW :=
  match g with
  | none => a
  | some (x, want) => ⟨fun cf rd e fr m κ => lookK x e fr fun v => GR.rec (motive := fun _ => Bool) false (a.run cf rd e fr m κ) (b.run cf rd e fr m κ) (grOf want v)⟩

theorem guardW_eq (g : Option (Opd × Bool)) (a b : RW) (cf : CallK) (rd : RoundK) (e : Env) (fr : T AV) (m : Me) (κ : T AV → Me → Bool) :
    (guardW g a b).run cf rd e fr m κ = (match wantedV e fr g with | some true => a.run cf rd e fr m κ | some false => b.run cf rd e fr m κ | none => false) := by
  rcases g with _ | ⟨x, want⟩
  · rfl
  · simp only [guardW, lookK_eq, wantedV]
    cases look e fr x <;> first
      | rfl
      | (rename_i v; cases v <;> cases want <;> rfl)

noncomputable def opsW (l : List AOper) : RW :=
  List.rec (motive := fun _ => RW) ⟨fun _ _ _ fr m κ => κ fr m⟩ (fun o _ ih => guardW o.guard (doW (operW o.op) o.dst ih) (doW undW o.dst ih)) l

/-- An answer of a region. -/
def br (o : Option (T AV × Me)) (κ : T AV → Me → Bool) : Bool :=
  match o with
  | some (fr, m) => κ fr m
  | none => false

theorem opsW_eq {cf : CallK} {callF : CallF} (hc : CallKV cf callF) {rd : RoundK} {round : Nat → List AV → Me → Option (AV × Me)} (hr : RoundKV rd round) :
    ∀ (l : List AOper) (e : Env) (fr : T AV) (m : Me) (κ : T AV → Me → Bool), (opsW l).run cf rd e fr m κ = br (opsV callF round l e fr m) κ
  | [], e, fr, m, κ => rfl
  | o :: l, e, fr, m, κ => by
    show (guardW o.guard (doW (operW o.op) o.dst (opsW l)) (doW undW o.dst (opsW l))).run cf rd e fr m κ = _
    rw [guardW_eq]
    simp only [opsV]
    cases wantedV e fr o.guard with
    | none => rfl
    | some b =>
      cases b with
      | false => dsimp only; rw [doW_eq]; exact opsW_eq hc hr l _ _ _ _
      | true =>
        dsimp only
        rw [doW_eq, operW_eq hc hr]
        rcases operV callF round (look e fr) m o.op with _ | ⟨v, m2⟩
        · rfl
        · exact opsW_eq hc hr l _ _ _ _

/-! ## Regions that draw their order -/
structure DW where
  run : CallK → RoundK → Env → T AV → Me → Me → List Me → List Rd → (T AV → Me → Bool) → Bool

noncomputable def readD (o : AOper) (w : DW) : DW :=
  ⟨fun cf rd e fr m mh old rds κ => (operW o.op).run cf rd e fr m fun v m' =>
    Bool.rec (motive := fun _ => Bool) false
      (w.run cf rd (putE e o.dst v) (putV fr o.dst v) m' mh old (if o.late = 0 then rds else ⟨o.late, o.op, e, fr, v⟩ :: rds) κ)
      ((old.take o.early).all fun x => againV x ⟨0, o.op, e, fr, v⟩)⟩
noncomputable def plainD (op : OW) (dst : Option (Bool × Nat)) (w : DW) : DW :=
  match dst with
  | none => ⟨fun cf rd e fr m mh old rds κ => op.run cf rd e fr m fun _ m => w.run cf rd e fr m mh old rds κ⟩
  | some (true, d) => ⟨fun cf rd e fr m mh old rds κ => op.run cf rd e fr m fun v m => forceT (setP (some v) (pth d) fr) fun fr => w.run cf rd e fr m mh old rds κ⟩
  | some (false, d) => ⟨fun cf rd e fr m mh old rds κ => op.run cf rd e fr m fun v m => w.run cf rd ((d, v) :: e) fr m mh old rds κ⟩
theorem plainD_eq (op : OW) (dst : Option (Bool × Nat)) (w : DW) (cf : CallK) (rd : RoundK) (e : Env) (fr : T AV) (m mh : Me) (old : List Me) (rds : List Rd) (κ : T AV → Me → Bool) :
    (plainD op dst w).run cf rd e fr m mh old rds κ = op.run cf rd e fr m fun v m => w.run cf rd (putE e dst v) (putV fr dst v) m mh old rds κ := by
  rcases dst with _ | ⟨_ | _, d⟩
  · rfl
  · rfl
  · simp only [plainD, forceT_eq, setP_pth]; rfl

noncomputable def allRd (m : Me) (rds : List Rd) (κ : Bool) : Bool :=
  List.rec (motive := fun _ => Bool) κ (fun r _ ih => Bool.rec (motive := fun _ => Bool) false ih (againV m r)) rds
theorem allRd_eq (m : Me) (rds : List Rd) (κ : Bool) : allRd m rds κ = (rds.all (againV m) && κ) := by
  induction rds with
  | nil => rfl
  | cons r l ih => show Bool.rec (motive := fun _ => Bool) false (allRd m l κ) (againV m r) = _; rw [ih, List.all_cons]; cases againV m r <;> simp

noncomputable def heavyD (op : OW) (dst : Option (Bool × Nat)) (w : DW) : DW :=
  ⟨fun cf rd e fr m mh old rds κ => op.run cf rd e fr m fun v m => allRd m rds (w.run cf rd (putE e dst v) (putV fr dst v) m m (mh :: old) (nextR rds) κ)⟩

noncomputable def kindD (c : Cls) (o : AOper) (w : DW) : DW :=
  match c with
  | .read => readD o w
  | .eff => heavyD (operW o.op) o.dst w
  | .store => heavyD (operW o.op) o.dst w
  | _ => plainD (operW o.op) o.dst w
noncomputable def skipD (c : Cls) (o : AOper) (w : DW) : DW :=
  match c with
  | .eff => heavyD undW o.dst w
  | .store => heavyD undW o.dst w
  | _ => plainD undW o.dst w

noncomputable def guardD (g : Option (Opd × Bool)) (a b : DW) : DW :=
  match g with
  | none => a
  | some (x, want) => ⟨fun cf rd e fr m mh old rds κ => lookK x e fr fun v => GR.rec (motive := fun _ => Bool) false (a.run cf rd e fr m mh old rds κ) (b.run cf rd e fr m mh old rds κ) (grOf want v)⟩
theorem guardD_eq (g : Option (Opd × Bool)) (a b : DW) (cf : CallK) (rd : RoundK) (e : Env) (fr : T AV) (m mh : Me) (old : List Me) (rds : List Rd) (κ : T AV → Me → Bool) :
    (guardD g a b).run cf rd e fr m mh old rds κ = (match wantedV e fr g with | some true => a.run cf rd e fr m mh old rds κ | some false => b.run cf rd e fr m mh old rds κ | none => false) := by
  rcases g with _ | ⟨x, want⟩
  · rfl
  · simp only [guardD, lookK_eq, wantedV]
    cases look e fr x <;> first
      | rfl
      | (rename_i v; cases v <;> cases want <;> rfl)

noncomputable def drawW (l : List AOper) : DW :=
  List.rec (motive := fun _ => DW) ⟨fun _ _ _ fr m _ _ _ κ => κ fr m⟩ (fun o _ ih => guardD o.guard (kindD o.op.cls o ih) (skipD o.op.cls o ih)) l

theorem drawW_eq {cf : CallK} {callF : CallF} (hc : CallKV cf callF) {rd : RoundK} {round : Nat → List AV → Me → Option (AV × Me)} (hr : RoundKV rd round) :
    ∀ (l : List AOper) (e : Env) (fr : T AV) (m mh : Me) (old : List Me) (rds : List Rd) (κ : T AV → Me → Bool), (drawW l).run cf rd e fr m mh old rds κ = br (drawV callF round l e fr m mh old rds) κ
  | [], e, fr, m, mh, old, rds, κ => rfl
  | o :: l, e, fr, m, mh, old, rds, κ => by
    show (guardD o.guard (kindD o.op.cls o (drawW l)) (skipD o.op.cls o (drawW l))).run cf rd e fr m mh old rds κ = _
    rw [guardD_eq]
    simp only [drawV]
    cases wantedV e fr o.guard with
    | none => rfl
    | some b =>
      cases b with
      | false =>
        dsimp only
        cases h : o.op.cls <;> simp only [skipD, heavyC, if_true, Bool.false_eq_true, if_false]
        case pure | read | alloc => rw [plainD_eq]; exact drawW_eq hc hr l _ _ _ _ _ _ _
        case eff | store =>
          show allRd m rds _ = _
          rw [allRd_eq, drawW_eq hc hr l]
          cases rds.all (againV m) <;> simp [br]
      | true =>
        dsimp only
        cases h : o.op.cls <;> simp only [kindD]
        case pure | alloc =>
          rw [plainD_eq, operW_eq hc hr]
          rcases operV callF round (look e fr) m o.op with _ | ⟨v, m2⟩
          · rfl
          · exact drawW_eq hc hr l _ _ _ _ _ _ _
        case read =>
          show (operW o.op).run cf rd e fr m _ = _
          rw [operW_eq hc hr]
          rcases operV callF round (look e fr) m o.op with _ | ⟨v, m2⟩
          · rfl
          · simp only [b2]
            cases (old.take o.early).all fun x => againV x ⟨0, o.op, e, fr, v⟩
            · simp [br]
            · simp only [if_true]; exact drawW_eq hc hr l _ _ _ _ _ _ _
        case eff | store =>
          show (operW o.op).run cf rd e fr m _ = _
          rw [operW_eq hc hr]
          rcases operV callF round (look e fr) m o.op with _ | ⟨v, m2⟩
          · rfl
          · simp only [b2]
            rw [allRd_eq, drawW_eq hc hr l]
            cases rds.all (againV m2) <;> simp [br]

/-! ## Code -/
abbrev XK := Ex → T AV → List Nat → Me → Bool
abbrev EK := ACode → Option Nat → FuncId → T AV → List Nat → Me → XK → Bool
structure EX where
  E : EK
  R : RoundK

structure CW where
  run : (FuncId → Bool) → CallK → EX → Option Nat → FuncId → T AV → List Nat → Me → XK → Bool

noncomputable def thenK (x : Ex) : (Unit → Bool) → (Ex → Bool) → Bool :=
  match x with
  | .nrm => fun a _ => a ()
  | x => fun _ b => b x

noncomputable def leaveK (id : Nat) (x : Ex) : (Ex → Bool) → Bool :=
  match x with
  | .exit i => fun κ => Bool.rec (motive := fun _ => Bool) (κ (.exit i)) (κ .nrm) (Nat.beq i id)
  | x => fun κ => κ x

noncomputable def rangeK (f : Opd) (ps : List Nat) (a b : ACode) (isB : FuncId → Bool) (cf : CallK) (ih : EX) (rd : Option Nat) (fn : FuncId) (fr : T AV) (ds0 : List Nat) (m0 : Me) (κ : XK) : Bool :=
  match enterV rd ⟨fr, ds0, m0⟩ with
  | none => false
  | some (dn, ds, m) =>
    match look [] fr f with
    | .func (.func g) first cap =>
      if !isB g then false else
      newK (.loop { state := .ready, pend := none, fn := fn, fr := fr, params := ps, assign := a, body := b, defers := dn }) m fun l m' =>
      cf g (first ++ [.func (.yield l) [] []] ++ cap) m' fun _ m' =>
        match m'.loop l with
        | some p =>
          if p.state = .busy then false else
          forceT (setP (some (.loop { p with state := .exhausted })) (pth l) m'.m) fun t =>
          match p.pend with
          | none => κ .nrm fr ds ⟨t, m'.nx⟩
          | some c => ih.E c rd fn fr ds ⟨t, m'.nx⟩ κ
        | none => false
    | _ => false

noncomputable def roundK (ih : EX) (l : Nat) (args : List AV) (m : Me) (κ : AV → Me → Bool) : Bool :=
  match m.loop l with
  | none => false
  | some p =>
    if args.length ≠ p.params.length then false else
    forceT (putAll p.fr p.params args) fun fr =>
    ih.E p.assign (some l) p.fn fr [] m fun x fr ds m =>
      match x with
      | .nrm =>
        match m.loop l with
        | none => false
        | some p2 =>
          if p2.state ≠ .ready then false else
          forceT (setP (some (.loop { p2 with state := .busy })) (pth l) m.m) fun t =>
          ih.E p.body (some l) p.fn fr ds ⟨t, m.nx⟩ fun x fr ds m =>
            if !ds.isEmpty then false else
            match m.loop l with
            | none => false
            | some p3 =>
              match x with
              | .nrm => forceT (setP (some (.loop { p3 with state := .ready, pend := none })) (pth l) m.m) fun t => κ (.bool true) ⟨t, m.nx⟩
              | .exit i => forceT (setP (some (.loop { p3 with state := .done, pend := some (.exit i) })) (pth l) m.m) fun t => κ (.bool false) ⟨t, m.nx⟩
              | .ret => forceT (setP (some (.loop { p3 with state := .done, pend := some .ret })) (pth l) m.m) fun t => κ (.bool false) ⟨t, m.nx⟩
      | _ => false

noncomputable def codeW (c : ACode) : CW :=
  match c with
  | .skip => ⟨fun _ _ _ _ _ fr ds m κ => κ .nrm fr ds m⟩
  | .ops l => ⟨fun _ cf ih _ _ fr ds m κ => (opsW l).run cf ih.R [] fr m fun fr m => κ .nrm fr ds m⟩
  | .draw l => ⟨fun _ cf ih _ _ fr ds m κ => (drawW l).run cf ih.R [] fr m m [] [] fun fr m => κ .nrm fr ds m⟩
  | .seq a b => ⟨fun _ _ ih rd fn fr ds m κ => ih.E a rd fn fr ds m fun x fr ds m => thenK x (fun _ => ih.E b rd fn fr ds m κ) (fun x => κ x fr ds m)⟩
  | .cond x a b => ⟨fun _ _ ih rd fn fr ds m κ => lookK x [] fr fun v => BR.rec (motive := fun _ => Bool) false (ih.E a rd fn fr ds m κ) (ih.E b rd fn fr ds m κ) (asBool v)⟩
  | .block id b => ⟨fun _ _ ih rd fn fr ds m κ => ih.E b rd fn fr ds m fun x fr ds m => leaveK id x fun x => κ x fr ds m⟩
  | .loop b => ⟨fun _ _ ih rd fn fr ds m κ => ih.E b rd fn fr ds m fun x fr ds m => thenK x (fun _ => ih.E (.loop b) rd fn fr ds m κ) (fun x => κ x fr ds m)⟩
  | .exit id => ⟨fun _ _ _ _ _ fr ds m κ => κ (.exit id) fr ds m⟩
  | .ret => ⟨fun _ _ _ _ _ fr ds m κ => κ .ret fr ds m⟩
  | .rangeFunc f ps a b => ⟨rangeK f ps a b⟩
  | .bad => ⟨fun _ _ _ _ _ _ _ _ _ => false⟩

noncomputable def exK (isB : FuncId → Bool) (cf : CallK) (n : Nat) : EX :=
  Nat.rec (motive := fun _ => EX) ⟨fun _ _ _ _ _ _ _ => false, fun _ _ _ _ => false⟩ (fun _ ih => ⟨fun c => (codeW c).run isB cf ih, roundK ih⟩) n

/-- An answer of code. -/
def bx (o : Option (Ex × St)) (κ : XK) : Bool :=
  match o with
  | some (x, s) => κ x s.fr s.ds s.m
  | none => false

theorem thenK_eq (x : Ex) (a : Unit → Bool) (b : Ex → Bool) : thenK x a b = (match x with | .nrm => a () | x => b x) := by cases x <;> rfl
theorem leaveK_eq (id : Nat) (x : Ex) (κ : Ex → Bool) : leaveK id x κ = (match x with | .exit i => if i = id then κ .nrm else κ (.exit i) | x => κ x) := by
  cases x with
  | exit i =>
    simp only [leaveK]
    by_cases h : i = id
    · rw [if_pos h, Nat.beq_eq.mpr h]
    · rw [if_neg h]
      have : Nat.beq i id = false := by
        cases h3 : Nat.beq i id with
        | false => rfl
        | true => exact absurd (Nat.eq_of_beq_eq_true h3) h
      rw [this]
  | _ => rfl

theorem exK_eq {isB : FuncId → Bool} {cf : CallK} {callF : CallF} (hc : CallKV cf callF) :
    ∀ n, (∀ c rd fn fr ds m κ, (exK isB cf n).E c rd fn fr ds m κ = bx (exec isB callF n rd fn c ⟨fr, ds, m⟩) κ) ∧ RoundKV (exK isB cf n).R (roundV isB callF n)
  | 0 => ⟨fun c rd fn fr ds m κ => by simp only [exec]; rfl, fun l args m κ => by simp only [roundV]; rfl⟩
  | n + 1 => by
    obtain ⟨ihE, ihR⟩ := exK_eq (isB := isB) hc n
    refine ⟨fun c rd fn fr ds m κ => ?_, fun l args m κ => ?_⟩
    · show (codeW c).run isB cf (exK isB cf n) rd fn fr ds m κ = _
      cases c with
      | skip => simp only [exec]; rfl
      | ops l =>
        simp only [codeW, exec]
        rw [opsW_eq hc ihR]
        rcases opsV callF (roundV isB callF n) l [] fr m with _ | ⟨fr2, m2⟩ <;> rfl
      | draw l =>
        simp only [codeW, exec]
        rw [drawW_eq hc ihR]
        rcases drawV callF (roundV isB callF n) l [] fr m m [] [] with _ | ⟨fr2, m2⟩ <;> rfl
      | seq a b =>
        simp only [codeW, exec, ihE, thenK_eq]
        rcases exec isB callF n rd fn a ⟨fr, ds, m⟩ with _ | ⟨x, s⟩
        · rfl
        · cases x <;> rfl
      | cond x a b =>
        simp only [codeW, exec, lookK_eq, ihE]
        cases look [] fr x <;> first
          | rfl
          | (rename_i v; cases v <;> rfl)
      | block id b =>
        simp only [codeW, exec, ihE, leaveK_eq]
        rcases exec isB callF n rd fn b ⟨fr, ds, m⟩ with _ | ⟨x, s⟩
        · rfl
        · cases x with
          | exit i => simp only [bx]; split <;> rfl
          | _ => rfl
      | loop b =>
        simp only [codeW, exec, ihE, thenK_eq]
        rcases exec isB callF n rd fn b ⟨fr, ds, m⟩ with _ | ⟨x, s⟩
        · rfl
        · cases x <;> rfl
      | rangeFunc f ps a b =>
        simp only [codeW, exec, rangeK, newK_eq, forceT_eq, setP_pth]
        rcases enterV rd ⟨fr, ds, m⟩ with _ | ⟨dn, ds2, m2⟩
        · rfl
        · dsimp only
          cases look [] fr f <;> first
            | rfl
            | (rename_i g first cap
               cases g <;> first
                 | rfl
                 | (rename_i g
                    dsimp only
                    cases isB g with
                    | false => rfl
                    | true =>
                      simp only [Bool.not_true, Bool.false_eq_true, if_false]
                      rw [hc]
                      rcases callF g (first ++ [AV.func (.yield m2.nx) [] []] ++ cap) (m2.new _) with _ | ⟨v, m3⟩
                      · rfl
                      · simp only [b2]
                        rcases m3.loop m2.nx with _ | p
                        · rfl
                        · dsimp only
                          by_cases hb : p.state = .busy
                          · rw [if_pos hb, if_pos hb]; rfl
                          · rw [if_neg hb, if_neg hb]
                            cases p.pend with
                            | none => rfl
                            | some c => exact ihE _ _ _ _ _ _ _))
      | exit id => simp only [exec]; rfl
      | ret => simp only [exec]; rfl
      | bad => simp only [exec]; rfl
    · show roundK (exK isB cf n) l args m κ = _
      simp only [roundK, roundV, forceT_eq, setP_pth, ihE]
      rcases m.loop l with _ | p
      · rfl
      · dsimp only
        by_cases hl : args.length ≠ p.params.length
        · rw [if_pos hl, if_pos hl]; rfl
        · rw [if_neg hl, if_neg hl]
          rcases exec isB callF n (some l) p.fn p.assign ⟨putAll p.fr p.params args, [], m⟩ with _ | ⟨x, s⟩
          · rfl
          · cases x with
            | nrm =>
              simp only [bx]
              rcases s.m.loop l with _ | p2
              · rfl
              · dsimp only
                by_cases hs : p2.state ≠ .ready
                · rw [if_pos hs, if_pos hs]; rfl
                · rw [if_neg hs, if_neg hs]
                  rcases s with ⟨fr2, ds2, m2⟩
                  simp only [Me.put]
                  generalize exec isB callF n (some l) p.fn p.body _ = E
                  rcases E with _ | ⟨x, s⟩
                  · rfl
                  · dsimp only
                    cases s.ds.isEmpty with
                    | false => rfl
                    | true =>
                      simp only [Bool.not_true, Bool.false_eq_true, if_false]
                      rcases s.m.loop l with _ | p3
                      · rfl
                      · cases x <;> rfl
            | _ => rfl

/-! ## Calls -/
noncomputable def resK (fr : T AV) (m : Me) (l : List ARes) : (List AV → Bool) → Bool :=
  match resV fr m l with
  | some vs => forceL vs
  | none => fun _ => false

noncomputable def oneK (vs : List AV) : (AV → Bool) → Bool :=
  match vs with
  | [v] => fun κ => forceV v κ
  | vs => fun κ => κ (.tuple vs)

structure FW where
  run : (FuncId → Bool) → (CallK) → Nat → List AV → Me → (AV → Me → Bool) → Bool

noncomputable def takeK (ds : List Nat) (m : Me) (κ : Me → Bool) : Bool :=
  match takeDs m ds with
  | some m => forceT m.m fun t => κ ⟨t, m.nx⟩
  | none => false

noncomputable def bodyK (f : FuncId) (na : Nat) (rs : List ARes) (c : ACode) (isB : FuncId → Bool) (cf : CallK) (fuel : Nat) (args : List AV) (m : Me) (κ : AV → Me → Bool) : Bool :=
  if na < args.length then false else
  putsK args .e 0 fun fr => (exK isB cf fuel).E c none f fr [] m fun x fr ds m =>
    match x with
    | .exit _ => false
    | _ => takeK ds m fun m => resK fr m rs fun vs => oneK vs fun v => κ v m

noncomputable def funcW (f : FuncId) (a : Option AFunc) : FW :=
  match a with
  | none => ⟨fun _ _ _ _ _ _ => false⟩
  | some (.ext x) => ⟨fun _ _ _ args m κ => b2f (extV x args m) κ⟩
  | some (.body na _ rs c) => ⟨bodyK f na rs c⟩

noncomputable def zedK (z : Bool) (g : Nat) (w : (List AV → Me → (AV → Me → Bool) → Bool)) (args : List AV) (m : Me) (κ : AV → Me → Bool) : Bool :=
  Bool.rec (motive := fun _ => Bool) (w args m κ) (Bool.rec (motive := fun _ => Bool) false (w args ⟨.e, g⟩ fun v _ => Bool.rec (motive := fun _ => Bool) false (κ v m) v.flat) (args.all AV.flat)) z

noncomputable def callK (X : FuncId → List AV → Option AV) (Z : FuncId → Bool) (g : Nat) (F : FuncId → Option AFunc) (fuel : Nat) (d : Nat) : CallK :=
  Nat.rec (motive := fun _ => CallK) (fun _ _ _ _ => false) (fun _ ih f args m κ =>
    Option.rec (motive := fun _ => Bool) (zedK (Z f) g ((funcW f (F f)).run (isBody F) ih fuel) args m κ) (fun v => κ v m) (X f args)) d

theorem resK_eq (fr : T AV) (m : Me) (l : List ARes) (κ : List AV → Bool) : resK fr m l κ = bo (resV fr m l) κ := by
  unfold resK
  cases resV fr m l with
  | none => rfl
  | some vs => simp [bo]

theorem funcW_eq {F : FuncId → Option AFunc} {fuel : Nat} {cK : CallK} {cf : CallF} (ih : CallKV cK cf) (f : FuncId) (args : List AV) (m : Me) (κ : AV → Me → Bool) :
    (funcW f (F f)).run (isBody F) cK fuel args m κ = b2 (callStep F fuel cf f args m) κ := by
  simp only [callStep]
  rcases hf : F f with _ | a
  · rfl
  · cases a with
    | ext x => simp only [funcW, b2f_eq]
    | body na nt rs c =>
      simp only [funcW, bodyK]
      by_cases hn : na < args.length
      · rw [if_pos hn, if_pos hn]; rfl
      · rw [if_neg hn, if_neg hn, putsK_eq, (exK_eq ih fuel).1]
        rcases exec (isBody F) cf fuel none f c ⟨T.puts .e 0 args, [], m⟩ with _ | ⟨x, s⟩
        · rfl
        · simp only [bx]
          cases x with
          | exit i => rfl
          | nrm | ret =>
            dsimp only
            simp only [takeK]
            cases takeDs s.m s.ds with
            | none => rfl
            | some m2 =>
              simp only [forceT_eq, resK_eq]
              cases resV s.fr m2 rs with
              | none => rfl
              | some vs =>
                rcases vs with _ | ⟨v, _ | ⟨u, l⟩⟩
                · rfl
                · simp [bo, oneK, b2]
                · rfl

theorem callK_eq (X : FuncId → List AV → Option AV) (Z : FuncId → Bool) (g : Nat) (F : FuncId → Option AFunc) (fuel : Nat) : ∀ d, CallKV (callK X Z g F fuel d) (callX X Z g F fuel d)
  | 0 => fun f args m κ => by simp only [callX]; rfl
  | d + 1 => fun f args m κ => by
    have ih := callK_eq X Z g F fuel d
    show Option.rec (motive := fun _ => Bool) (zedK (Z f) g ((funcW f (F f)).run (isBody F) (callK X Z g F fuel d) fuel) args m κ) (fun v => κ v m) (X f args) = _
    simp only [callX]
    cases X f args with
    | some v => rfl
    | none =>
      dsimp only
      cases Z f with
      | false => exact funcW_eq ih f args m κ
      | true =>
        simp only [zedK, funcW_eq ih]
        cases args.all AV.flat with
        | false => rfl
        | true =>
          rcases callStep F fuel (callX X Z g F fuel d) f args ⟨.e, g⟩ with _ | ⟨v, m2⟩
          · rfl
          · simp only [b2]
            cases v.flat <;> rfl

/-- What the second evaluator finds, the first one finds. -/
theorem callX_of_callK {X : FuncId → List AV → Option AV} {Z : FuncId → Bool} {g : Nat} {F : FuncId → Option AFunc} {fuel d : Nat} {f : FuncId} {args : List AV} {m : Me} {κ : AV → Me → Bool} (h : callK X Z g F fuel d f args m κ = true) : ∃ v m', callX X Z g F fuel d f args m = some (v, m') ∧ κ v m' = true := by
  rw [callK_eq] at h
  rcases h2 : callX X Z g F fuel d f args m with _ | ⟨v, m'⟩
  · rw [h2] at h; cases h
  · rw [h2] at h; exact ⟨v, m', rfl, h⟩

end Go.Den

/- How a law's code is gone through by hand where it meets what is not known; the rest is left to the evaluator. -/
namespace Go.Den
open Go Go.RowKit

variable {isB : FuncId → Bool} {cf : CallF} {n : Nat} {rd : Option Nat} {fn : FuncId}

theorem exec_seq {a b : ACode} {s s' : St} (h : exec isB cf n rd fn a s = some (.nrm, s')) : exec isB cf (n + 1) rd fn (.seq a b) s = exec isB cf n rd fn b s' := by
  simp only [exec, h]
theorem exec_seq_out {a b : ACode} {s s' : St} {x : Ex} (hx : x ≠ .nrm) (h : exec isB cf n rd fn a s = some (x, s')) : exec isB cf (n + 1) rd fn (.seq a b) s = some (x, s') := by
  simp only [exec, h]
  cases x <;> first | exact absurd rfl hx | rfl
theorem exec_ops {l : List AOper} {s : St} {fr : T AV} {m : Me} (h : opsV cf (roundV isB cf n) l [] s.fr s.m = some (fr, m)) : exec isB cf (n + 1) rd fn (.ops l) s = some (.nrm, ⟨fr, s.ds, m⟩) := by
  simp only [exec, h]
theorem exec_cond {x : Opd} {a b : ACode} {s : St} {v : Bool} (h : look [] s.fr x = .bool v) : exec isB cf (n + 1) rd fn (.cond x a b) s = if v then exec isB cf n rd fn a s else exec isB cf n rd fn b s := by
  simp only [exec, h]
  cases v <;> rfl

theorem exec_skip {s : St} : exec isB cf (n + 1) rd fn .skip s = some (.nrm, s) := by simp only [exec]

theorem opsV_cons {round : Nat → List AV → Me → Option (AV × Me)} {o : AOper} {l : List AOper} {e : Env} {fr : T AV} {m m' : Me} {v : AV} (h1 : wantedV e fr o.guard = some true) (h2 : operV cf round (look e fr) m o.op = some (v, m')) :
    opsV cf round (o :: l) e fr m = opsV cf round l (putE e o.dst v) (putV fr o.dst v) m' := by
  simp only [opsV, h1, h2]

/-- A region in whose midst the evaluator takes over. -/
theorem exec_mid {cK : CallK} (hc : CallKV cK cf) {L L' : List AOper} {C R : ACode} {e : Env} {fr0 fr : T AV} {m0 m : Me} {ds : List Nat} {κ : XK} (h0 : opsV cf (roundV isB cf n) L [] fr0 m0 = opsV cf (roundV isB cf n) L' e fr m)
    (hK : (opsW L').run cK (exK isB cK n).R e fr m (fun fr m => (exK isB cK (n + 1)).E C rd fn fr ds m (fun x fr ds m => thenK x (fun _ => (exK isB cK (n + 2)).E R rd fn fr ds m κ) (fun x => κ x fr ds m))) = true) :
    ∃ x s, exec isB cf (n + 3) rd fn (.seq (.seq (.ops L) C) R) ⟨fr0, ds, m0⟩ = some (x, s) ∧ κ x s.fr s.ds s.m = true := by
  rw [opsW_eq hc (exK_eq hc n).2] at hK
  rcases hv : opsV cf (roundV isB cf n) L' e fr m with _ | ⟨fr2, m2⟩
  · rw [hv] at hK; cases hK
  · rw [hv] at hK
    simp only [br] at hK
    rw [(exK_eq hc (n + 1)).1] at hK
    have e1 : exec isB cf (n + 1) rd fn (.ops L) ⟨fr0, ds, m0⟩ = some (.nrm, ⟨fr2, ds, m2⟩) := exec_ops (h0.trans hv)
    rcases hC : exec isB cf (n + 1) rd fn C ⟨fr2, ds, m2⟩ with _ | ⟨x, s⟩
    · rw [hC] at hK; cases hK
    · rw [hC] at hK
      simp only [bx, thenK_eq] at hK
      have e2 : exec isB cf (n + 2) rd fn (.seq (.ops L) C) ⟨fr0, ds, m0⟩ = some (x, s) := (exec_seq e1).trans hC
      cases x with
      | nrm =>
        simp only [] at hK
        rw [(exK_eq hc (n + 2)).1] at hK
        rcases hR : exec isB cf (n + 2) rd fn R ⟨s.fr, s.ds, s.m⟩ with _ | ⟨x3, s3⟩
        · rw [hR] at hK; cases hK
        · rw [hR] at hK
          exact ⟨x3, s3, (exec_seq (n := n + 2) e2).trans hR, hK⟩
      | exit i => exact ⟨.exit i, s, exec_seq_out (n := n + 2) (by simp) e2, hK⟩
      | ret => exact ⟨.ret, s, exec_seq_out (n := n + 2) (by simp) e2, hK⟩

theorem exec_mid' {cK : CallK} (hc : CallKV cK cf) {L L' : List AOper} {C R : ACode} {e : Env} {fr0 fr : T AV} {m0 m : Me} {ds : List Nat} {κ : XK} {n1 n2 n3 : Nat} (e1 : n1 = n + 1) (e2 : n2 = n + 2) (e3 : n3 = n + 3)
    (h0 : opsV cf (roundV isB cf n) L [] fr0 m0 = opsV cf (roundV isB cf n) L' e fr m)
    (hK : (opsW L').run cK (exK isB cK n).R e fr m (fun fr m => (exK isB cK n1).E C rd fn fr ds m (fun x fr ds m => thenK x (fun _ => (exK isB cK n2).E R rd fn fr ds m κ) (fun x => κ x fr ds m))) = true) :
    ∃ x s, exec isB cf n3 rd fn (.seq (.seq (.ops L) C) R) ⟨fr0, ds, m0⟩ = some (x, s) ∧ κ x s.fr s.ds s.m = true := by
  subst e1 e2 e3
  exact exec_mid hc h0 hK

/-- A call that is forgotten. -/
theorem callX_forget {X : FuncId → List AV → Option AV} {Z : FuncId → Bool} {g : Nat} {F : FuncId → Option AFunc} {fuel d : Nat} {f : FuncId} {args : List AV} (hX : X f args = none) (hZ : Z f = true) (ha : args.all AV.flat = true) {v : AV} {m' : Me}
    (h : callStep F fuel (callX X Z g F fuel d) f args ⟨.e, g⟩ = some (v, m')) (hv : v.flat = true) (m : Me) : callX X Z g F fuel (d + 1) f args m = some (v, m) := by
  simp only [callX, hX, hZ, ha, h, hv, if_true]

theorem callStep_body {F : FuncId → Option AFunc} {fuel : Nat} {cf : CallF} {f : FuncId} {args : List AV} {m : Me} {na nt : Nat} {rs : List ARes} {c : ACode} (hF : F f = some (.body na nt rs c)) (hn : args.length ≤ na)
    {x : Ex} {s : St} (h : exec (isBody F) cf fuel none f c ⟨T.puts .e 0 args, [], m⟩ = some (x, s)) (hx : ∀ i, x ≠ .exit i) {m2 : Me} (ht : takeDs s.m s.ds = some m2) {v : AV} (hr : resV s.fr m2 rs = some [v]) :
    callStep F fuel cf f args m = some (v, m2) := by
  simp only [callStep, hF]
  rw [if_neg (by omega), h]
  cases x with
  | exit i => exact absurd rfl (hx i)
  | nrm => dsimp only; rw [ht]; dsimp only; rw [hr]
  | ret => dsimp only; rw [ht]; dsimp only; rw [hr]

def ansI (o : Option (AV × Me)) : Int :=
  match o with
  | some (.int _ n, _) => n
  | _ => 0
def ansM (o : Option (AV × Me)) : Me :=
  match o with
  | some (_, m) => m
  | _ => ⟨.e, 0⟩
def exS (o : Option (Ex × St)) : St :=
  match o with
  | some (_, s) => s
  | none => ⟨.e, [], ⟨.e, 0⟩⟩

def AFunc.code : Option AFunc → ACode
  | some (.body _ _ _ c) => c
  | _ => .bad
def ACode.fst : ACode → ACode
  | .seq a _ => a
  | c => c
def ACode.snd : ACode → ACode
  | .seq _ b => b
  | c => c
def ACode.thn : ACode → ACode
  | .cond _ a _ => a
  | c => c
def ACode.list : ACode → List AOper
  | .ops l => l
  | _ => []

/-- What code comes to, by the second evaluator. -/
theorem exec_of_E {c : ACode} {fr : T AV} {ds : List Nat} {m : Me} {cK : CallK} (hc : CallKV cK cf) {κ : XK} (h : (exK isB cK n).E c rd fn fr ds m κ = true) : ∃ x s, exec isB cf n rd fn c ⟨fr, ds, m⟩ = some (x, s) ∧ κ x s.fr s.ds s.m = true := by
  rw [(exK_eq hc n).1] at h
  rcases h2 : exec isB cf n rd fn c ⟨fr, ds, m⟩ with _ | ⟨x, s⟩
  · rw [h2] at h; cases h
  · rw [h2] at h; exact ⟨x, s, rfl, h⟩

/-- A call's answer out of its body's. -/
theorem callX_body {X : FuncId → List AV → Option AV} {Z : FuncId → Bool} {g : Nat} {F : FuncId → Option AFunc} {fuel d : Nat} {f : FuncId} {args : List AV} {m : Me} {na nt : Nat} {rs : List ARes} {c : ACode} (hX : X f args = none) (hZ : Z f = false) (hF : F f = some (.body na nt rs c)) (hn : args.length ≤ na)
    {x : Ex} {s : St} (h : exec (isBody F) (callX X Z g F fuel d) fuel none f c ⟨T.puts .e 0 args, [], m⟩ = some (x, s)) (hx : ∀ i, x ≠ .exit i) {m2 : Me} (ht : takeDs s.m s.ds = some m2) {v : AV} (hr : resV s.fr m2 rs = some [v]) :
    callX X Z g F fuel (d + 1) f args m = some (v, m2) := by
  simp only [callX, hX, hZ, callStep, hF]
  rw [if_neg (by omega), h]
  cases x with
  | exit i => exact absurd rfl (hx i)
  | nrm => dsimp only; rw [ht]; dsimp only; rw [hr]
  | ret => dsimp only; rw [ht]; dsimp only; rw [hr]

/-- 'Calls', out of a call's coming to something. -/
theorem calls_of_inv {P : Program} {f : FuncId} {fn : Func} {args : Array Value} {w : World} {R : Value → World → Prop} (hf : P.funcs[f]? = some fn) (hb : fn.body.isSome = true) (hn : (fn.name == "runtime.NumGoroutine") = false)
    (h : InvR P (callFunc f args) w R) : Calls P f args w (fun e w' => ∃ v, e = .returned v ∧ R v w') := by
  have hr : (callFunc f args).run P w = .ok (.enter f args) w := by
    have hname : fn.name ≠ "runtime.NumGoroutine" := by simpa using hn
    obtain ⟨c, hc⟩ := Option.isSome_iff_exists.1 hb
    simp [callFunc, hf, hname, hc]
  rcases h with ⟨v', w', h1, h2⟩ | ⟨g, as, w', h1, h2⟩ | ⟨l, g, tmps, as, bd, w', h1, h2⟩
  · rw [hr] at h1; cases h1
  · rw [hr] at h1
    cases h1
    refine callsIn_wide.1 (h2.mono fun e w'' he => ?_)
    cases e with
    | returned u => exact ⟨u, rfl, he⟩
    | panicked _ => exact he.elim
    | outgrown => exact he.elim
  · rw [hr] at h1; cases h1

/-- Is an answer 'true'? -/
def isT (v : AV) : Bool :=
  match v with
  | .bool b => b
  | _ => false
theorem isT_eq {v : AV} (h : isT v = true) : v = .bool true := by
  cases v <;> simp_all [isT]
/-- Code's end: all is taken down, and the answer is 'true'. -/
def endT (rs : List ARes) (x : Ex) (fr : T AV) (ds : List Nat) (m : Me) : Bool :=
  match x with
  | .exit _ => false
  | _ => match takeDs m ds with
    | some m => match resV fr m rs with
      | some [v] => isT v
      | _ => false
    | none => false

theorem callX_true {X : FuncId → List AV → Option AV} {Z : FuncId → Bool} {g : Nat} {F : FuncId → Option AFunc} {fuel d : Nat} {f : FuncId} {args : List AV} {m : Me} {na nt : Nat} {rs : List ARes} {c : ACode} (hX : X f args = none) (hZ : Z f = false) (hF : F f = some (.body na nt rs c)) (hn : args.length ≤ na)
    {x : Ex} {s : St} (h : exec (isBody F) (callX X Z g F fuel d) fuel none f c ⟨T.puts .e 0 args, [], m⟩ = some (x, s)) (he : endT rs x s.fr s.ds s.m = true) : ∃ m2, callX X Z g F fuel (d + 1) f args m = some (.bool true, m2) := by
  unfold endT at he
  split at he
  · cases he
  · rename_i hx
    split at he
    · rename_i m2 ht
      split at he
      · rename_i v hr
        rw [isT_eq he] at hr
        exact ⟨m2, callX_body hX hZ hF hn h (fun i hi => hx i hi) ht hr⟩
      · cases he
    · cases he

/-- Code's end: all is taken down, and the answer is 7. -/
def isI (k : Nat) (v : AV) : Bool :=
  match v with
  | .int .i64 (.ofNat n) => Nat.beq n k
  | _ => false
theorem isI_eq {k : Nat} {v : AV} (h : isI k v = true) : v = .int .i64 (k : Int) := by
  unfold isI at h
  split at h
  · rw [Nat.eq_of_beq_eq_true h]; rfl
  · cases h
def endV (p : AV → Bool) (rs : List ARes) (x : Ex) (fr : T AV) (ds : List Nat) (m : Me) : Bool :=
  match x with
  | .exit _ => false
  | _ => match takeDs m ds with
    | some m => match resV fr m rs with
      | some [v] => p v
      | _ => false
    | none => false
theorem endV_ok {p : AV → Bool} {rs : List ARes} {x : Ex} {fr : T AV} {ds : List Nat} {m : Me} (h : endV p rs x fr ds m = true) : ∃ m2 v, takeDs m ds = some m2 ∧ (∀ i, x ≠ .exit i) ∧ resV fr m2 rs = some [v] ∧ p v = true := by
  unfold endV at h
  split at h
  · cases h
  · rename_i hx
    split at h
    · rename_i m2 ht
      split at h
      · rename_i v hr
        exact ⟨m2, v, ht, fun i hi => hx i hi, hr, h⟩
      · cases h
    · cases h
abbrev endI7 : List ARes → XK := endV (isI 7)
theorem endI7_ok {rs : List ARes} {x : Ex} {fr : T AV} {ds : List Nat} {m : Me} (h : endI7 rs x fr ds m = true) : ∃ m2, takeDs m ds = some m2 ∧ (∀ i, x ≠ .exit i) ∧ resV fr m2 rs = some [.int .i64 7] := by
  obtain ⟨m2, v, h1, h2, h3, h4⟩ := endV_ok h
  rw [isI_eq h4] at h3
  exact ⟨m2, h1, h2, h3⟩

end Go.Den

/- What a law's row asks ahead of the call and behind it. -/
namespace Go.Den
open Go Go.RowKit Go.ChangeShapes

section
variable {H : Type} {enc : TypeId × Value → H} {P : Program} {W W' : World}

theorem trodAll_below (hl : laidOutB P = true) (hb : Below W.heap.size W W') : ∀ {ts : List TypeId} {vs : List Value} {ds : List (DataW H)} {ps : List MemPlace},
    ts.all (fun t => P.readableRec t && decide (t < P.types.size)) = true → (∀ x ∈ ps, x.block < W.heap.size) → DataW.TrodAll enc P W 0 (fun _ => true) true ts vs ds ps →
    DataW.TrodAll enc P W' 0 (fun b => decide (b < W.heap.size)) true ts vs ds ps
  | [], _, _, _, _, _, h => by
    obtain ⟨rfl, rfl, rfl⟩ := trodAll_nil h
    rfl
  | t :: ts, _, _, _, ha, hp, h => by
    obtain ⟨v, vs, d, ds, p, q, rfl, rfl, rfl, h1, h2⟩ := trodAll_cons h
    simp only [List.all_cons, Bool.and_eq_true, decide_eq_true_eq] at ha
    exact ⟨p, q, Below.trod hl ha.1.1 ha.1.2 h1 hb (fun x hx => hp x (List.mem_append_left _ hx)), trodAll_below hl hb ha.2 (fun x hx => hp x (List.mem_append_right _ hx)) h2, rfl⟩

/-- A law's 'post': 'true', and all reads as it did. -/
theorem law_post {fn : Func} {s : ChangeSpec} {args : Array Value} {ds gs : List (DataW H)} {before : List MemPlace} (hl : laidOutB P = true) (hr : fn.params.toList.all (fun t => P.readableRec t && decide (t < P.types.size)) = true)
    {tb : TypeId} (hres : fn.resultTypes = #[tb]) (hb : P.underlying tb = some .bool) (hv : s.vars = []) (hW : DataW.Whole enc P fn.params.toList s.vars false W args.toList ds gs before)
    (hs : s.fn H ds = { results := [.lit (.bool true)], args := ds }) (hbel : Below W.heap.size W W') : s.post enc P fn false true false false W args (.bool true) W' := by
  have hlt := hW.lt
  have hW' := hW
  obtain ⟨p, q, hA, hV, rfl, _, _⟩ := hW
  rw [hv] at hV
  obtain ⟨rfl, rfl⟩ := trodVars_none hV
  refine ⟨ds, [], p ++ [], [], p, [], hW', ?_, ?_, ?_, hbel.frame _, fun h => by cases h⟩
  · rw [List.append_nil, hs, hres]
    exact trodAll_mk1 (shut_bool hb _)
  · rw [List.append_nil, hs]
    exact trodAll_below hl hbel hr (fun x hx => by simpa using hlt x (by simpa using hx)) hA
  · rw [List.append_nil, hs, hv]
    rfl

def isStr (P : Program) (u : TypeId) : Bool :=
  match P.underlying u with
  | some .string => true
  | _ => false

/-- A struct of strings alone. -/
theorem agg_strings {r : Reach} {base : Nat} {t : TypeId} {fs : Array Field} {v : Value} {ts : List TypeId} (ht : P.underlying t = some (.struct fs)) (hc : P.cellTypes P.depth t = some ts) (hs : ts.all (isStr P) = true) (h : Value.okWide P W r base t v) :
    ∃ l : List (List UInt8), v = .agg (l.map fun s => Value.string ⟨⟨s⟩⟩).toArray ∧ l.length = P.cellsOf t := by
  simp only [Value.okWide, ht] at h
  obtain ⟨cs, rfl, h2, ts', h3, _, h5⟩ := h
  rw [hc] at h3
  cases h3
  have key : ∀ (l : List Value), (∀ v ∈ l, ∃ s : List UInt8, v = .string ⟨⟨s⟩⟩) → ∃ l' : List (List UInt8), l = l'.map fun s => Value.string ⟨⟨s⟩⟩ := by
    intro l
    induction l with
    | nil => exact fun _ => ⟨[], rfl⟩
    | cons a l ih =>
      intro h
      obtain ⟨s, rfl⟩ := h a (List.mem_cons_self ..)
      obtain ⟨l', rfl⟩ := ih fun v hv => h v (List.mem_cons_of_mem _ hv)
      exact ⟨s :: l', rfl⟩
  obtain ⟨l', hl'⟩ := key cs.toList fun v hv => by
    obtain ⟨i, hi⟩ := List.getElem?_of_mem hv
    obtain ⟨u, hu1, hu2⟩ := h5 i v (by simpa using hi)
    have hu : P.underlying u = some .string := by
      have := List.all_eq_true.1 hs u (List.mem_of_getElem? hu1)
      unfold isStr at this
      split at this
      · assumption
      · cases this
    unfold Cell.okWide Cell.ok at hu2
    rw [hu] at hu2
    cases v <;> simp at hu2
    rename_i s
    exact ⟨s.data.toList, rfl⟩
  refine ⟨l', ?_, ?_⟩
  · rw [← hl']
  · rw [← h2, ← Array.length_toList, hl', List.length_map]
end

theorem VRs.strs {φ : Emb} : ∀ (l : List (List UInt8)), VRs φ (l.map .str) (l.map fun s => Value.string ⟨⟨s⟩⟩)
  | [] => .nil
  | s :: l => .cons (.str s) (VRs.strs l)

theorem tbl_ok {P : Program} (h : P.funcs.toList.all (fun fn => !(fn.name == "runtime.NumGoroutine")) = true) : ∀ f a, tbl P f = some a → ∃ fn, P.funcs[f]? = some fn ∧ cFunc P fn = some a ∧ (fn.name == "runtime.NumGoroutine") = false := by
  intro f a ha
  unfold tbl at ha
  cases hf : P.funcs[f]? with
  | none => rw [hf] at ha; cases ha
  | some fn =>
    rw [hf] at ha
    refine ⟨fn, rfl, ha, ?_⟩
    have := List.all_eq_true.1 h fn (Array.mem_toList_iff.2 (Array.mem_of_getElem? hf))
    simpa using this

/-- A law's row with listed variables: the world's shape is handed on. -/
theorem returns_law {H : Type} {enc : TypeId × Value → H} {a : Assume} {C : Checked} {os : Os} {f : FuncId} {fn : Func} {s : ChangeSpec} {conds : List PathCond} {apart fresh handsOn again : Bool} {X : World → Array Value → Prop}
    (hX : ∀ (w w' : World) (args : Array Value), w.heap = w'.heap → X w args → X w' args)
    (own : ownKnob C.prog.godebug = none) (started : os.Started) (noInit : C.prog.inits.idxOf? f = none) (hfn : C.prog.funcs[f]? = some fn)
    (witness : ∃ (w : World) (tape : Tape) (i : Input), w.os = os ∧ (w.forCall tape i).Shaped C.prog ∧ i.vars = [] ∧ Input.okWide C.prog (w.forCall tape i) .any w.heap.size f i ∧
      ((s.pre enc C.prog fn conds apart (w.forCall tape i).memory i.args ∧ X (w.forCall tape i).memory i.args) ∧ sizedMet enc C.prog fn (OpenSpec.ofChange s) apart (w.forCall tape i).memory i.args) ∧ a.holds C.prog (lone (Frame.enter C.prog f i.args .normal) [] (w.forCall tape i)))
    (contract : ∀ (W : World) (base : Nat) (args : Array Value) (ds gs : List (DataW H)) (before : List MemPlace),
      (∀ (j : Nat) t v, fn.params[j]? = some t → args[j]? = some v → Value.okWide C.prog W .any base t v) →
      DataW.Whole enc C.prog fn.params.toList s.vars apart W args.toList ds gs before → W.ShapedOpen C.prog → X W args →
      Calls C.prog f args W fun e W' => ∃ v, e = .returned v ∧ s.post enc C.prog fn apart fresh handsOn again W args v W') :
    ReturnsInHanded a C os f .any (fun w args => (s.pre enc C.prog fn conds apart w args ∧ X w args) ∧ sizedMet enc C.prog fn (OpenSpec.ofChange s) apart w args) (s.post enc C.prog fn apart fresh handsOn again) := by
  refine returnsInHanded_of_calls own started noInit witness ?_
  intro w tape i _ hsh _ hok hpre hholds
  obtain ⟨_, _, _, fn', hfn', _, _, _, _, hval⟩ := hok
  have e : fn' = fn := Option.some.inj (hfn'.symm.trans hfn)
  subst e
  obtain ⟨⟨⟨ds, gs, before, hw, hc⟩, hx⟩, hz⟩ := hpre
  have hw' := DataW.Whole.of_heap (w' := w.forCall tape i) (by rfl) hw
  refine (contract (w.forCall tape i) w.heap.size i.args ds gs before hval hw' hsh (hX _ _ _ (by rfl) hx)).mono fun e W' ⟨v, he, hp⟩ => ?_
  subst he
  exact ChangeSpec.post_blind hp

end Go.Den
