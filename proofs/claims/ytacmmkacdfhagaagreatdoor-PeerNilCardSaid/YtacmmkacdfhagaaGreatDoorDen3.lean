/- Operations that make a block. -/
import Derived.Test.YtacmmkacdfhagaaGreatDoorDen2
import Derived.IntWalk
import Derived.Laws.Append

set_option linter.unusedSimpArgs false
set_option linter.unusedVariables false
set_option linter.unusedSectionVars false
set_option linter.deprecated false

namespace Go.Den
open Go Go.RowKit

variable {P : Program} {w0 : World} {B : Nat} {φ : Emb} {m : Me} {w : World}

/-- What a step comes to. -/
def Sy (P : Program) (w0 : World) (B : Nat) (φ : Emb) (m : Me) (w : World) (ρ : Operand → Value) (o : Oper) (v : AV) (m' : Me) : Prop :=
  ∃ v' w' φ', ((execOp ρ o).run P w = .ok (.value v') w' ∨ ((execOp ρ o).run P w = .ok .skip w' ∧ v' = Go.undef)) ∧ VR φ' v v' ∧ Gr φ φ' m.nx m'.nx ∧ Rel P w0 B φ' m' w' ∧ Fr φ m w φ' m' w'

mutual
theorem AV.beq_eq : ∀ (a b : AV), AV.beq a b = true → a = b
  | .bool _, .bool _, h => by simp [AV.beq] at h; rw [h]
  | .int _ _, .int _ _, h => by simp [AV.beq] at h; rw [h.1, h.2]
  | .str _, .str _, h => by simp [AV.beq] at h; rw [h]
  | .ptr _, .ptr _, h => by simp [AV.beq] at h; rw [h]
  | .slice _ _ _, .slice _ _ _, h => by simp [AV.beq] at h; rw [h.1.1, h.1.2, h.2]
  | .map _, .map _, h => by simp [AV.beq] at h; rw [h]
  | .func _ a b, .func _ c d, h => by
    simp only [AV.beq, Bool.and_eq_true, beq_iff_eq] at h
    rw [h.1.1, AV.beqs_eq a c h.1.2, AV.beqs_eq b d h.2]
  | .nilFunc, .nilFunc, _ => rfl
  | .iface _ v, .iface _ w, h => by
    simp only [AV.beq, Bool.and_eq_true, beq_iff_eq] at h
    rw [h.1, AV.beq_eq v w h.2]
  | .nilIface, .nilIface, _ => rfl
  | .agg a, .agg b, h => by simp only [AV.beq] at h; rw [AV.beqs_eq a b h]
  | .tuple a, .tuple b, h => by simp only [AV.beq] at h; rw [AV.beqs_eq a b h]
  | .unk, _, h => by simp [AV.beq] at h
  | .bool _, .int .., h | .bool _, .str .., h | .bool _, .ptr .., h | .bool _, .slice .., h | .bool _, .map .., h | .bool _, .func .., h | .bool _, .nilFunc, h | .bool _, .iface .., h | .bool _, .nilIface, h | .bool _, .agg .., h | .bool _, .tuple .., h | .bool _, .unk, h => by simp [AV.beq] at h
  | .int .., .bool _, h | .int .., .str .., h | .int .., .ptr .., h | .int .., .slice .., h | .int .., .map .., h | .int .., .func .., h | .int .., .nilFunc, h | .int .., .iface .., h | .int .., .nilIface, h | .int .., .agg .., h | .int .., .tuple .., h | .int .., .unk, h => by simp [AV.beq] at h
  | .str .., .bool _, h | .str .., .int .., h | .str .., .ptr .., h | .str .., .slice .., h | .str .., .map .., h | .str .., .func .., h | .str .., .nilFunc, h | .str .., .iface .., h | .str .., .nilIface, h | .str .., .agg .., h | .str .., .tuple .., h | .str .., .unk, h => by simp [AV.beq] at h
  | .ptr .., .bool _, h | .ptr .., .int .., h | .ptr .., .str .., h | .ptr .., .slice .., h | .ptr .., .map .., h | .ptr .., .func .., h | .ptr .., .nilFunc, h | .ptr .., .iface .., h | .ptr .., .nilIface, h | .ptr .., .agg .., h | .ptr .., .tuple .., h | .ptr .., .unk, h => by simp [AV.beq] at h
  | .slice .., .bool _, h | .slice .., .int .., h | .slice .., .str .., h | .slice .., .ptr .., h | .slice .., .map .., h | .slice .., .func .., h | .slice .., .nilFunc, h | .slice .., .iface .., h | .slice .., .nilIface, h | .slice .., .agg .., h | .slice .., .tuple .., h | .slice .., .unk, h => by simp [AV.beq] at h
  | .map .., .bool _, h | .map .., .int .., h | .map .., .str .., h | .map .., .ptr .., h | .map .., .slice .., h | .map .., .func .., h | .map .., .nilFunc, h | .map .., .iface .., h | .map .., .nilIface, h | .map .., .agg .., h | .map .., .tuple .., h | .map .., .unk, h => by simp [AV.beq] at h
  | .func .., .bool _, h | .func .., .int .., h | .func .., .str .., h | .func .., .ptr .., h | .func .., .slice .., h | .func .., .map .., h | .func .., .nilFunc, h | .func .., .iface .., h | .func .., .nilIface, h | .func .., .agg .., h | .func .., .tuple .., h | .func .., .unk, h => by simp [AV.beq] at h
  | .nilFunc, .bool _, h | .nilFunc, .int .., h | .nilFunc, .str .., h | .nilFunc, .ptr .., h | .nilFunc, .slice .., h | .nilFunc, .map .., h | .nilFunc, .func .., h | .nilFunc, .iface .., h | .nilFunc, .nilIface, h | .nilFunc, .agg .., h | .nilFunc, .tuple .., h | .nilFunc, .unk, h => by simp [AV.beq] at h
  | .iface .., .bool _, h | .iface .., .int .., h | .iface .., .str .., h | .iface .., .ptr .., h | .iface .., .slice .., h | .iface .., .map .., h | .iface .., .func .., h | .iface .., .nilFunc, h | .iface .., .nilIface, h | .iface .., .agg .., h | .iface .., .tuple .., h | .iface .., .unk, h => by simp [AV.beq] at h
  | .nilIface, .bool _, h | .nilIface, .int .., h | .nilIface, .str .., h | .nilIface, .ptr .., h | .nilIface, .slice .., h | .nilIface, .map .., h | .nilIface, .func .., h | .nilIface, .nilFunc, h | .nilIface, .iface .., h | .nilIface, .agg .., h | .nilIface, .tuple .., h | .nilIface, .unk, h => by simp [AV.beq] at h
  | .agg .., .bool _, h | .agg .., .int .., h | .agg .., .str .., h | .agg .., .ptr .., h | .agg .., .slice .., h | .agg .., .map .., h | .agg .., .func .., h | .agg .., .nilFunc, h | .agg .., .iface .., h | .agg .., .nilIface, h | .agg .., .tuple .., h | .agg .., .unk, h => by simp [AV.beq] at h
  | .tuple .., .bool _, h | .tuple .., .int .., h | .tuple .., .str .., h | .tuple .., .ptr .., h | .tuple .., .slice .., h | .tuple .., .map .., h | .tuple .., .func .., h | .tuple .., .nilFunc, h | .tuple .., .iface .., h | .tuple .., .nilIface, h | .tuple .., .agg .., h | .tuple .., .unk, h => by simp [AV.beq] at h
theorem AV.beqs_eq : ∀ (a b : List AV), AV.beqs a b = true → a = b
  | [], [], _ => rfl
  | a :: x, b :: y, h => by
    simp only [AV.beqs, Bool.and_eq_true] at h
    rw [AV.beq_eq a b h.1, AV.beqs_eq x y h.2]
  | [], _ :: _, h => by simp [AV.beqs] at h
  | _ :: _, [], h => by simp [AV.beqs] at h
end

/-! ## Blocks of our own -/
theorem own_OR {e : E} {cs : List AV} {cells : Array Value} {el : TypeId} (h : VRs φ cs cells.toList) (ho : e.o = 0) (hK : e.K = cs.length) (hop : e.opn = false) :
    OR P φ e (ownOb el cs) (.cells cells el (0, 0)) := by
  have hl : cells.size = cs.length := by simpa using h.length
  refine .cells (fun i hi => ?_) (by rw [hK]; exact Nat.le_refl _) (by rw [hK, ho, hl]; omega) ⟨hop, ho, hK, hl, rfl, fun j h1 h2 => by simp at h2⟩
  obtain ⟨v', h1, h2⟩ := h.get i cs[i] (List.getElem?_eq_getElem hi)
  refine ⟨v', by rw [ho, Nat.zero_add]; simpa using h1, fun v hv => ?_⟩
  simp only [Ob.cell, if_pos hi, T.get_puts, Nat.zero_le, Nat.zero_add, true_and, Nat.sub_zero, hi, if_true, List.getElem?_eq_getElem hi, Option.some.injEq] at hv
  subst hv
  exact h2

theorem alloc_own (hR : Rel P w0 B φ m w) (hn : φ m.nx = none) {cs : List AV} {cells : Array Value} (el : TypeId) (h : VRs φ cs cells.toList) :
    ∃ φ', Gr φ φ' m.nx (m.new (ownOb el cs)).nx ∧ Rel P w0 B φ' (m.new (ownOb el cs)) (w.alloc (.cells cells el (0, 0))) ∧ Fr φ m w φ' (m.new (ownOb el cs)) (w.alloc (.cells cells el (0, 0))) ∧
      φ' m.nx = some ⟨w.heap.size, 0, cs.length, 0, false⟩ := by
  have hle := upd_le ⟨w.heap.size, 0, cs.length, 0, false⟩ hn
  obtain ⟨h1, h2, h3⟩ := hR.alloc hn (ownOb el cs) (.cells cells el (0, 0)) cs.length 0 false (own_OR (h.mono hle) rfl rfl rfl)
  exact ⟨_, h2, h1, h3, upd_self _ _ _⟩

theorem repl_get (z : List AV) : ∀ (n j : Nat), (repl z n)[j]? = if j < n * z.length then z[j % z.length]? else none
  | 0, j => by simp [repl]
  | n + 1, j => by
    simp only [repl]
    by_cases h : j < z.length
    · rw [List.getElem?_append_left h, if_pos (by rw [Nat.add_mul]; omega), Nat.mod_eq_of_lt h]
    · rw [List.getElem?_append_right (by omega), repl_get z n]
      have : j % z.length = (j - z.length) % z.length := by rw [Nat.mod_eq_sub_mod (by omega)]
      rw [this]
      by_cases h2 : j - z.length < n * z.length
      · rw [if_pos h2, if_pos (by rw [Nat.add_mul]; omega)]
      · rw [if_neg h2, if_neg (by rw [Nat.add_mul]; omega)]

theorem repl_length (z : List AV) : ∀ n, (repl z n).length = n * z.length
  | 0 => by simp [repl]
  | n + 1 => by simp [repl, repl_length z n, Nat.add_mul, Nat.add_comm]

theorem repl_VRs {z : List AV} {zero : Array Value} (h : VRs φ z zero.toList) (hz : z ≠ []) (n : Nat) :
    VRs φ (repl z n) ((Array.range (n * z.length)).map (zero[· % zero.size]!)).toList := by
  have hl : zero.size = z.length := by simpa using h.length
  have hpos : 0 < z.length := List.length_pos_iff.2 hz
  refine VRs.of_get (by simp [repl_length]) fun i v v' h1 h2 => ?_
  rw [repl_get] at h1
  split at h1
  · rename_i hi
    obtain ⟨u, g1, g2⟩ := h.get _ v h1
    have e1 : zero[i % z.length]? = some u := by simpa using g1
    have e2 : zero[i % zero.size]! = u := by
      rw [hl, getElem!_def, e1]
    simp only [Array.toList_map, Array.toList_range, List.getElem?_map] at h2
    rw [List.getElem?_range hi] at h2
    simp only [Option.map_some, Option.some.injEq] at h2
    rw [e2] at h2
    subst h2
    exact g2
  · cases h1

end Go.Den

/- The soundness of operations that make a block. -/
namespace Go.Den
open Go Go.RowKit

variable {P : Program} {w0 : World} {B : Nat} {φ : Emb} {m : Me} {w : World}

theorem Sy.value {ρ : Operand → Value} {o : Oper} {v : AV} {m' : Me} {s : Sem Value} {v' : Value} {w' : World} {φ' : Emb} (he : execOp ρ o = (do pure (.value (← s)))) (hs : s.run P w = .ok v' w') (hv : VR φ' v v') (hg : Gr φ φ' m.nx m'.nx)
    (hr : Rel P w0 B φ' m' w') (hf : Fr φ m w φ' m' w') : Sy P w0 B φ m w ρ o v m' :=
  ⟨v', w', φ', .inl (by rw [he]; simp [hs]), hv, hg, hr, hf⟩

theorem run_newVar {t : TypeId} {v : Value} : (newVar t v).run P w = .ok ⟨w.heap.size, 0, none⟩ (w.alloc (.cells v.cells t (0, 0))) := by
  simp [newVar, newRow]

theorem run_newRow {t : TypeId} {c : Array Value} : (newRow t c).run P w = .ok ⟨w.heap.size, 0, none⟩ (w.alloc (.cells c t (0, 0))) := by
  simp [newRow]

theorem mkSl_sound {t e : TypeId} {s bytes : Nat} {z : List AV} (hu : und P t = some (.slice e)) (hb : bts P e = some bytes) (hz : zcells P e = some z) (hs : sz P e = some s)
    {l c : Int} {kl kc : IntKind} (h1 : 0 ≤ l) (h2 : l ≤ c) (h3 : (bytes : Int) * c ≤ 2 ^ 48) (h4 : c ≤ 2 ^ 48) (w : World) :
    ∃ zero : Array Value, VRs φ z zero.toList ∧ (Instr.makeSlice t (.int kl l) (.int kc c)).run P w =
      .ok (.slice (some ⟨w.heap.size, 0, none⟩) l.toNat c.toNat) (w.alloc (.cells ((Array.range (c.toNat * s)).map ((if c.toNat * s = 0 then #[] else zero)[· % (if c.toNat * s = 0 then #[] else zero).size]!)) e (0, 0))) := by
  obtain ⟨zv, hz1, hz2, _⟩ := run_zcells hz
  refine ⟨zv.cells, hz2 φ, ?_⟩
  obtain ⟨ii, hi, hib⟩ : ∃ ii, P.info? e = some ii ∧ ii.bytes = bytes := by
    simpa [bts, map_some] using hb
  have h4' : c ≤ 281474976710656 := h4
  have wl : IntKind.i64.wrap l = l := IntWalk.i64_in l (by omega)
  have wc : IntKind.i64.wrap c = c := IntWalk.i64_in c (by omega)
  have c1 : ¬ (c < 0) := by omega
  have c2 : ¬ ((bytes : Int) * c > 2 ^ 48) := by omega
  have c3 : ¬ (l < 0) := by omega
  have c4 : ¬ (l > c) := by omega
  simp only [Instr.makeSlice, Sem.run_bind, run_und hu, Result.andThen_ok, asInt, asIntOf, Sem.run_pure, run_info hi, hib, wl, wc]
  rw [if_neg (by simp [c1, c3]; omega)]
  simp only [Sem.run_bind, run_askRoom, Result.andThen_ok, run_sz hs]
  by_cases hn : c.toNat * s = 0
  · simp only [hn, if_true, Sem.run_pure, Result.andThen_ok, run_newRow, Sem.run_bind]
  · simp only [hn, if_false, Sem.run_pure, Sem.run_bind, hz1, Result.andThen_ok, run_newRow]

theorem mkCells {z : List AV} {zero : Array Value} (h : VRs φ z zero.toList) {s n : Nat} (hz : z.length = s) (hs : s ≠ 0) :
    VRs φ (repl z n) ((Array.range (n * s)).map ((if n * s = 0 then #[] else zero)[· % (if n * s = 0 then #[] else zero).size]!)).toList := by
  have hne : z ≠ [] := fun h => by rw [h] at hz; exact hs hz.symm
  by_cases hn : n * s = 0
  · have : n = 0 := by
      rcases Nat.mul_eq_zero.1 hn with h | h
      · exact h
      · exact absurd h hs
    subst this
    simp [repl]
    exact .nil
  · rw [if_neg hn, ← hz]
    exact repl_VRs h hne n

/-- A block of one repeated value. -/
theorem same_OR {e : E} {cs : List AV} {cells : Array Value} {el : TypeId} {v : AV} {n : Nat} (h : VRs φ cs cells.toList) (hv : ∀ i, i < n → cs[i]? = some v) (hn : cs.length = n) (ho : e.o = 0) (hK : e.K = n) (hop : e.opn = false) :
    OR P φ e (.cells .e n (some v) el .own) (.cells cells el (0, 0)) := by
  have hl : cells.size = cs.length := by simpa using h.length
  refine .cells (fun i hi => ?_) (by rw [hK]; exact Nat.le_refl _) (by rw [hK, ho, hl]; omega) ⟨hop, ho, hK, by rw [hl, hn], rfl, fun j h1 h2 => by simp at h2⟩
  obtain ⟨v', h1, h2⟩ := h.get i v (hv i hi)
  refine ⟨v', by rw [ho, Nat.zero_add]; simpa using h1, fun u hu => ?_⟩
  simp only [Ob.cell, if_pos hi, T.get_e, Option.some.injEq] at hu
  subst hu
  exact h2

theorem alloc_same (hR : Rel P w0 B φ m w) (hn : φ m.nx = none) {cs : List AV} {cells : Array Value} (el : TypeId) {v : AV} {n : Nat} (h : VRs φ cs cells.toList) (hv : ∀ i, i < n → cs[i]? = some v) (hl : cs.length = n) :
    ∃ φ', Gr φ φ' m.nx (m.new (.cells .e n (some v) el .own)).nx ∧ Rel P w0 B φ' (m.new (.cells .e n (some v) el .own)) (w.alloc (.cells cells el (0, 0))) ∧ Fr φ m w φ' (m.new (.cells .e n (some v) el .own)) (w.alloc (.cells cells el (0, 0))) ∧
      φ' m.nx = some ⟨w.heap.size, 0, n, 0, false⟩ := by
  have hle := upd_le ⟨w.heap.size, 0, n, 0, false⟩ hn
  obtain ⟨h1, h2, h3⟩ := hR.alloc hn (.cells .e n (some v) el .own) (.cells cells el (0, 0)) n 0 false (same_OR (h.mono hle) hv hl rfl rfl rfl)
  exact ⟨_, h2, h1, h3, upd_self _ _ _⟩

theorem freeze_new (w : World) (c : Array Value) (e : TypeId) (n : Nat) : (w.alloc (.cells c e (0, 0))).freeze ⟨w.heap.size, n, none⟩ 1 = w.alloc (.cells c e (n, n + 1)) := by
  unfold World.freeze World.alloc
  simp only [Nat.one_ne_zero, if_false]
  congr 1
  apply Array.ext
  · simp
  · intro i h1 h2
    simp only [Array.size_modify, Array.size_push] at h1
    rw [Array.getElem_modify]
    by_cases hi : w.heap.size = i
    · subst hi; simp
    · rw [if_neg hi, Array.getElem_push_lt (by omega), Array.getElem_push_lt (by omega)]

theorem bytes_VRs (s : List UInt8) : VRs φ (s.map fun b => AV.int .u8 b.toNat) (s.map fun b => Value.int .u8 b.toNat) := by
  induction s with
  | nil => exact .nil
  | cons c s ih => exact .cons (.int _ _) ih

/-- A row that begins with our cells, and goes on as it will. -/
theorem open_OR {e : E} {cs : List AV} {cells : Array Value} {el : TypeId} {fz : Nat × Nat} (h : VRs φ cs (cells.toList.take cs.length)) (hcl : cs.length ≤ cells.size) (ho : e.o = 0) (hK1 : cs.length ≤ e.K) (hK : e.K ≤ cells.size) (hop : e.opn = true)
    (hz : sz P el = some e.z) (hz0 : 0 < e.z) (hf : Free fz 0 e.K) : OR P φ e (.cells (T.puts .e 0 cs) cs.length none el .open_) (.cells cells el fz) := by
  refine .cells (fun i hi => ?_) hK1 (by rw [ho]; omega) ⟨hop, rfl, hz, hz0, by rw [ho]; exact hf⟩
  obtain ⟨v', h1, h2⟩ := h.get i cs[i] (List.getElem?_eq_getElem hi)
  refine ⟨v', ?_, fun v hv => ?_⟩
  · rw [ho, Nat.zero_add, ← h1, List.getElem?_take_of_lt hi]; simp
  · simp only [Ob.cell, if_pos hi, T.get_puts, Nat.zero_le, Nat.zero_add, true_and, Nat.sub_zero, hi, if_true, List.getElem?_eq_getElem hi, Option.some.injEq] at hv
    subst hv
    exact h2

theorem cut_appendCap (need old : Nat) (el : TypeId) (t : Nat) : need ≤ (Question.appendCap need old el).cut t := Nat.le_add_right _ _

theorem run_mark {C : Nat} {c : Array Value} {e : TypeId} {f : Nat × Nat} {w : World} (h : w.heap[C]? = some (.cells c e f)) (o : Nat) : (markStringish ⟨C, o, none⟩).run P w = .ok () (w.freeze ⟨C, c.size, none⟩ 1) := by
  have hsh : w.shape? C = some (e, c.size) := by obtain ⟨a, b⟩ := f; simp [World.shape?, h]
  simp [markStringish, hsh]

theorem run_s2b (e : TypeId) (s : List UInt8) (w : World) : (Conv.stringToBytes e ⟨⟨s⟩⟩).run P w =
    .ok (.slice (some ⟨w.heap.size, 0, none⟩) s.length ((Question.appendCap s.length 0 e).cut (w.tape w.drawn (.appendCap s.length 0 e))))
      (w.drew.alloc (.cells (((s.map fun b => Value.int .u8 b.toNat)).toArray ++ Array.replicate ((Question.appendCap s.length 0 e).cut (w.tape w.drawn (.appendCap s.length 0 e)) - s.length) (.int .u8 0)) e
        ((Question.appendCap s.length 0 e).cut (w.tape w.drawn (.appendCap s.length 0 e)), (Question.appendCap s.length 0 e).cut (w.tape w.drawn (.appendCap s.length 0 e)) + 1))) := by
  have hsz : (⟨⟨s⟩⟩ : ByteArray).size = s.length := rfl
  have hcap : s.length ≤ (Question.appendCap s.length 0 e).cut (w.tape w.drawn (.appendCap s.length 0 e)) := cut_appendCap _ _ _ _
  simp only [Conv.stringToBytes, Sem.run_bind, run_choose, Question.forced, Bool.false_eq_true, if_false, hsz, Result.andThen_ok, run_newRow]
  generalize (Question.appendCap s.length 0 e).cut (w.tape w.drawn (.appendCap s.length 0 e)) = cap at hcap ⊢
  have hel : (Array.map (fun (b : UInt8) => Value.int IntKind.u8 (b.toNat : Int)) (⟨⟨s⟩⟩ : ByteArray).data) ++ Array.replicate (cap - s.length) (Value.int IntKind.u8 0) = ((s.map fun b => Value.int .u8 b.toNat)).toArray ++ Array.replicate (cap - s.length) (.int .u8 0) := by
    simp
  rw [hel]
  have hcs : ((((s.map fun (b : UInt8) => Value.int IntKind.u8 (b.toNat : Int))).toArray ++ Array.replicate (cap - s.length) (Value.int .u8 0) : Array Value)).size = cap := by simp; omega
  have := World.alloc_heap_new w.drew (.cells (((s.map fun b => Value.int .u8 b.toNat)).toArray ++ Array.replicate (cap - s.length) (.int .u8 0)) e (0, 0))
  have hm := run_mark (P := P) this 0
  rw [hcs, freeze_new] at hm
  have e2 : ({ w with drawn := w.drawn + 1 } : World) = w.drew := rfl
  have hds : w.drew.heap.size = w.heap.size := rfl
  rw [hds] at hm
  rw [e2, hm]
  rfl

set_option maxHeartbeats 1000000 in
theorem alloc_sound (hR : Rel P w0 B φ m w) (hn : φ m.nx = none) {K : Nat → Bool} {r : Opd → AV} {ρ : Operand → Value} (hρ : OpR P φ K r ρ) {o : Oper} {a : AOp} (hc : cOp K P o.op = some a) (hcl : a.cls = .alloc ∨ ∃ x, a = .rangeMap x)
    {ob : Ob} {f : Nat → AV} (hv : (match a with | .rangeMap x => (rangeMapV r m x).map fun ob => (ob, fun b => AV.ptr (some (b, 0))) | a => allocV r a) = some (ob, f)) : Sy P w0 B φ m w ρ o (f m.nx) (m.new ob) := by
  cases ho : o.op <;> rw [ho] at hc <;> simp only [cOp] at hc
  case alloc el =>
    simp only [bind_some, pure_some] at hc
    obtain ⟨z, hz, rfl⟩ := hc
    simp only [allocV, Option.some.injEq, Prod.mk.injEq] at hv
    obtain ⟨rfl, rfl⟩ := hv
    obtain ⟨zv, hz1, hz2, _⟩ := run_zcells hz
    obtain ⟨φ', h1, h2, h3, h4⟩ := alloc_own hR hn el (hz2 φ)
    exact Sy.value (s := Instr.alloc el true (.tuple #[])) (by simp [execOp, ho]) (by simp [Instr.alloc, hz1, run_newVar]) (.ptr h4) h1 h2 h3
  case box el x =>
    simp only [bind_some, pure_some] at hc
    obtain ⟨y, hy, rfl⟩ := hc
    simp only [allocV] at hv
    split at hv
    · rename_i hall
      simp only [Option.some.injEq, Prod.mk.injEq] at hv
      obtain ⟨rfl, rfl⟩ := hv
      obtain ⟨φ', h1, h2, h3, h4⟩ := alloc_own hR hn el ((hρ x y hy).cells hall)
      exact Sy.value (s := Instr.box el (ρ x)) (by simp [execOp, ho]) (by simp [Instr.box, run_newVar]) (.ptr h4) h1 h2 h3
    · cases hv
  case buildSlice t len ps =>
    split at hc
    · rename_i e hu
      simp only [bind_some] at hc
      obtain ⟨s, hs, z, hz, l, hl, hc⟩ := hc
      split at hc
      · cases hc
      · rename_i hcond
        simp only [not_or, Nat.not_lt, Decidable.not_not] at hcond
        obtain ⟨c1, c2, c3⟩ := hcond
        simp only [pure_some] at hc
        subst hc
        simp only [allocV, map_some] at hv
        obtain ⟨cs, hcs, hpair⟩ := hv
        simp only [Prod.mk.injEq] at hpair
        obtain ⟨rfl, rfl⟩ := hpair
        obtain ⟨zv, hz1, hz2, _⟩ := run_zcells hz
        have hmk := mkCells (n := len) (hz2 φ) c2 c3
        obtain ⟨cs', hf, hr⟩ := fill_sound (pl' := fun i => some (i * s, s)) hρ (fun _ _ h => h) ps.toList l hl (repl z len) cs _ hmk hcs
        obtain ⟨φ', h1, h2, h3, h4⟩ := alloc_own hR hn e hr
        refine Sy.value (s := Instr.buildSlice t len (ps.map fun (i, x) => (i, ρ x))) (by simp [execOp, ho]) (v' := .slice (some ⟨w.heap.size, 0, none⟩) len len) (w' := w.alloc (.cells cs' e (0, 0))) ?_ (.slice h4 rfl) h1 h2 h3
        simp only [Instr.buildSlice, Sem.run_bind, run_und hu, Result.andThen_ok, run_sz hs]
        rw [if_neg (by omega)]
        by_cases hn0 : len * s = 0
        · simp only [hn0, if_true] at hf ⊢
          simp only [Sem.run_bind, Sem.run_pure, Result.andThen_ok, Array.toList_map] at hf ⊢
          rw [hf]
          simp only [Sem.run_bind, run_newRow, Result.andThen_ok, Sem.run_pure]
        · simp only [hn0, if_false] at hf ⊢
          simp only [Sem.run_bind, Sem.run_pure, Result.andThen_ok, hz1, Array.toList_map] at hf ⊢
          rw [hf]
          simp only [Sem.run_bind, run_newRow, Result.andThen_ok, Sem.run_pure]
    · cases hc
  case makeMap t rr =>
    split at hc <;> cases hc
    simp only [allocV, Option.some.injEq, Prod.mk.injEq] at hv
    obtain ⟨rfl, rfl⟩ := hv
    obtain ⟨h1, h2, h3⟩ := hR.alloc hn (.map [] 0) (.map #[] 0) 0 0 false (.map .nil)
    exact Sy.value (s := Instr.makeMap t none) (by simp [execOp, ho]) (v' := .map (some w.heap.size)) (w' := w.alloc (.map #[] 0)) (by simp [Instr.makeMap]) (.map (upd_self _ _ _)) h2 h1 h3
  case makeSlice t l c =>
    split at hc
    · rename_i e hu
      simp only [bind_some] at hc
      obtain ⟨b, hb, z, hz, s, hs, hc⟩ := hc
      split at hc
      · cases hc
      · rename_i hcond
        simp only [not_or, Decidable.not_not] at hcond
        obtain ⟨c3, c2⟩ := hcond
        simp only [bind_some, pure_some] at hc
        obtain ⟨l', hl, c', hc', rfl⟩ := hc
        have hrl := hρ l l' hl
        have hrc := hρ c c' hc'
        simp only [allocV] at hv
        split at hv
        · rename_i kl ln kc cn hel hec
          rw [hel] at hrl
          rw [hec] at hrc
          split at hv
          · rename_i hcnd
            obtain ⟨q1, q2, q3, q4⟩ := hcnd
            have fin : ∀ φ', Gr φ φ' m.nx (m.new ob).nx → (∀ cells : Array Value, VRs φ (repl z cn.toNat) cells.toList → Rel P w0 B φ' (m.new ob) (w.alloc (.cells cells e (0, 0))) ∧ Fr φ m w φ' (m.new ob) (w.alloc (.cells cells e (0, 0)))) → True := fun _ _ _ => trivial
            have go : (∃ φ', Gr φ φ' m.nx (m.new ob).nx ∧ (∃ ee, φ' m.nx = some ee ∧ ee.C = w.heap.size ∧ ee.o = 0 ∧ ee.opn = false) ∧ f m.nx = .slice (some (m.nx, 0, s)) ln.toNat cn.toNat ∧
                (∀ cells : Array Value, VRs φ (repl z cn.toNat) cells.toList → Rel P w0 B φ' (m.new ob) (w.alloc (.cells cells e (0, 0))) ∧ Fr φ m w φ' (m.new ob) (w.alloc (.cells cells e (0, 0))))) → Sy P w0 B φ m w ρ o (f m.nx) (m.new ob) := by
              rintro ⟨φ', g1, ⟨ee, e1, e2, e3, e4⟩, g2, g3⟩
              rw [g2]
              generalize hl1 : ρ l = l1 at hrl
              generalize hc1 : ρ c = c1 at hrc
              cases hrl
              cases hrc
              obtain ⟨zero, hz1, hz2⟩ := mkSl_sound (P := P) (φ := φ) (kl := kl) (kc := kc) hu hb hz hs q1 q2 q3 q4 w
              obtain ⟨r1, r2⟩ := g3 _ (mkCells (n := cn.toNat) hz1 c2 c3)
              refine Sy.value (s := Instr.makeSlice t (ρ l) (ρ c)) (by simp [execOp, ho]) (by rw [hl1, hc1]; exact hz2) ?_ g1 r1 r2
              have := VR.slice (b := m.nx) (i := 0) (z := s) (n := ln.toNat) (c := cn.toNat) e1 e4
              rw [e2, e3] at this
              exact this
            apply go
            have hzl := repl_length z cn.toNat
            split at hv
            · rename_i v
              simp only [Option.some.injEq, Prod.mk.injEq] at hv
              obtain ⟨rfl, rfl⟩ := hv
              have hle := upd_le ⟨w.heap.size, 0, cn.toNat, 0, false⟩ hn
              refine ⟨_, upd_gr ⟨w.heap.size, 0, cn.toNat, 0, false⟩ hn rfl, ⟨_, upd_self _ _ _, rfl, rfl, rfl⟩, rfl, fun cells hcells => ?_⟩
              obtain ⟨h1, h2, h3⟩ := hR.alloc hn (.cells .e cn.toNat (some v) e .own) (.cells cells e (0, 0)) cn.toNat 0 false (same_OR (hcells.mono hle) (fun i hi => by rw [repl_get, if_pos (by simpa using hi)]; simp [Nat.mod_one]) (by rw [hzl]; simp) rfl rfl rfl)
              exact ⟨h1, h3⟩
            · split at hv
              · rename_i v zs hne
                split at hv
                · rename_i hall
                  simp only [Option.some.injEq, Prod.mk.injEq] at hv
                  obtain ⟨rfl, rfl⟩ := hv
                  have hallv : ∀ u ∈ v :: zs, u = v := fun u hu => AV.beq_eq u v (List.all_eq_true.1 hall u hu)
                  have hle := upd_le ⟨w.heap.size, 0, cn.toNat * (v :: zs).length, 0, false⟩ hn
                  refine ⟨_, upd_gr ⟨w.heap.size, 0, cn.toNat * (v :: zs).length, 0, false⟩ hn rfl, ⟨_, upd_self _ _ _, rfl, rfl, rfl⟩, rfl, fun cells hcells => ?_⟩
                  obtain ⟨h1, h2, h3⟩ := hR.alloc hn (.cells .e (cn.toNat * (v :: zs).length) (some v) e .own) (.cells cells e (0, 0)) (cn.toNat * (v :: zs).length) 0 false (same_OR (hcells.mono hle) (fun i hi => by
                    rw [repl_get, if_pos hi]
                    have hlt : i % (v :: zs).length < (v :: zs).length := Nat.mod_lt _ (by simp)
                    rw [List.getElem?_eq_getElem hlt]
                    congr 1
                    exact hallv _ (List.getElem_mem hlt)) hzl rfl rfl rfl)
                  exact ⟨h1, h3⟩
                · split at hv
                  · simp only [Option.some.injEq, Prod.mk.injEq] at hv
                    obtain ⟨rfl, rfl⟩ := hv
                    have hle := upd_le ⟨w.heap.size, 0, (repl (v :: zs) cn.toNat).length, 0, false⟩ hn
                    refine ⟨_, upd_gr ⟨w.heap.size, 0, (repl (v :: zs) cn.toNat).length, 0, false⟩ hn rfl, ⟨_, upd_self _ _ _, rfl, rfl, rfl⟩, rfl, fun cells hcells => ?_⟩
                    obtain ⟨h1, h2, h3⟩ := hR.alloc hn (ownOb e (repl (v :: zs) cn.toNat)) (.cells cells e (0, 0)) (repl (v :: zs) cn.toNat).length 0 false (own_OR (hcells.mono hle) rfl rfl rfl)
                    exact ⟨h1, h3⟩
                  · cases hv
              · cases hv
          · cases hv
        · cases hv
    · cases hc
  case range t x =>
    split at hc
    · rename_i hu
      simp only [map_some] at hc
      obtain ⟨y, hy, rfl⟩ := hc
      have hr := hρ x y hy
      simp only [allocV] at hv
      split at hv
      · rename_i s heq
        rw [heq] at hr
        simp only [Option.some.injEq, Prod.mk.injEq] at hv
        obtain ⟨rfl, rfl⟩ := hv
        obtain ⟨h1, h2, h3⟩ := hR.alloc hn (.siter s 0) (.stringIter ⟨⟨s⟩⟩ 0) 0 0 false (.siter s 0 rfl)
        refine Sy.value (s := Instr.range t (ρ x)) (by simp [execOp, ho]) (v' := .pointer (some ⟨w.heap.size, 0, none⟩)) (w' := w.alloc (.stringIter ⟨⟨s⟩⟩ 0)) ?_ (.ptr (upd_self _ _ _)) h2 h1 h3
        generalize ρ x = xx at hr
        cases hr
        simp [Instr.range, run_und hu]
      · cases hv
    · rename_i kt e hu
      simp only [map_some] at hc
      obtain ⟨y, hy, rfl⟩ := hc
      have hr := hρ x y hy
      simp only [map_some, Prod.mk.injEq] at hv
      obtain ⟨ob', hob, rfl, rfl⟩ := hv
      simp only [rangeMapV] at hob
      split at hob
      · rename_i heq
        rw [heq] at hr
        cases hob
        obtain ⟨h1, h2, h3⟩ := hR.alloc hn (.miter none 0 [] 0) (.mapIter none 0 #[] 0) 0 0 false (.miter .none rfl)
        refine Sy.value (s := Instr.range t (ρ x)) (by simp [execOp, ho]) (v' := .pointer (some ⟨w.heap.size, 0, none⟩)) (w' := w.alloc (.mapIter none 0 #[] 0)) ?_ (.ptr (upd_self _ _ _)) h2 h1 h3
        generalize ρ x = xx at hr
        cases hr
        simp [Instr.range, run_und hu]
      · rename_i rb heq
        rw [heq] at hr
        split at hob
        · rename_i es clock hg
          cases hob
          generalize hxx : ρ x = xx at hr
          cases hr
          rename_i e2 he
          obtain ⟨o', g1, g2⟩ := hR.obj hg trivial he
          cases g2 with
          | map hm =>
            rename_i es'
            have hgo := run_getObj (P := P) g1 (fun _ _ _ h => by cases h)
            have hle := upd_le ⟨w.heap.size, 0, 0, 0, false⟩ hn
            obtain ⟨h1, h2, h3⟩ := hR.alloc hn (.miter (some rb) clock [] clock) (.mapIter (some e2.C) clock #[] clock) 0 0 false (.miter (.some (hle _ _ he)) rfl)
            refine Sy.value (s := Instr.range t (ρ x)) (by simp [execOp, ho]) (v' := .pointer (some ⟨w.heap.size, 0, none⟩)) (w' := w.alloc (.mapIter (some e2.C) clock #[] clock)) ?_ (.ptr (upd_self _ _ _)) h2 h1 h3
            rw [hxx]
            simp [Instr.range, run_und hu, hgo]
        · cases hob
      · cases hob
    · cases hc
  case convert src dst x =>
    rw [Option.bind_eq_some_iff] at hc
    obtain ⟨y, hy, hc⟩ := hc
    have hr := hρ x y hy
    unfold cConv at hc
    split at hc
    · cases hc; simp [AOp.cls] at hcl
    · cases hc; simp [AOp.cls] at hcl
    · cases hc; simp [AOp.cls] at hcl
    · rename_i e hs hd
      split at hc
      · rename_i hu h1
        cases hc
        simp only [allocV] at hv
        split at hv
        · rename_i s heq
          rw [heq] at hr
          split at hv
          · simp only [Option.some.injEq, Prod.mk.injEq] at hv
            obtain ⟨rfl, rfl⟩ := hv
            generalize hxx : ρ x = xx at hr
            cases hr
            let cap := (Question.appendCap s.length 0 e).cut (w.tape w.drawn (.appendCap s.length 0 e))
            have hcap : s.length ≤ cap := cut_appendCap _ _ _ _
            let cells : Array Value := ((s.map fun b => Value.int .u8 b.toNat)).toArray ++ Array.replicate (cap - s.length) (.int .u8 0)
            have hcs : cells.size = cap := by simp [cells]; omega
            have hlen : (s.map fun b => AV.int .u8 b.toNat).length = s.length := by simp
            have hor : ∀ φ', OR P φ' ⟨w.heap.size, 0, cap, 1, true⟩ (.cells (T.puts .e 0 (s.map fun b => .int .u8 b.toNat)) s.length none e .open_) (.cells cells e (cap, cap + 1)) := by
              intro φ'
              have := open_OR (P := P) (φ := φ') (e := ⟨w.heap.size, 0, cap, 1, true⟩) (cs := s.map fun b => AV.int .u8 b.toNat) (cells := cells) (el := e) (fz := (cap, cap + 1)) (by
                have : cells.toList.take (s.map fun b => AV.int .u8 b.toNat).length = s.map fun b => Value.int .u8 b.toNat := by
                  rw [hlen]
                  simp [cells]
                rw [this]
                exact bytes_VRs s) (by rw [hlen, hcs]; exact hcap) rfl (by rw [hlen]; exact hcap) (by rw [hcs]; exact Nat.le_refl _) rfl h1 (by show 0 < 1; omega) (fun j g1 g2 => by have g3 : cap ≤ j := g1; show 0 + cap ≤ j; omega)
              rwa [hlen] at this
            obtain ⟨g1, g2, g3⟩ := hR.drew.alloc hn _ (.cells cells e (cap, cap + 1)) cap 1 true (hor _)
            refine Sy.value (s := convert src dst (ρ x)) (by simp [execOp, ho]) (v' := .slice (some ⟨w.heap.size, 0, none⟩) s.length cap) (w' := w.drew.alloc (.cells cells e (cap, cap + 1))) ?_
              (.sliceO (e := ⟨w.heap.size, 0, cap, 1, true⟩) (upd_self _ _ _) rfl rfl hcap (by simp)) g2 g1 ((Fr.drew φ m w).trans g3)
            rw [hxx]
            simp only [convert, Sem.run_bind, run_und hs, run_und hd, Result.andThen_ok, run_und hu]
            exact run_s2b e s w
          · cases hv
        · cases hv
      · cases hc
    · split at hc <;> cases hc; simp [AOp.cls] at hcl
    · split at hc <;> cases hc; simp [AOp.cls] at hcl
    · split at hc <;> cases hc; simp [AOp.cls] at hcl
    · cases hc
  case slice t x lo hi mx =>
    simp only [bind_some, pure_some] at hc
    obtain ⟨k, hk, x', hx, lo', hlo, hi', hhi, mx', hmx, rfl⟩ := hc
    cases k <;> simp [AOp.cls] at hcl
  case call c =>
    split at hc
    · simp only [bind_some, pure_some] at hc
      obtain ⟨_, _, _, _, rfl⟩ := hc
      simp [AOp.cls] at hcl
    · rename_i b hb
      unfold cBuiltin at hc
      simp only [bind_some] at hc
      obtain ⟨as, has, hc⟩ := hc
      split at hc
      · split at hc
        · cases hc; simp [AOp.cls] at hcl
        · cases hc; simp [AOp.cls] at hcl
        · cases hc; simp [AOp.cls] at hcl
        · cases hc; simp [AOp.cls] at hcl
        · split at hc
          · cases hc; simp [AOp.cls] at hcl
          · cases hc
        · cases hc
      · split at hc
        · cases hc; simp [AOp.cls] at hcl
        · cases hc
      · split at hc
        · cases hc
        · simp only [bind_some] at hc
          obtain ⟨_, _, _, _, _, _, hc⟩ := hc
          split at hc
          · cases hc
          · simp only [pure_some] at hc; subst hc; simp [AOp.cls] at hcl
        · cases hc
      · split at hc
        · simp only [bind_some] at hc
          obtain ⟨_, _, hc⟩ := hc
          split at hc
          · cases hc
          · simp only [pure_some] at hc; subst hc; simp [AOp.cls] at hcl
        · cases hc
      · split at hc
        · simp only [bind_some, pure_some] at hc
          obtain ⟨_, _, rfl⟩ := hc
          simp [AOp.cls] at hcl
        · cases hc
      · split at hc
        · cases hc; simp [AOp.cls] at hcl
        · simp only [bind_some] at hc
          obtain ⟨_, _, _, _, hc⟩ := hc
          split at hc
          · cases hc
          · simp only [pure_some] at hc; subst hc; simp [AOp.cls] at hcl
        · cases hc
      · cases hc; simp [AOp.cls] at hcl
      · cases hc; simp [AOp.cls] at hcl
      · cases hc; simp [AOp.cls] at hcl
      · split at hc
        · split at hc
          · cases hc; simp [AOp.cls] at hcl
          · cases hc
        · cases hc
      · cases hc
    · simp only [bind_some, pure_some] at hc
      obtain ⟨_, _, _, _, rfl⟩ := hc
      simp [AOp.cls] at hcl
  case next it isS =>
    simp only [map_some] at hc
    obtain ⟨_, _, rfl⟩ := hc
    split at hcl <;> simp [AOp.cls] at hcl
  case insert t m k v =>
    split at hc
    · simp only [bind_some, pure_some] at hc
      obtain ⟨_, _, _, _, _, _, _, _, rfl⟩ := hc
      simp [AOp.cls] at hcl
    · cases hc
  case makeInterface t x =>
    split at hc
    · cases hc
    · simp only [map_some] at hc
      obtain ⟨y, hy, rfl⟩ := hc
      simp [AOp.cls] at hcl
    · cases hc
  case makeFunc fn a b =>
    split at hc
    · simp only [bind_some, pure_some] at hc
      obtain ⟨a', ha, b', hb, rfl⟩ := hc
      simp [AOp.cls] at hcl
    · cases hc
  case fieldAddr s x f =>
    split at hc
    · split at hc
      · split at hc
        · cases hc
        · simp only [map_some] at hc
          obtain ⟨y, hy, rfl⟩ := hc
          simp [AOp.cls] at hcl
        · cases hc
      · cases hc
    · cases hc
  case field s x f =>
    split at hc
    · split at hc
      · simp only [bind_some, pure_some] at hc
        obtain ⟨k, hk, y, hy, rfl⟩ := hc
        simp [AOp.cls] at hcl
      · cases hc
    · cases hc
  case indexAddr t x i =>
    split at hc
    · simp only [bind_some, pure_some] at hc
      obtain ⟨z, hz, x', hx, i', hi, rfl⟩ := hc
      simp [AOp.cls] at hcl
    · simp only [bind_some, pure_some] at hc
      obtain ⟨z, hz, x', hx, i', hi, rfl⟩ := hc
      simp [AOp.cls] at hcl
    · cases hc
  case index t x i =>
    split at hc
    · simp only [bind_some, pure_some] at hc
      obtain ⟨z, hz, ag, hag, x', hx, i', hi, rfl⟩ := hc
      simp [AOp.cls] at hcl
    · simp only [bind_some, pure_some] at hc
      obtain ⟨x', hx, i', hi, rfl⟩ := hc
      simp [AOp.cls] at hcl
    · cases hc
  case mapUpdate t m k v =>
    split at hc
    · simp only [bind_some, pure_some] at hc
      obtain ⟨_, _, _, _, _, _, _, _, rfl⟩ := hc
      simp [AOp.cls] at hcl
    · cases hc
  case mapEntry t m k =>
    split at hc
    · simp only [bind_some, pure_some] at hc
      obtain ⟨_, _, _, _, _, _, _, _, rfl⟩ := hc
      simp [AOp.cls] at hcl
    · cases hc
  case lookup t x i ok =>
    split at hc
    · simp only [bind_some, pure_some] at hc
      obtain ⟨_, _, _, _, _, _, _, _, rfl⟩ := hc
      simp [AOp.cls] at hcl
    · cases hc
  case typeAssert x xt t ok =>
    split at hc
    · cases hc
    · split at hc
      · cases hc
      · simp only [map_some] at hc
        obtain ⟨_, _, rfl⟩ := hc
        simp [AOp.cls] at hcl
      · cases hc
  all_goals first
    | cases hc; done
    | (simp only [map_some] at hc; obtain ⟨_, _, rfl⟩ := hc; simp [AOp.cls] at hcl; done)
    | (simp only [bind_some, pure_some] at hc; obtain ⟨_, _, rfl⟩ := hc; simp [AOp.cls] at hcl; done)
    | (simp only [bind_some, pure_some] at hc; obtain ⟨_, _, _, _, rfl⟩ := hc; simp [AOp.cls] at hcl; done)
    | (simp only [bind_some, pure_some] at hc; obtain ⟨_, _, _, _, _, _, rfl⟩ := hc; simp [AOp.cls] at hcl; done)
    | (simp only [bind_some, pure_some] at hc; obtain ⟨_, _, _, _, _, _, _, _, rfl⟩ := hc; simp [AOp.cls] at hcl; done)

end Go.Den

/- Stores, and appends. -/
namespace Go.Den
open Go Go.RowKit

variable {P : Program} {w0 : World} {B : Nat} {φ : Emb} {m : Me} {w : World}

theorem one_VRs : ∀ {vs : List AV} {vs' : List Value}, VRs φ vs vs' → vs.all AV.one = true → ∀ v ∈ vs', v.oneCell' = true
  | _, _, .nil, _, v, h => by cases h
  | _, _, .cons hv t, hall, v, h => by
    simp only [List.all_cons, Bool.and_eq_true] at hall
    rcases List.mem_cons.1 h with rfl | h
    · exact hv.oneCell hall.1
    · exact one_VRs t hall.2 v h

/-- Cells of a block of ours set. -/
theorem put_sound (hR : Rel P w0 B φ m w) {b i : Nat} {ob ob' : Ob} {e : E} (hg : m.get b = some ob) (he : φ b = some e) {vs : List AV} {vs' : List Value} (hp : ob.putCells i vs = some ob') (hvs : VRs φ vs vs') :
    ∃ w', (storeCells ⟨e.C, e.o + i, none⟩ vs').run P w = .ok () w' ∧ Rel P w0 B φ (m.put b ob') w' ∧ Fr φ m w φ (m.put b ob') w' := by
  unfold Ob.putCells at hp
  split at hp
  · rename_i t size d el md
    split at hp
    · rename_i hcond
      obtain ⟨h1, h2⟩ := hcond
      have hlen := hvs.length
      obtain ⟨cc, el', fz, g1, g2, g3, g4, g5⟩ := hR.cells hg he
      have main : Free fz e.o e.K → (∀ cc' : Array Value, cc'.size = cc.size → MdR P e size el cc' el' fz md) → (Ob.cells t size d el md).notRo → some (Ob.cells (t.puts i vs) size d el md) = some ob' →
          ∃ w', (storeCells ⟨e.C, e.o + i, none⟩ vs').run P w = .ok () w' ∧ Rel P w0 B φ (m.put b ob') w' ∧ Fr φ m w φ (m.put b ob') w' := by
        intro hfz hmd hnr hob
        cases hob
        obtain ⟨w', r1, r2, r3⟩ := run_storeCells_put (P := P) (C := e.C) (o := e.o + i) vs' 0 cc w g1 (by rw [hlen]; omega) (fun j j1 j2 ⟨f1, f2⟩ => by
          have := hfz j f1 f2; rw [hlen] at j2; omega) (one_VRs hvs h2)
        refine ⟨w', r1, ?_⟩
        refine hR.put hg hnr he r2 r3 (.cells (fun j hj => ?_) g3 (by simpa using g4) (hmd _ (by simp)))
        obtain ⟨v', q1, q2⟩ := g2 j hj
        have hsz : e.o + i + 0 + vs'.length ≤ cc.size := by rw [hlen]; omega
        rw [putA_get _ _ _ _ hsz]
        by_cases hin : i ≤ j ∧ j < i + vs.length
        · obtain ⟨u', u1, u2⟩ := hvs.get (j - i) vs[j - i] (List.getElem?_eq_getElem (by omega))
          refine ⟨u', ?_, fun v hv => ?_⟩
          · rw [if_pos (by rw [hlen]; omega), show e.o + j - (e.o + i + 0) = j - i by omega]; exact u1
          · simp only [Ob.cell, if_pos hj, T.get_puts, if_pos hin, List.getElem?_eq_getElem (show j - i < vs.length by omega), Option.some.injEq] at hv
            subst hv; exact u2
        · refine ⟨v', ?_, fun v hv => q2 v ?_⟩
          · rw [if_neg (by rw [hlen]; omega)]; exact q1
          · simp only [Ob.cell, if_pos hj, T.get_puts, if_neg hin] at hv ⊢
            exact hv
      split at hp
      · obtain ⟨a1, a2, a3, a4, a5, a6⟩ := g5
        exact main a6 (fun cc' hs => ⟨a1, a2, a3, by rw [hs]; exact a4, a5, a6⟩) trivial hp
      · obtain ⟨a1, a2, a3, a4, a5⟩ := g5
        exact main a5 (fun cc' hs => ⟨a1, a2, a3, a4, a5⟩) trivial hp
      · cases hp
    · cases hp
  · cases hp

theorem store_sound (hR : Rel P w0 B φ m w) {K : Nat → Bool} {r : Opd → AV} {ρ : Operand → Value} (hρ : OpR P φ K r ρ) {o : Oper} {a : AOp} (hc : cOp K P o.op = some a) {n : Nat} {x y : Opd} (ha : a = .store n x y)
    {m' : Me} (hv : storeV r m n x y = some m') : Sy P w0 B φ m w ρ o .undef m' := by
  subst ha
  obtain ⟨t, x', y', ho, hn, hx, hy⟩ : ∃ t x' y', o.op = .store t x' y' ∧ sz P t = some n ∧ opd P K x' = some x ∧ opd P K y' = some y := by
    cases ho : o.op <;> rw [ho] at hc <;> simp only [cOp] at hc
    case store t x' y' =>
      simp only [bind_some, pure_some] at hc
      obtain ⟨n', hn, a', ha', b', hb', h⟩ := hc
      cases h
      exact ⟨t, x', y', rfl, hn, ha', hb'⟩
    case call c =>
      split at hc
      · simp only [bind_some, pure_some, reduceCtorEq, and_false, exists_false] at hc
      · simp only [cBuiltin, bind_some] at hc
        obtain ⟨_, _, hc⟩ := hc
        repeat' split at hc
        all_goals first
          | (cases hc; done)
          | (simp only [bind_some, pure_some, reduceCtorEq, and_false, exists_false] at hc; done)
          | (simp only [bind_some] at hc; obtain ⟨_, _, _, _, _, _, hc⟩ := hc; split at hc <;> cases hc; done)
          | (simp only [bind_some] at hc; obtain ⟨_, _, _, _, hc⟩ := hc; split at hc <;> cases hc; done)
          | (simp only [bind_some] at hc; obtain ⟨_, _, hc⟩ := hc; split at hc <;> cases hc; done)
      · simp only [bind_some, pure_some, reduceCtorEq, and_false, exists_false] at hc
    case convert src dst x =>
      obtain ⟨u, _, hc⟩ := Option.bind_eq_some_iff.1 hc
      unfold cConv at hc
      repeat' split at hc
      all_goals cases hc
    all_goals first
      | (cases hc; done)
      | (simp only [bind_some, pure_some, map_some, reduceCtorEq, and_false, exists_false] at hc; done)
      | (repeat' split at hc
         all_goals first
          | (cases hc; done)
          | (simp only [bind_some, pure_some, map_some, reduceCtorEq, and_false, exists_false] at hc; done)
          | (simp only [map_some] at hc; obtain ⟨_, _, hc⟩ := hc; split at hc <;> cases hc; done)
          | (simp only [bind_some] at hc; obtain ⟨_, _, _, _, _, _, hc⟩ := hc; split at hc <;> first | (cases hc; done) | (simp only [bind_some, pure_some, reduceCtorEq, and_false, exists_false] at hc; done))
          | (simp only [bind_some] at hc; obtain ⟨_, _, hc⟩ := hc; split at hc <;> first | (cases hc; done) | (simp only [bind_some, pure_some, reduceCtorEq, and_false, exists_false] at hc; done)))
  have hrx := hρ x' x hx
  have hry := hρ y' y hy
  unfold storeV at hv
  split at hv
  · rename_i b i heq
    rw [heq] at hrx
    split at hv
    · cases hv
    · rename_i hlen
      simp only [Decidable.not_not] at hlen
      split at hv
      · rename_i ob hg
        simp only [map_some] at hv
        obtain ⟨ob', hp, rfl⟩ := hv
        generalize hxx : ρ x' = xx at hrx
        cases hrx
        rename_i e he
        have hall : (r y).cells.all AV.one = true := by
          unfold Ob.putCells at hp
          split at hp
          · split at hp
            · rename_i hcond; exact hcond.2
            · cases hp
          · cases hp
        have hvs := hry.cells hall
        obtain ⟨w', r1, r2, r3⟩ := put_sound hR hg he hp hvs
        have hl2 : (ρ y').cells.size = n := by rw [← hlen]; simpa using hvs.length
        refine ⟨Go.undef, w', φ, .inr ⟨?_, rfl⟩, VR.undef φ, Gr.refl φ _, r2, r3⟩
        simp only [execOp, ho, Instr.storeAt, Instr.sureAddr, hxx, Sem.run_bind, Sem.run_pure, Result.andThen_ok, storeVar, run_sz hn, hl2, ne_eq, not_true_eq_false, if_false, r1]
      · cases hv
  · cases hv

end Go.Den

/- Appends. -/
namespace Go.Den
open Go Go.RowKit

variable {P : Program} {w0 : World} {B : Nat} {φ : Emb} {m : Me} {w : World}

theorem Fr.dead (φ : Emb) (m : Me) (w : World) (b : Nat) : Fr φ m w φ (m.put b .dead) w :=
  ⟨Nat.le_refl _, fun _ _ _ => rfl, fun c o e h1 h2 h3 => by
    rw [Me.get_put] at h1
    split at h1
    · cases h1; exact h2.elim
    · exact .inl ⟨c, o, e, h1, h2, h3, rfl⟩⟩

theorem lenV_sound {x : AV} {n : Nat} (h : lenV x = some n) {x' : Value} (hx : VR φ x x') (w : World) : (Builtin.lenOf x').run P w = .ok n w := by
  unfold lenV at h
  split at h
  · cases h; cases hx; rfl
  · cases h; cases hx <;> rfl
  · cases h

theorem first_sound (hR : Rel P w0 B φ m w) {z n : Nat} {x : AV} {vs : List AV} (hl : lenV x = some n) {n' : Nat} (h : firstV m z n' x = some vs) {x' : Value} (hx : VR φ x x') (hn : n' ≤ n) :
    ∃ vs', (Builtin.firstCells z n' x').run P w = .ok vs' w ∧ VRs φ vs vs'.toList ∧ vs.length = n' * z := by
  unfold firstV at h
  split at h
  · rename_i s
    split at h
    · rename_i hz; subst hz
      cases h
      cases hx
      simp only [lenV, Option.some.injEq] at hl
      subst hl
      refine ⟨((⟨⟨s⟩⟩ : ByteArray).extract 0 n').data.map fun b => .int .u8 b.toNat, rfl, ?_, by simp; omega⟩
      have : ((⟨⟨s⟩⟩ : ByteArray).extract 0 n').data = ⟨s.take n'⟩ := by
        rw [ByteArray.data_extract]
        simp
      rw [this]
      simpa using bytes_VRs (s.take n')
    · cases h
  · split at h
    · rename_i hz; subst hz; cases h; cases hx
      exact ⟨#[], rfl, .nil, by simp⟩
    · cases h
  · rename_i b i zz ln cp
    have hl2 : ln = n := by simpa [lenV] using hl
    subst hl2
    split at h
    · rename_i hz; subst hz; cases h
      cases hx <;> exact ⟨#[], by simp [Builtin.firstCells, loadCells, loadCellsFrom], .nil, by simp⟩
    · rename_i hz0
      split at h
      · rename_i ob hg
        by_cases hz1 : n' * z = 0
        · rw [hz1] at h
          simp only [Ob.cellsFrom, Option.some.injEq] at h
          subst h
          cases hx <;> exact ⟨#[], by simp [Builtin.firstCells, hz1, loadCells, loadCellsFrom], .nil, by simp [hz1]⟩
        · have main : ∀ e, φ b = some e → ∃ vs', (loadCells ⟨e.C, e.o + i, none⟩ (n' * z)).run P w = .ok vs' w ∧ VRs φ vs vs'.toList ∧ vs.length = n' * z := by
            intro e he
            obtain ⟨tt, size, d, el, md, rfl⟩ : ∃ tt size d el md, ob = .cells tt size d el md := by
              cases hk : n' * z with
              | zero => exact absurd hk hz1
              | succ k =>
                rw [hk] at h
                simp only [Ob.cellsFrom] at h
                split at h
                · rename_i u hu
                  obtain ⟨_, tt, size, d, el, md, rfl, _⟩ := Ob.cell_live hu
                  exact ⟨_, _, _, _, _, rfl⟩
                · cases h
            obtain ⟨cc, el', fz, h1, h2, h3, h4, h5⟩ := hR.cells hg he
            obtain ⟨g1, g2, g3⟩ := cellsFrom_sound h2 _ i vs h
            have := g2 hz1
            exact ⟨_, run_loadCells_of h1 (by omega), by simpa using g1, g3⟩
          cases hx with
          | slice he ho => exact main _ he
          | sliceO he ho hz hc hK => exact main _ he
          | sliceE he ho hz ha => exact absurd (by omega) hz0
      · cases h
  · cases h

theorem notInt {d : TypeDesc} (hd : ∀ k, d ≠ .int k) : (match d with | .int _ => true | _ => false) = false := by
  cases d <;> first | rfl | exact absurd rfl (hd _)

theorem run_append {t u e : TypeId} {z bytes : Nat} {d : TypeDesc} (hu : und P t = some (.slice e)) (hu2 : und P u = some d) (hd : ∀ k, d ≠ .int k) (hz : sz P e = some z) (hb : bts P e = some bytes)
    {zv : List AV} (hzv : zcells P e = some zv) (hzl : zv.length = z)
    {ty : TypeId} {base : Option Addr} {len cap n : Nat} {x : Value} (hn : ∀ w : World, (Builtin.lenOf x).run P w = .ok n w) (w : World) :
    (len + n ≤ cap → ∀ new, (Builtin.firstCells z n x).run P w = .ok new w → (Builtin.append_ #[t, u] ty #[.slice base len cap, x]).run P w = (match base with
      | none => .ok (.slice base (len + n) cap) w
      | some a => ((storeCells (a.add (len * z)) new.toList).run P w).andThen fun _ w => .ok (.slice base (len + n) cap) w)) ∧
    (cap < len + n → (2 * (len + n) + 768) * bytes ≤ 2 ^ 48 → len + n ≤ 2 ^ 48 → ∀ old new, (Builtin.firstCells z len (.slice base len cap)).run P w.drew = .ok old w.drew → (Builtin.firstCells z n x).run P w.drew = .ok new w.drew →
      ∃ newCap rest, len + n ≤ newCap ∧ rest.size = (newCap - (len + n)) * z ∧ (Builtin.append_ #[t, u] ty #[.slice base len cap, x]).run P w =
        .ok (.slice (some ⟨w.heap.size, 0, none⟩) (len + n) newCap) (w.drew.alloc (.cells (old ++ new ++ rest) e (0, 0)))) := by
  obtain ⟨ii, hi, hib⟩ : ∃ ii, P.info? e = some ii ∧ ii.bytes = bytes := by
    simpa [bts, map_some] using hb
  obtain ⟨zz, hz1, hz2, _⟩ := run_zcells hzv
  have hzs : zz.cells.size = z := by have := (hz2 (fun _ => none)).length; rw [← hzl]; simpa using this
  have hdm := notInt hd
  constructor
  · intro hle new hnew
    simp only [Builtin.append_, List.getElem?_toArray, List.getElem?_cons_zero, List.getElem?_cons_succ, Sem.run_bind, run_und hu, Result.andThen_ok, run_sz hz, run_und hu2, Sem.run_pure, hdm, Bool.false_eq_true, if_false, hn, Bool.not_false, if_true, hle, hnew]
    cases base with
    | none => rfl
    | some a => simp only [Sem.run_bind, Sem.run_pure]
  · intro hgt h48 hneed old new hold hnew
    have hng : ¬ (len + n ≤ cap) := by omega
    have hns := nextslicecap_le (need := len + n) (old := cap) hgt
    have hns2 : Builtin.nextslicecap (len + n) cap * bytes ≤ 2 ^ 48 := by
      refine Nat.le_trans (Nat.mul_le_mul_right _ (Nat.le_trans hns ?_)) h48
      omega
    have hmx : ¬ (((len + n : Nat) : Int) > IntKind.i64.max ∧ (False ∨ bytes = 0)) := by
      rintro ⟨h, _⟩
      have : IntKind.i64.max = 9223372036854775807 := rfl
      rw [this] at h
      have h48' : len + n ≤ 281474976710656 := hneed
      omega
    refine ⟨(Question.appendCap (len + n) cap e).cut (w.tape w.drawn (.appendCap (len + n) cap e)), Builtin.zeroCells zz.cells ((Question.appendCap (len + n) cap e).cut (w.tape w.drawn (.appendCap (len + n) cap e)) - (len + n)), cut_appendCap _ _ _ _, by simp [Builtin.zeroCells, hzs], ?_⟩
    simp only [Builtin.append_, List.getElem?_toArray, List.getElem?_cons_zero, List.getElem?_cons_succ, Sem.run_bind, run_und hu, Result.andThen_ok, run_sz hz, run_und hu2, Sem.run_pure, hdm, Bool.false_eq_true, if_false, hn, Bool.not_false, if_true, hng,
      run_info hi, hib, hmx, if_neg (show ¬ (Builtin.nextslicecap (len + n) cap * bytes > 2 ^ 48) by omega), run_choose, Question.forced]
    have e2 : ({ w with drawn := w.drawn + 1 } : World) = w.drew := rfl
    rw [e2]
    simp only [run_askRoom, Result.andThen_ok, hold, hnew, hz1, run_newRow, Sem.run_bind, Sem.run_pure]
    rfl

/-- What a step that gives a value comes to. -/
def Ey (P : Program) (w0 : World) (B : Nat) (φ : Emb) (m : Me) (w : World) (s : Sem Value) (v : AV) (m' : Me) : Prop :=
  ∃ v' w' φ', s.run P w = .ok v' w' ∧ VR φ' v v' ∧ Gr φ φ' m.nx m'.nx ∧ Rel P w0 B φ' m' w' ∧ Fr φ m w φ' m' w'

/-- A grown row in new memory. -/
theorem grown_new (hR : Rel P w0 B φ m w) (hn : φ m.nx = none) {el : TypeId} {z need newCap : Nat} (hz : sz P el = some z) (hz0 : 0 < z) {t : T AV} {d : Option AV} {A rest : Array Value}
    (hA : A.size = need * z) (hrest : rest.size = (newCap - need) * z) (hcap : need ≤ newCap) (hcell : ∀ j v, (Ob.cells t (need * z) d el .open_).cell j = some v → ∃ v', A[j]? = some v' ∧ VR φ v v') :
    ∃ φ', VR φ' (.slice (some (m.nx, 0, z)) need need) (.slice (some ⟨w.heap.size, 0, none⟩) need newCap) ∧ Gr φ φ' m.nx (m.nx + 1) ∧
      Rel P w0 B φ' (m.new (.cells t (need * z) d el .open_)) (w.alloc (.cells (A ++ rest) el (0, 0))) ∧ Fr φ m w φ' (m.new (.cells t (need * z) d el .open_)) (w.alloc (.cells (A ++ rest) el (0, 0))) := by
  have hle := upd_le ⟨w.heap.size, 0, newCap * z, z, true⟩ hn
  have hmul : need * z ≤ newCap * z := Nat.mul_le_mul_right _ hcap
  have hsz : (A ++ rest).size = newCap * z := by
    rw [Array.size_append, hA, hrest, ← Nat.add_mul]; congr 1; omega
  obtain ⟨h1, h2, h3⟩ := hR.alloc hn (.cells t (need * z) d el .open_) (.cells (A ++ rest) el (0, 0)) (newCap * z) z true
    (.cells (fun i hi => by
        have hiA : i < A.size := by omega
        refine ⟨A[i], ?_, fun v hv => ?_⟩
        · show (A ++ rest)[0 + i]? = _
          rw [Nat.zero_add, Array.getElem?_append_left hiA, Array.getElem?_eq_getElem hiA]
        · obtain ⟨v', g1, g2⟩ := hcell i v hv
          rw [Array.getElem?_eq_getElem hiA] at g1
          cases g1
          exact g2.mono hle)
      hmul (by simp only [hsz]; omega) ⟨rfl, rfl, hz, hz0, fun j h1 h2 => by simp at h2⟩)
  refine ⟨_, .sliceO (upd_self _ _ _) rfl rfl hcap (by simp), h2, h1, h3⟩

/-- A grown row where the old one is. -/
theorem grown_here (hR : Rel P w0 B φ m w) (hn : φ m.nx = none) {b i : Nat} {t0 : T AV} {size : Nat} {d0 : Option AV} {el : TypeId} (hg : m.get b = some (.cells t0 size d0 el .open_)) {e : E} (he : φ b = some e)
    {z len need cap : Nat} (hz : z = e.z) (hK : i + cap * e.z ≤ e.K) (hneed : need ≤ cap) {t : T AV} {d : Option AV} {cc : Array Value} {fz : Nat × Nat} (hw : w.heap[e.C]? = some (.cells cc el fz))
    {new : List Value} (hln : len * z + new.length = need * z) (h1 : ∀ v ∈ new, v.oneCell' = true)
    (hcell : ∀ j v, (Ob.cells t (need * z) d el .open_).cell j = some v → ∃ v', (((cc.toList.drop (e.o + i)).take (len * z)) ++ new)[j]? = some v' ∧ VR φ v v') :
    ∃ φ' w', (storeCells ⟨e.C, e.o + i + len * z, none⟩ new).run P w = .ok () w' ∧ VR φ' (.slice (some (m.nx, 0, z)) need need) (.slice (some ⟨e.C, e.o + i, none⟩) need cap) ∧ Gr φ φ' m.nx (m.nx + 1) ∧
      Rel P w0 B φ' ((m.put b .dead).new (.cells t (need * z) d el .open_)) w' ∧ Fr φ m w φ' ((m.put b .dead).new (.cells t (need * z) d el .open_)) w' := by
  subst hz
  obtain ⟨cc', el', fz', g1, g2, g3, g4, g5⟩ := hR.cells hg he
  rw [hw] at g1; cases g1
  obtain ⟨a1, a2, a3, a4, a5⟩ := g5
  have hmul : need * e.z ≤ cap * e.z := Nat.mul_le_mul_right _ hneed
  have hnot : ∀ j, j < e.o + e.K → ¬ (fz.1 ≤ j ∧ j < fz.2) := fun j hj ⟨x1, x2⟩ => by have := a5 j x1 x2; omega
  obtain ⟨w', r1, r2, r3⟩ := run_storeCells_put (P := P) (o := e.o + i + len * e.z) new 0 cc w hw (by omega) (fun j x1 x2 => hnot j (by omega)) h1
  have hle := upd_le ⟨e.C, e.o + i, e.K - i, e.z, true⟩ hn
  have hD := hR.dead hg
  have hgd : ∀ {c o}, (m.put b .dead).get c = some o → o.live → c ≠ b ∧ m.get c = some o := fun {c o} hc hl => by
    rw [Me.get_put] at hc
    split at hc
    · cases hc; exact hl.elim
    · exact ⟨by assumption, hc⟩
  have hap : ∀ c o f, (m.put b .dead).get c = some o → o.live → φ c = some f → f.C ≠ e.C := fun c o f hc hl hf hCC => by
    obtain ⟨x1, x2⟩ := hgd hc hl
    exact x1 (hR.apart b c _ o e f hg x2 trivial hl he hf hCC.symm).symm
  have hex := hD.extend (w' := w') (o' := .cells (putA cc (e.o + i + len * e.z + 0) new) el fz) (show φ (m.put b .dead).nx = none from hn) (.cells t (need * e.z) d el .open_) ⟨e.C, e.o + i, e.K - i, e.z, true⟩
    (r2.below hR.below (hR.own b _ e hg trivial he)) (by rw [r2.size]; exact hR.hB) hap
    (fun c o f hc hl hf => r2.block _ (hap c o f hc hl hf)) (fun _ => hR.own b _ e hg trivial he) r3
    (.cells (fun j hj => by
        have hput := putA_get new cc (e.o + i + len * e.z + 0) (e.o + i + j) (by omega)
        show ∃ v', (putA cc (e.o + i + len * e.z + 0) new)[e.o + i + j]? = some v' ∧ _
        have hlt : e.o + i + j < cc.size := by omega
        have hval : (putA cc (e.o + i + len * e.z + 0) new)[e.o + i + j]? = (((cc.toList.drop (e.o + i)).take (len * e.z)) ++ new)[j]? := by
          rw [hput]
          have hlen : ((cc.toList.drop (e.o + i)).take (len * e.z)).length = len * e.z := by simp; omega
          by_cases hjl : j < len * e.z
          · rw [if_neg (by omega), List.getElem?_append_left (by omega), List.getElem?_take_of_lt hjl, List.getElem?_drop]; simp
          · rw [if_pos (by omega), List.getElem?_append_right (by omega), hlen]; congr 1; omega
        have hsz : j < (putA cc (e.o + i + len * e.z + 0) new).size := by rw [putA_size]; omega
        have hs2 : e.o + i + j < (putA cc (e.o + i + len * e.z + 0) new).size := by rw [putA_size]; omega
        refine ⟨_, Array.getElem?_eq_getElem hs2, fun v hv => ?_⟩
        obtain ⟨v', q1, q2⟩ := hcell j v hv
        rw [← hval, Array.getElem?_eq_getElem hs2] at q1
        cases q1
        exact q2.mono hle)
      (by show need * e.z ≤ e.K - i; omega) (by rw [putA_size]; show e.o + i + (e.K - i) ≤ cc.size; omega) ⟨rfl, rfl, a3, a4, fun j x1 x2 => by have := a5 j x1 x2; show e.o + i + (e.K - i) ≤ j; omega⟩)
  refine ⟨_, w', r1, .sliceO (upd_self _ _ _) rfl rfl hneed (by show 0 + cap * e.z ≤ e.K - i; omega), upd_gr _ hn rfl, hex, ?_⟩
  refine ⟨by rw [r2.size]; exact Nat.le_refl _, fun C hC hno => r2.block C fun hh => hno b _ e hg trivial he hh.symm, fun c o f hc hl hf => ?_⟩
  rw [Me.get_new] at hc
  by_cases hcn : c = (m.put b .dead).nx
  · rw [hcn] at hf
    have : upd φ m.nx ⟨e.C, e.o + i, e.K - i, e.z, true⟩ (m.put b .dead).nx = some ⟨e.C, e.o + i, e.K - i, e.z, true⟩ := upd_self _ _ _
    rw [show (m.put b .dead).nx = m.nx from rfl] at hf
    rw [upd_self] at hf
    cases hf
    exact .inl ⟨b, _, e, hg, trivial, he, rfl⟩
  · rw [if_neg hcn] at hc
    obtain ⟨x1, x2⟩ := hgd hc hl
    unfold upd at hf
    rw [if_neg (show c ≠ m.nx from hcn)] at hf
    exact .inl ⟨c, o, f, x2, hl, hf, rfl⟩

end Go.Den

/- The soundness of appends. -/
namespace Go.Den
open Go Go.RowKit

variable {P : Program} {w0 : World} {B : Nat} {φ : Emb} {m : Me} {w : World}

theorem list_cells {cs : List AV} {cs' : List Value} (h : VRs φ cs cs') {n : Nat} {el : TypeId} {md : Md} {j : Nat} {v : AV} (hv : (Ob.cells (T.puts .e 0 cs) n none el md).cell j = some v) : ∃ v', cs'[j]? = some v' ∧ VR φ v v' := by
  simp only [Ob.cell] at hv
  split at hv
  · rw [T.get_puts] at hv
    by_cases hj : 0 ≤ j ∧ j < 0 + cs.length
    · rw [if_pos hj] at hv
      split at hv
      · rename_i u hu
        cases hv
        exact h.get _ _ (by simpa using hu)
      · cases hv
    · rw [if_neg hj] at hv
      simp at hv
  · cases hv

theorem puts_cells {t0 : T AV} {size : Nat} {d0 : Option AV} {el : TypeId} {cc : Array Value} {o : Nat}
    (hc : ∀ i, i < size → ∃ v', cc[o + i]? = some v' ∧ ∀ v, (Ob.cells t0 size d0 el .open_).cell i = some v → VR φ v v') {new : List AV} {new' : List Value} (hnew : VRs φ new new') {n : Nat} (hn : n = size + new.length)
    {j : Nat} {v : AV} (hv : (Ob.cells (t0.puts size new) n d0 el .open_).cell j = some v) : ∃ v', (((cc.toList.drop o).take size) ++ new')[j]? = some v' ∧ VR φ v v' := by
  simp only [Ob.cell] at hv
  split at hv
  · rename_i hjn
    have hlen : ((cc.toList.drop o).take size).length = size := by
      by_cases h0 : size = 0
      · simp [h0]
      · obtain ⟨v', h1, _⟩ := hc (size - 1) (by omega)
        have := (Array.getElem?_eq_some_iff.1 h1).1
        simp; omega
    by_cases hj : size ≤ j
    · rw [T.get_puts, if_pos (by omega)] at hv
      rw [List.getElem?_append_right (by omega), hlen]
      rw [List.getElem?_eq_getElem (show j - size < new.length by omega)] at hv
      simp only [Option.some.injEq] at hv
      subst hv
      exact hnew.get _ _ (List.getElem?_eq_getElem _)
    · rw [T.get_puts, if_neg (by omega)] at hv
      obtain ⟨v', h1, h2⟩ := hc j (by omega)
      refine ⟨v', ?_, h2 v ?_⟩
      · rw [List.getElem?_append_left (by omega), List.getElem?_take_of_lt (by omega), List.getElem?_drop]; simpa using h1
      · simp only [Ob.cell, if_pos (show j < size by omega)]; exact hv
  · cases hv

theorem append_sound (hR : Rel P w0 B φ m w) {t u e ty : TypeId} {z bytes : Nat} {d : TypeDesc} (hu : und P t = some (.slice e)) (hu2 : und P u = some d) (hd : ∀ k, d ≠ .int k) (hz : sz P e = some z) (hz0 : z ≠ 0) (hb : bts P e = some bytes)
    {zv : List AV} (hzv : zcells P e = some zv) (hzl : zv.length = z) {s x : AV} {s' x' : Value} (hs : VR φ s s') (hx : VR φ x x') {v : AV} {m' : Me} (h : appendV m e bytes z s x = some (v, m')) (hn : m.nx < m'.nx → φ m.nx = none) :
    Ey P w0 B φ m w (Builtin.append_ #[t, u] ty #[s', x']) v m' := by
  unfold appendV at h
  simp only [bind_some] at h
  obtain ⟨n, hlen, h⟩ := h
  split at h
  case h_2 => cases h
  rename_i base len cap
  simp only [bind_some] at h
  obtain ⟨new, hfirst, h⟩ := h
  obtain ⟨new', hf1, hf2, hf3⟩ := first_sound hR hlen hfirst hx (Nat.le_refl _)
  obtain ⟨nd', hd1, hd2, _⟩ := first_sound hR.drew hlen hfirst hx (Nat.le_refl _)
  have hrun := fun b c => run_append (P := P) (ty := ty) (base := b) (len := len) (cap := c) hu hu2 hd hz hb hzv hzl (fun w => lenV_sound hlen hx w) w
  have hz1 : 0 < z := by omega
  split at h
  · rename_i hle
    split at h
    · -- a nil row, in place
      simp only [pure_some, Prod.mk.injEq] at h
      obtain ⟨rfl, rfl⟩ := h
      cases hs
      exact ⟨_, w, φ, (hrun none cap).1 hle _ hf1, .sliceN _ _, Gr.refl _ _, hR, Fr.refl _ _ _⟩
    · rename_i b i zz
      split at h
      · rename_i hn0
        subst hn0
        simp only [pure_some, Prod.mk.injEq] at h
        obtain ⟨rfl, rfl⟩ := h
        have hnew' : new' = #[] := by
          have : new'.size = 0 := by have := hf2.length; rw [hf3, Nat.zero_mul] at this; simpa using this
          exact Array.eq_empty_of_size_eq_zero this
        have hst : ∀ a c, len + 0 ≤ c → (Builtin.append_ #[t, u] ty #[.slice (some a) len c, x']).run P w = .ok (.slice (some a) (len + 0) c) w := by
          intro a c hlc
          rw [(hrun (some a) c).1 hlc _ hf1, hnew']
          rfl
        cases hs with
        | slice he ho => exact ⟨_, w, φ, hst _ _ hle, .slice he ho, Gr.refl _ _, hR, Fr.refl _ _ _⟩
        | sliceO he ho hzz hc hK => exact ⟨_, w, φ, hst _ _ (by omega), .sliceO he ho hzz hc hK, Gr.refl _ _, hR, Fr.refl _ _ _⟩
        | sliceE he ho hzz ha => exact ⟨_, w, φ, hst _ _ (by omega), .sliceE he ho hzz ha, Gr.refl _ _, hR, Fr.refl _ _ _⟩
      · rename_i hn0
        split at h
        · cases h
        · rename_i hzz
          simp only [ne_eq, Decidable.not_not] at hzz
          subst hzz
          split at h
          · rename_i ob hg
            simp only [bind_some, pure_some, Prod.mk.injEq] at h
            obtain ⟨ob', hp, rfl, rfl⟩ := h
            have main : ∀ f c, φ b = some f → len + n ≤ c → ∃ w', (Builtin.append_ #[t, u] ty #[.slice (some ⟨f.C, f.o + i, none⟩) len c, x']).run P w = .ok (.slice (some ⟨f.C, f.o + i, none⟩) (len + n) c) w' ∧
                Rel P w0 B φ (m.put b ob') w' ∧ Fr φ m w φ (m.put b ob') w' := by
              intro f c hf hc
              obtain ⟨w', r1, r2, r3⟩ := put_sound hR hg hf hp hf2
              refine ⟨w', ?_, r2, r3⟩
              rw [(hrun _ c).1 hc _ hf1]
              simp only [add_off]
              rw [show f.o + i + len * zz = f.o + (i + len * zz) by omega, r1]
              rfl
            cases hs with
            | slice he ho =>
              obtain ⟨w', r1, r2, r3⟩ := main _ cap he hle
              exact ⟨_, w', φ, r1, .slice he ho, Gr.refl _ _, r2, r3⟩
            | sliceO he ho hzz hc hK =>
              obtain ⟨w', r1, r2, r3⟩ := main _ _ he (Nat.le_trans hle hc)
              exact ⟨_, w', φ, r1, .sliceO he ho hzz hc hK, Gr.refl _ _, r2, r3⟩
            | sliceE he ho hzz ha => omega
          · cases h
  · rename_i hgt
    split at h
    · cases h
    · rename_i hcond
      simp only [not_or, Nat.not_lt, Bool.not_eq_true, Bool.not_eq_false', Bool.not_eq_false] at hcond
      obtain ⟨h48, hneed, hall⟩ := hcond
      have hone := one_VRs hf2 (by simpa using hall)
      have hsz' : new'.size = n * z := by have := hf2.length; rw [hf3] at this; simpa using this
      have hszd : nd'.size = n * z := by have := hd2.length; rw [hf3] at this; simpa using this
      split at h
      · split at h
        · cases h
        · rename_i hl0
          simp only [ne_eq, Decidable.not_not] at hl0
          subst hl0
          simp only [pure_some, Prod.mk.injEq] at h
          obtain ⟨rfl, rfl⟩ := h
          have hn1 : φ m.nx = none := hn (Nat.lt_succ_self _)
          cases hs
          obtain ⟨nc, rest, g1, g2, g3⟩ := (hrun none cap).2 (by omega) h48 hneed #[] nd' rfl hd1
          obtain ⟨φ', k1, k2, k3, k4⟩ := grown_new (A := #[] ++ nd') (z := z) (need := 0 + n) hR.drew hn1 hz hz1 (by simp [hszd]) g2 g1 (fun j v hv => by
            have := list_cells hd2 hv
            simpa using this)
          exact ⟨_, _, φ', g3, k1, k2, k3, (Fr.drew _ _ _).trans k4⟩
      · rename_i b i zz
        split at h
        · cases h
        · rename_i hzz
          simp only [ne_eq, Decidable.not_not] at hzz
          subst hzz
          split at h
          case h_2 => cases h
          rename_i t0 size d0 el' md hg
          -- what lies there
          have olds : ∀ f, φ b = some f → ∀ (w1 : World), Rel P w0 B φ m w1 → ∀ ovs, (Ob.cells t0 size d0 el' md).cellsFrom i (len * zz) = some ovs → ∀ c, ∃ os' : Array Value,
              (Builtin.firstCells zz len (.slice (some ⟨f.C, f.o + i, none⟩) len c)).run P w1 = .ok os' w1 ∧ VRs φ ovs os'.toList ∧ os'.size = len * zz ∧
                ∀ cc el2 fz, w1.heap[f.C]? = some (.cells cc el2 fz) → os'.toList = (cc.toList.drop (f.o + i)).take (len * zz) := by
            intro f hf w1 hR1 ovs hov c
            obtain ⟨cc, el2, fz, q1, q2, q3, q4, q5⟩ := hR1.cells hg hf
            obtain ⟨p1, p2, p3⟩ := cellsFrom_sound q2 _ _ _ hov
            by_cases hl0 : len * zz = 0
            · refine ⟨#[], ?_, ?_, by simp [hl0], fun _ _ _ _ => by simp [hl0]⟩
              · simp [Builtin.firstCells, hl0, loadCells, loadCellsFrom]
              · have : ovs = [] := List.eq_nil_of_length_eq_zero (by rw [p3, hl0])
                subst this; exact .nil
            · have := p2 hl0
              refine ⟨_, run_loadCells_of q1 (by omega), by simpa using p1, by simp; omega, fun cc2 el3 fz2 hh => ?_⟩
              rw [q1] at hh; cases hh
              simp
          -- a row of a known end
          have closed : ∀ (hmd : md = .own ∨ md = .ro), (do
                let old ← (Ob.cells t0 size d0 el' md).cellsFrom i (len * zz)
                pure (AV.slice (some (m.nx, 0, zz)) (len + n) (len + n), m.new (.cells (T.puts .e 0 (old ++ new)) ((len + n) * zz) none e .open_)) : Option (AV × Me)) = some (v, m') →
              Ey P w0 B φ m w (Builtin.append_ #[t, u] ty #[s', x']) v m' := by
            intro hmd h
            simp only [bind_some, pure_some, Prod.mk.injEq] at h
            obtain ⟨ovs, hov, rfl, rfl⟩ := h
            have hn1 : φ m.nx = none := hn (Nat.lt_succ_self _)
            have fin : ∀ f c, φ b = some f → c < len + n → Ey P w0 B φ m w (Builtin.append_ #[t, u] ty #[.slice (some ⟨f.C, f.o + i, none⟩) len c, x']) (.slice (some (m.nx, 0, zz)) (len + n) (len + n)) (m.new (.cells (T.puts .e 0 (ovs ++ new)) ((len + n) * zz) none e .open_)) := by
              intro f c hf hc
              obtain ⟨os', o1, o2, o3, _⟩ := olds f hf w.drew hR.drew ovs hov c
              obtain ⟨nc, rest, g1, g2, g3⟩ := (hrun (some ⟨f.C, f.o + i, none⟩) c).2 hc h48 hneed os' nd' o1 hd1
              obtain ⟨φ', k1, k2, k3, k4⟩ := grown_new (A := os' ++ nd') (z := zz) (need := len + n) hR.drew hn1 hz hz1 (by simp [o3, hszd, Nat.add_mul]) g2 g1 (fun j v hv => by
                have := list_cells (cs' := os'.toList ++ nd'.toList) (o2.append hd2) hv
                rwa [← Array.toList_append, Array.getElem?_toList] at this)
              exact ⟨_, _, φ', g3, k1, k2, k3, (Fr.drew _ _ _).trans k4⟩
            have hopn : ∀ f, φ b = some f → f.opn = false := by
              intro f hf
              obtain ⟨cc, el2, fz, q1, q2, q3, q4, q5⟩ := hR.cells hg hf
              rcases hmd with rfl | rfl
              · exact q5.1
              · exact q5
            cases hs with
            | slice he ho => exact fin _ _ he (by omega)
            | sliceO he ho hzz hc hK => rw [hopn _ he] at ho; cases ho
            | sliceE he ho hzz ha => rw [hopn _ he] at ho; cases ho
          split at h
          · exact closed (.inl rfl) h
          · exact closed (.inr rfl) h
          · -- a row of an end that is not known
            split at h
            · cases h
            · rename_i hel
              simp only [ne_eq, Decidable.not_not] at hel
              subst hel
              -- what the new block says of the cells
              have open_ : ∀ (t1 : T AV) (d1 : Option AV), (∀ f, φ b = some f → ∀ w1, Rel P w0 B φ m w1 → ∀ c, ∃ os' : Array Value, (Builtin.firstCells zz len (.slice (some ⟨f.C, f.o + i, none⟩) len c)).run P w1 = .ok os' w1 ∧ os'.size = len * zz ∧
                    (∀ cc el2 fz, w1.heap[f.C]? = some (.cells cc el2 fz) → os'.toList = (cc.toList.drop (f.o + i)).take (len * zz)) ∧
                    ∀ (ns : List Value), VRs φ new ns → ∀ j v, (Ob.cells t1 ((len + n) * zz) d1 el' .open_).cell j = some v → ∃ v', (os'.toList ++ ns)[j]? = some v' ∧ VR φ v v') →
                  (v = .slice (some (m.nx, 0, zz)) (len + n) (len + n)) → m' = (m.put b .dead).new (.cells t1 ((len + n) * zz) d1 el' .open_) → Ey P w0 B φ m w (Builtin.append_ #[t, u] ty #[s', x']) v m' := by
                intro t1 d1 hcells hv hm
                subst hv hm
                have hn1 : φ m.nx = none := hn (Nat.lt_succ_self _)
                have hD : Rel P w0 B φ (m.put b .dead) w.drew := hR.drew.dead hg
                have hFd : Fr φ m w φ (m.put b .dead) w.drew := (Fr.drew _ _ _).trans (Fr.dead _ _ _ _)
                -- a new row
                have renew : ∀ (a : Addr) c (os' : Array Value), c < len + n → (Builtin.firstCells zz len (.slice (some a) len c)).run P w.drew = .ok os' w.drew → os'.size = len * zz →
                    (∀ (ns : List Value), VRs φ new ns → ∀ j v, (Ob.cells t1 ((len + n) * zz) d1 el' .open_).cell j = some v → ∃ v', (os'.toList ++ ns)[j]? = some v' ∧ VR φ v v') →
                    Ey P w0 B φ m w (Builtin.append_ #[t, u] ty #[.slice (some a) len c, x']) (.slice (some (m.nx, 0, zz)) (len + n) (len + n)) ((m.put b .dead).new (.cells t1 ((len + n) * zz) d1 el' .open_)) := by
                  intro a c os' hc o1 o3 o4
                  obtain ⟨nc, rest, g1, g2, g3⟩ := (hrun (some a) c).2 hc h48 hneed os' nd' o1 hd1
                  obtain ⟨φ', k1, k2, k3, k4⟩ := grown_new (A := os' ++ nd') (z := zz) (need := len + n) hD (show φ (m.put b .dead).nx = none from hn1) hz hz1 (by simp [o3, hszd, Nat.add_mul]) g2 g1 (fun j v hv => by
                    have := o4 nd'.toList hd2 j v hv
                    rwa [← Array.toList_append, Array.getElem?_toList] at this)
                  exact ⟨_, _, φ', g3, k1, k2, k3, hFd.trans k4⟩
                -- the same row
                have here : ∀ f i2 c, φ b = some f → zz = f.z → i2 + c * f.z ≤ f.K → len + n ≤ c → (∀ cc el2 fz, w.heap[f.C]? = some (.cells cc el2 fz) →
                      ∀ (ns : List Value), VRs φ new ns → ∀ j v, (Ob.cells t1 ((len + n) * zz) d1 el' .open_).cell j = some v → ∃ v', ((cc.toList.drop (f.o + i2)).take (len * zz) ++ ns)[j]? = some v' ∧ VR φ v v') →
                    Ey P w0 B φ m w (Builtin.append_ #[t, u] ty #[.slice (some ⟨f.C, f.o + i2, none⟩) len c, x']) (.slice (some (m.nx, 0, zz)) (len + n) (len + n)) ((m.put b .dead).new (.cells t1 ((len + n) * zz) d1 el' .open_)) := by
                  intro f i2 c hf hzf hK hc o4
                  obtain ⟨cc, el2, fz, q1, q2, q3, q4, q5⟩ := hR.cells hg hf
                  have hel2 := q5.2.1
                  subst hel2
                  obtain ⟨φ', w', k1, k2, k3, k4, k5⟩ := grown_here (t := t1) (d := d1) (new := new'.toList) (len := len) hR hn1 hg hf hzf hK hc q1 (by simp [hsz', Nat.add_mul]) hone (o4 _ _ _ q1 _ hf2)
                  refine ⟨_, w', φ', ?_, k2, k3, k4, k5⟩
                  rw [(hrun _ c).1 hc _ hf1]
                  simp only [add_off, k1]
                  rfl
                cases hs with
                | slice he ho =>
                  obtain ⟨cc, el2, fz, q1, q2, q3, q4, q5⟩ := hR.cells hg he
                  rw [q5.1] at ho; cases ho
                | sliceO he ho hzz hc hK =>
                  rename_i c' f
                  by_cases hcc : len + n ≤ c'
                  · exact here f i c' he hzz hK hcc (fun cc el2 fz q1 ns hns j v hv => by
                      obtain ⟨os', o1, o3, o5, o4⟩ := hcells f he w hR c'
                      rw [← o5 _ _ _ q1]
                      exact o4 ns hns j v hv)
                  · obtain ⟨os', o1, o3, o5, o4⟩ := hcells f he w.drew hR.drew c'
                    exact renew _ c' os' (by omega) o1 o3 o4
                | sliceE he ho hzz ha =>
                  rename_i c' f a
                  have nilcells : ∀ (ns : List Value), VRs φ new ns → ∀ j v, (Ob.cells t1 ((0 + n) * zz) d1 el' .open_).cell j = some v → ∃ v', ([] ++ ns)[j]? = some v' ∧ VR φ v v' := by
                    obtain ⟨os', o1, o3, o5, o4⟩ := hcells f he w hR 0
                    intro ns hns j v hv
                    have h0 : os'.toList = [] := by
                      have : os'.size = 0 := by rw [o3]; simp
                      simpa using this
                    have := o4 ns hns j v hv
                    rwa [h0] at this
                  by_cases hcc : 0 + n ≤ c'
                  · rcases ha with hc0 | ⟨i2, rfl, hK2⟩
                    · omega
                    · exact here f i2 c' he hzz hK2 hcc (fun cc el2 fz q1 ns hns j v hv => by
                        rw [Nat.zero_mul, List.take_zero]
                        exact nilcells ns hns j v hv)
                  · exact renew _ c' #[] (by omega) (by simp [Builtin.firstCells, loadCells, loadCellsFrom]) (by simp) (fun ns hns j v hv => by simpa using nilcells ns hns j v hv)
              split at h
              · rename_i hi
                obtain ⟨rfl, hsize⟩ := hi
                simp only [pure_some, Prod.mk.injEq] at h
                obtain ⟨rfl, rfl⟩ := h
                refine open_ _ _ (fun f hf w1 hR1 c => ?_) rfl rfl
                obtain ⟨cc, el2, fz, q1, q2, q3, q4, q5⟩ := hR1.cells hg hf
                refine ⟨((cc.toList.drop (f.o + 0)).take (len * zz)).toArray, ?_, by simp; omega, fun cc2 el3 fz2 hh => ?_, fun ns hns j v hv => ?_⟩
                · exact run_loadCells_of q1 (by omega)
                · rw [q1] at hh; cases hh; rfl
                · have := puts_cells q2 hns (n := (len + n) * zz) (by rw [Nat.add_mul, hsize, hf3]) hv
                  rw [hsize]
                  exact this
              · simp only [bind_some, pure_some, Prod.mk.injEq] at h
                obtain ⟨ovs, hov, rfl, rfl⟩ := h
                refine open_ _ _ (fun f hf w1 hR1 c => ?_) rfl rfl
                obtain ⟨os', o1, o2, o3, o4⟩ := olds f hf w1 hR1 ovs hov c
                exact ⟨os', o1, o3, o4, fun ns hns j v hv => list_cells (o2.append hns) hv⟩
          · cases h

end Go.Den
