/- RegstoreNil: what it comes to, for every input. -/
import Derived.Test.YtampemlkcngogaaGreatDoorNilA
namespace Go.Proofs.YtampemlkcngogaaGreatDoor
open Go Go.Den
set_option maxRecDepth 100000
set_option linter.unusedSimpArgs false
set_option linter.unusedVariables false

noncomputable def X (f : FuncId) : Option AV := Bool.rec (motive := fun _ => Option AV) none (some (.bool true)) (Nat.beq f 9)
theorem X_ok : ∀ f v, X f = some v → ConS Tryz.prog f v := by
  intro f v h
  unfold X at h
  cases hb : Nat.beq f 9 with
  | false => rw [hb] at h; cases h
  | true =>
    rw [hb] at h
    obtain rfl := Nat.eq_of_beq_eq_true hb
    cases h
    exact live_con

/-- The code of the law. -/
noncomputable abbrev F : FuncId → Option AFunc := tbl Tryz.prog
noncomputable abbrev cf : CallF := callX X F 1000000 299
noncomputable abbrev cK : CallK := callK X F 1000000 299
noncomputable def c4 : ACode := AFunc.code (F 4)
theorem F4 : F 4 = some (.body 2 116 [.tmp 4] c4) := by kernel_rfl
theorem c4seq : c4 = .seq c4.fst (.seq (.seq (.ops c4.snd.fst.fst.list) (.cond (.tmp 24) (.seq c4.snd.fst.snd.thn.fst .ret) .skip)) c4.snd.snd) := by kernel_rfl
theorem X4 : X 4 = none := by kernel_rfl

abbrev reg (a b c n p : List UInt8) : AV := .agg [.str a, .str b, .str c, .str n, .str p]
abbrev fr0 (a b c n p : List UInt8) (k : Int) : T AV := T.puts .e 0 [reg a b c n p, .int .i64 k]
noncomputable abbrev s0 (a b c n p : List UInt8) (k : Int) : St := ⟨fr0 a b c n p k, [], ⟨.e, 3⟩⟩
noncomputable def s1 (a b c n p : List UInt8) (k : Int) : St := exS (exec (isBody F) cf 999999 none 4 c4.fst (s0 a b c n p k))
theorem step1 (a b c n p : List UInt8) (k : Int) : exec (isBody F) cf 999999 none 4 c4.fst (s0 a b c n p k) = some (.nrm, s1 a b c n p k) := by kernel_rfl
theorem s1two (a b c n p : List UInt8) (k : Int) : (s1 a b c n p k).fr.get 2 = some (.ptr (some (3, 0))) := by kernel_rfl
theorem s1one (a b c n p : List UInt8) (k : Int) : (s1 a b c n p k).fr.get 1 = some (.int .i64 k) := by kernel_rfl
theorem s1ld (a b c n p : List UInt8) (k : Int) : readV (Den.look [] (s1 a b c n p k).fr) (s1 a b c n p k).m (.load (some 5) (.tmp 2)) = some (reg a b c n p) := by kernel_rfl
theorem s1ds (a b c n p : List UInt8) (k : Int) : (s1 a b c n p k).ds = [] := by kernel_rfl
noncomputable def sizeN (a b c n p : List UInt8) (k : Int) : Int := ansI (cf 20 [reg a b c n p] (s1 a b c n p k).m)
noncomputable def m2 (a b c n p : List UInt8) (k : Int) : Me := ansM (cf 20 [reg a b c n p] (s1 a b c n p k).m)
theorem s1sz (a b c n p : List UInt8) (k : Int) : cf 20 [reg a b c n p] (s1 a b c n p k).m = some (.int .i64 (sizeN a b c n p k), m2 a b c n p k) := by kernel_rfl

/-- What the guard asks. -/
noncomputable def gd (N k : Int) : Bool := decide (N > 8000) || decide (k < 0) || decide (k > 20)

set_option maxHeartbeats 2000000 in
theorem guard {callF : CallF} {round : Nat → List AV → Me → Option (AV × Me)} {fr : T AV} {m m2 : Me} {r : AV} {N k : Int} (h1 : fr.get 1 = some (.int .i64 k)) (hl : readV (Den.look [] fr) m (.load (some 5) (.tmp 2)) = some r) (hs : callF 20 [r] m = some (.int .i64 N, m2)) :
    opsV callF round [⟨(some (false, 14)), none, (.load (some 5) (.tmp 2)), 0, 0⟩, ⟨(some (false, 15)), none, (.call (.func 20) [(.loc 14)]), 0, 0⟩, ⟨(some (false, 16)), none, (.bin .gtr .bool (.loc 15) (.const (.int .i64 8000))), 0, 0⟩, ⟨(some (false, 17)), none, (.val (.loc 16)), 0, 0⟩, ⟨(some (false, 18)), (some ((.loc 17), false)), (.val (.tmp 1)), 0, 0⟩, ⟨(some (false, 19)), (some ((.loc 17), false)), (.bin .lss .bool (.loc 18) (.const (.int .i64 0))), 0, 0⟩, ⟨(some (false, 20)), none, (.pick (.loc 17) (.const (.bool true)) (.loc 19)), 0, 0⟩, ⟨(some (false, 21)), none, (.val (.loc 20)), 0, 0⟩, ⟨(some (false, 22)), (some ((.loc 21), false)), (.val (.tmp 1)), 0, 0⟩, ⟨(some (false, 23)), (some ((.loc 21), false)), (.bin .gtr .bool (.loc 22) (.const (.int .i64 20))), 0, 0⟩, ⟨(some (true, 24)), none, (.pick (.loc 21) (.const (.bool true)) (.loc 23)), 0, 0⟩] [] fr m = some (fr.set 24 (.bool (gd N k)), m2) := by
  unfold gd
  by_cases hN : N > 8000 <;> by_cases h0 : k < 0 <;> by_cases h2 : k > 20 <;>
    simp [opsV, wantedV, operV, targetV, simpleV, AOp.cls, pureV, Den.look, Env.get, putE, putV, hl, hs, h1, binV, intBin, hN, h0, h2]

theorem c4G : c4.snd.fst.fst.list = [⟨(some (false, 14)), none, (.load (some 5) (.tmp 2)), 0, 0⟩, ⟨(some (false, 15)), none, (.call (.func 20) [(.loc 14)]), 0, 0⟩, ⟨(some (false, 16)), none, (.bin .gtr .bool (.loc 15) (.const (.int .i64 8000))), 0, 0⟩, ⟨(some (false, 17)), none, (.val (.loc 16)), 0, 0⟩, ⟨(some (false, 18)), (some ((.loc 17), false)), (.val (.tmp 1)), 0, 0⟩, ⟨(some (false, 19)), (some ((.loc 17), false)), (.bin .lss .bool (.loc 18) (.const (.int .i64 0))), 0, 0⟩, ⟨(some (false, 20)), none, (.pick (.loc 17) (.const (.bool true)) (.loc 19)), 0, 0⟩, ⟨(some (false, 21)), none, (.val (.loc 20)), 0, 0⟩, ⟨(some (false, 22)), (some ((.loc 21), false)), (.val (.tmp 1)), 0, 0⟩, ⟨(some (false, 23)), (some ((.loc 21), false)), (.bin .gtr .bool (.loc 22) (.const (.int .i64 20))), 0, 0⟩, ⟨(some (true, 24)), none, (.pick (.loc 21) (.const (.bool true)) (.loc 23)), 0, 0⟩] := by kernel_rfl

theorem live_end (a b c n p : List UInt8) (k : Int) : ∃ s, exec (isBody F) cf 999996 none 4 (.seq c4.snd.fst.snd.thn.fst .ret) ⟨(s1 a b c n p k).fr.set 24 (.bool true), (s1 a b c n p k).ds, m2 a b c n p k⟩ = some (.ret, s) ∧ endT [.tmp 4] .ret s.fr s.ds s.m = true :=
  ⟨exS (exec (isBody F) cf 999996 none 4 (.seq c4.snd.fst.snd.thn.fst .ret) ⟨(s1 a b c n p k).fr.set 24 (.bool true), (s1 a b c n p k).ds, m2 a b c n p k⟩), by kernel_rfl, by kernel_rfl⟩

/-- What is left behind the guard. -/
noncomputable def rest (a b c n p : List UInt8) (k : Int) : Bool := (exK (isBody F) cK 999998).E c4.snd.snd none 4 ((s1 a b c n p k).fr.set 24 (.bool false)) (s1 a b c n p k).ds (m2 a b c n p k) (endT [.tmp 4])
theorem rest0 (a b c n p : List UInt8) : rest a b c n p 0 = true := by kernel_rfl
theorem rest1 (a b c n p : List UInt8) : rest a b c n p 1 = true := by kernel_rfl
theorem rest2 (a b c n p : List UInt8) : rest a b c n p 2 = true := by kernel_rfl
theorem rest3 (a b c n p : List UInt8) : rest a b c n p 3 = true := by kernel_rfl
theorem rest4 (a b c n p : List UInt8) : rest a b c n p 4 = true := by kernel_rfl
theorem rest5 (a b c n p : List UInt8) : rest a b c n p 5 = true := by kernel_rfl
theorem rest6 (a b c n p : List UInt8) : rest a b c n p 6 = true := by kernel_rfl
theorem rest7 (a b c n p : List UInt8) : rest a b c n p 7 = true := by kernel_rfl
theorem rest8 (a b c n p : List UInt8) : rest a b c n p 8 = true := by kernel_rfl
theorem rest9 (a b c n p : List UInt8) : rest a b c n p 9 = true := by kernel_rfl
theorem rest10 (a b c n p : List UInt8) : rest a b c n p 10 = true := by kernel_rfl
theorem rest11 (a b c n p : List UInt8) : rest a b c n p 11 = true := by kernel_rfl
theorem rest12 (a b c n p : List UInt8) : rest a b c n p 12 = true := by kernel_rfl
theorem rest13 (a b c n p : List UInt8) : rest a b c n p 13 = true := by kernel_rfl
theorem rest14 (a b c n p : List UInt8) : rest a b c n p 14 = true := by kernel_rfl
theorem rest15 (a b c n p : List UInt8) : rest a b c n p 15 = true := by kernel_rfl
theorem rest16 (a b c n p : List UInt8) : rest a b c n p 16 = true := by kernel_rfl
theorem rest17 (a b c n p : List UInt8) : rest a b c n p 17 = true := by kernel_rfl
theorem rest18 (a b c n p : List UInt8) : rest a b c n p 18 = true := by kernel_rfl
theorem rest19 (a b c n p : List UInt8) : rest a b c n p 19 = true := by kernel_rfl
theorem rest20 (a b c n p : List UInt8) : rest a b c n p 20 = true := by kernel_rfl
theorem rest_all (a b c n p : List UInt8) (k : Int) (h : gd (sizeN a b c n p k) k = false) : rest a b c n p k = true := by
  have hk : 0 ≤ k ∧ k ≤ 20 := by
    simp only [gd, Bool.or_eq_false_iff, decide_eq_false_iff_not] at h
    omega
  have : k = 0 ∨ k = 1 ∨ k = 2 ∨ k = 3 ∨ k = 4 ∨ k = 5 ∨ k = 6 ∨ k = 7 ∨ k = 8 ∨ k = 9 ∨ k = 10 ∨ k = 11 ∨ k = 12 ∨ k = 13 ∨ k = 14 ∨ k = 15 ∨ k = 16 ∨ k = 17 ∨ k = 18 ∨ k = 19 ∨ k = 20 := by omega
  rcases this with rfl | rfl | rfl | rfl | rfl | rfl | rfl | rfl | rfl | rfl | rfl | rfl | rfl | rfl | rfl | rfl | rfl | rfl | rfl | rfl | rfl
  · exact rest0 a b c n p
  · exact rest1 a b c n p
  · exact rest2 a b c n p
  · exact rest3 a b c n p
  · exact rest4 a b c n p
  · exact rest5 a b c n p
  · exact rest6 a b c n p
  · exact rest7 a b c n p
  · exact rest8 a b c n p
  · exact rest9 a b c n p
  · exact rest10 a b c n p
  · exact rest11 a b c n p
  · exact rest12 a b c n p
  · exact rest13 a b c n p
  · exact rest14 a b c n p
  · exact rest15 a b c n p
  · exact rest16 a b c n p
  · exact rest17 a b c n p
  · exact rest18 a b c n p
  · exact rest19 a b c n p
  · exact rest20 a b c n p

theorem law (a b c n p : List UInt8) (k : Int) : ∃ m', callX X F 1000000 300 4 [reg a b c n p, .int .i64 k] ⟨.e, 3⟩ = some (.bool true, m') := by
  have hg := guard (round := roundV (isBody F) cf 999996) (s1one a b c n p k) (s1ld a b c n p k) (s1sz a b c n p k)
  have e2 : exec (isBody F) cf 999997 none 4 (.ops c4.snd.fst.fst.list) (s1 a b c n p k) = some (.nrm, ⟨(s1 a b c n p k).fr.set 24 (.bool (gd (sizeN a b c n p k) k)), (s1 a b c n p k).ds, m2 a b c n p k⟩) := by
    rw [c4G]
    exact exec_ops hg
  have e4 : Den.look [] ((s1 a b c n p k).fr.set 24 (.bool (gd (sizeN a b c n p k) k))) (.tmp 24) = .bool (gd (sizeN a b c n p k) k) := by
    simp [Den.look, T.get_set]
  cases hgd : gd (sizeN a b c n p k) k with
  | true =>
    rw [hgd] at e2 e4
    obtain ⟨s, h1, h2⟩ := live_end a b c n p k
    refine callX_true (x := .ret) (s := s) X4 F4 (by simp) ?_ h2
    show exec (isBody F) cf 1000000 none 4 c4 (s0 a b c n p k) = _
    rw [c4seq, exec_seq (n := 999999) (step1 a b c n p k)]
    refine exec_seq_out (n := 999998) (by simp) ?_
    rw [exec_seq (n := 999997) e2]
    rw [exec_cond (n := 999996) e4, if_pos rfl]
    exact h1
  | false =>
    rw [hgd] at e2 e4
    have hr := rest_all a b c n p k hgd
    unfold rest at hr
    obtain ⟨x, s, h1, h2⟩ := exec_of_E (isB := isBody F) (cf := cf) (n := 999998) (rd := none) (fn := 4) (c := c4.snd.snd) (fr := (s1 a b c n p k).fr.set 24 (.bool false)) (ds := (s1 a b c n p k).ds) (m := m2 a b c n p k) (cK := cK) (κ := endT [.tmp 4]) (callK_eq X F 1000000 299) hr
    refine callX_true (x := x) (s := s) X4 F4 (by simp) ?_ h2
    show exec (isBody F) cf 1000000 none 4 c4 (s0 a b c n p k) = _
    rw [c4seq, exec_seq (n := 999999) (step1 a b c n p k)]
    rw [exec_seq (n := 999998) (s' := ⟨(s1 a b c n p k).fr.set 24 (.bool false), (s1 a b c n p k).ds, m2 a b c n p k⟩)]
    · exact h1
    · rw [exec_seq (n := 999997) e2]
      rw [exec_cond (n := 999996) e4, if_neg (by simp)]
      exact exec_skip (n := 999995)
end Go.Proofs.YtampemlkcngogaaGreatDoor
