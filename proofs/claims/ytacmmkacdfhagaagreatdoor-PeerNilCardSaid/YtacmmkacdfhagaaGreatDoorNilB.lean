/- PeerNil: what it comes to, for every input. -/
import Derived.Test.YtacmmkacdfhagaaGreatDoorNilA
import Derived.Test.YtacmmkacdfhagaaGreatDoorShelf
import Derived.Test.YtacmmkacdfhagaaGreatDoorFold
namespace Go.Proofs.YtacmmkacdfhagaaGreatDoor
open Go Go.Den Go.RowKit
set_option maxRecDepth 100000
set_option linter.unusedSimpArgs false
set_option linter.unusedVariables false

/-- strings.ReplaceAll, of blanks by nothing: the library's contract. -/
def repX (args : List AV) : Option AV :=
  match args with
  | [.str a, .str b, .str c] => if a.length ≤ 12000 ∧ b = [32] ∧ c = [] then some (.str (Lib.replaceAll a b c)) else none
  | _ => none
def liveX (args : List AV) : Option AV :=
  match args with
  | [] => some (.bool true)
  | _ => none
noncomputable def X (f : FuncId) (args : List AV) : Option AV :=
  Bool.rec (motive := fun _ => Option AV) (Bool.rec (motive := fun _ => Option AV) none (repX args) (Nat.beq f 72)) (liveX args) (Nat.beq f 8)
/-- Norm, and Join, are run by themselves. -/
def Z (f : FuncId) : Bool := Nat.beq f 34 || Nat.beq f 11

theorem body72 : Tryz.f72.body.isSome = true := by kernel_rfl
theorem name72 : (Tryz.f72.name == "runtime.NumGoroutine") = false := by kernel_rfl

theorem rep_con {w0 : World} {k : Int} (hm : w0.cell? ⟨0, 0, none⟩ = some (.int .i64 k)) {args : List AV} {v : AV} (h : repX args = some v) : ConS Tryz.prog w0 72 args v := by
  unfold repX at h
  split at h
  · rename_i a b c
    split at h
    · rename_i hc
      obtain ⟨h1, rfl, rfl⟩ := hc
      cases h
      have hlt : 0 < w0.heap.size := World.block_lt_of_cell? _ _ hm
      refine con_of_calls Tryz.func72 body72 name72 fun w hw φ args' ha => ?_
      cases ha with
      | cons x1 t1 =>
        cases t1 with
        | cons x2 t2 =>
          cases t2 with
          | cons x3 t3 =>
            cases t3; cases x1; cases x2; cases x3
            refine (Tryz.strings_ReplaceAll ⟨⟨a⟩⟩ ⟨⟨[32]⟩⟩ ⟨⟨[]⟩⟩ k w ?_ ?_ ?_ ?_).mono fun e w' he => ?_
            · show a.length < 4294967281
              omega
            · rw [hw.cell (p := ⟨0, 0, none⟩) hlt]; exact hm
            · show 1 ≤ [(32 : UInt8)].length
              simp
            · show a.length + _ * ([] : List UInt8).length ≤ _
              simp only [List.length_nil, Nat.mul_zero, Nat.add_zero]
              omega
            · exact ⟨⟨_, he.1, fun φ => .str _⟩, he.2⟩
    · cases h
  · cases h

theorem X_ok {w0 : World} {k : Int} (hm : w0.cell? ⟨0, 0, none⟩ = some (.int .i64 k)) : ∀ f args v, X f args = some v → ConS Tryz.prog w0 f args v := by
  intro f args v h
  unfold X at h
  cases hb : Nat.beq f 8 with
  | true =>
    rw [hb] at h
    obtain rfl := Nat.eq_of_beq_eq_true hb
    unfold liveX at h
    dsimp only at h
    split at h
    · cases h; exact live_con w0
    · cases h
  | false =>
    rw [hb] at h
    dsimp only at h
    cases hb2 : Nat.beq f 72 with
    | true =>
      rw [hb2] at h
      obtain rfl := Nat.eq_of_beq_eq_true hb2
      exact rep_con hm h
    | false => rw [hb2] at h; cases h

noncomputable abbrev F : FuncId → Option AFunc := tbl Tryz.prog
noncomputable abbrev cfd (d : Nat) : CallF := callX X Z 3 F 1000000 d
noncomputable abbrev cf : CallF := callX X Z 3 F 1000000 299
noncomputable abbrev cK : CallK := callK X Z 3 F 1000000 299

/-! ## Norm -/
theorem F73 : F 73 = some (.body 1 26 [.tmp 2] foldCode) := by kernel_rfl
abbrev normA : ACode := .ops [⟨(some (true, 2)), none, (.val (.const (.str []))), 0, 0⟩]
abbrev normB : ACode := .ops [⟨(some (false, 3)), none, (.val (.tmp 0)), 0, 0⟩, ⟨(some (false, 4)), none, (.call (.func 73) [(.loc 3)]), 0, 0⟩, ⟨(some (false, 5)), none, (.call (.func 72) [(.loc 4), (.const (.str [32])), (.const (.str []))]), 0, 0⟩, ⟨(some (true, 2)), none, (.val (.loc 5)), 0, 0⟩]
theorem F34 : F 34 = some (.body 1 6 [.tmp 2] (.seq normA (.seq normB .ret))) := by kernel_rfl

theorem norm_call (s : List UInt8) (hs : s.length ≤ 12000) (d : Nat) : ∃ r : List UInt8, ∀ m, cfd (d + 3) 34 [.str s] m = some (.str r, m) := by
  obtain ⟨t, m1, h1, h2⟩ := fold_call (X := X) (Z := Z) (g := 3) (F := F) (d := d + 1) (f := 73) (s := s) hs (by rfl) (by rfl) F73
  have h1' : cfd (d + 2) 73 [.str s] ⟨.e, 3⟩ = some (.str t, m1) := h1
  have h3 : cfd (d + 2) 72 [.str t, .str [32], .str []] m1 = some (.str (Lib.replaceAll t [32] []), m1) := by
    have hx : X 72 [.str t, .str [32], .str []] = some (.str (Lib.replaceAll t [32] [])) := by
      show repX [.str t, .str [32], .str []] = _
      simp [repX, h2, hs]
    show callX X Z 3 F 1000000 ((d + 1) + 1) 72 _ m1 = _
    simp only [callX, hx]
  have hp : ∀ j, (T.puts (.e : T AV) 0 [.str s]).get j = if j = 0 then some (.str s) else none := by
    intro j
    rw [T.get_puts]
    rcases j with _ | j <;> simp
  refine ⟨Lib.replaceAll t [32] [], fun m => callX_forget (d := d + 2) (m' := m1) (by rfl) (by rfl) (by rfl) ?_ rfl m⟩
  refine callStep_body (x := .ret) (s := ⟨((T.puts .e 0 [.str s]).set 2 (.str [])).set 2 (.str (Lib.replaceAll t [32] [])), [], m1⟩) F34 (by simp) ?_ (by simp) rfl (by simp [resV, T.get_set])
  show exec (isBody F) (cfd (d + 2)) (999999 + 1) none 34 _ _ = _
  rw [exec_seq (s' := ⟨(T.puts .e 0 [.str s]).set 2 (.str []), [], ⟨.e, 3⟩⟩) (exec_ops (n := 999998) (by simp [opsV, wantedV, operV, simpleV, AOp.cls, pureV, Den.look, putE, putV]))]
  rw [exec_seq (n := 999998) (s' := ⟨((T.puts .e 0 [.str s]).set 2 (.str [])).set 2 (.str (Lib.replaceAll t [32] [])), [], m1⟩) (exec_ops (n := 999997) (by
    simp [opsV, wantedV, operV, targetV, simpleV, AOp.cls, pureV, Den.look, Env.get, putE, putV, T.get_set, hp, h1', h3]))]
  simp only [exec]

/-! ## Join of nil -/
noncomputable def c11 : ACode := AFunc.code (F 11)
theorem F11 : F 11 = some (.body 4 61 [.tmp 8] c11) := by kernel_rfl
theorem c11seq : c11 = .seq c11.fst (.seq c11.snd.fst (.seq (.seq (.ops [⟨(some (false, 23)), none, (.val (.tmp 1)), 0, 0⟩, ⟨(some (false, 24)), none, (.call (.func 34) [(.loc 23)]), 0, 0⟩, ⟨(some (true, 10)), none, (.val (.loc 24)), 0, 0⟩]) c11.snd.snd.fst.snd) c11.snd.snd.snd)) := by kernel_rfl
abbrev jargs (s : List UInt8) : List AV := [.ptr none, .str s, .str [112], .bool false]
noncomputable abbrev j0 (s : List UInt8) : St := ⟨T.puts .e 0 (jargs s), [], ⟨.e, 3⟩⟩
noncomputable def j1 (d : Nat) (s : List UInt8) : St := exS (exec (isBody F) (cfd d) 999999 none 11 c11.fst (j0 s))
noncomputable def j2 (d : Nat) (s : List UInt8) : St := exS (exec (isBody F) (cfd d) 999998 none 11 c11.snd.fst (j1 d s))
theorem jstep1 (s : List UInt8) : exec (isBody F) (cfd 298) 999999 none 11 c11.fst (j0 s) = some (.nrm, j1 298 s) := by kernel_rfl
theorem jstep2 (s : List UInt8) : exec (isBody F) (cfd 298) 999998 none 11 c11.snd.fst (j1 298 s) = some (.nrm, ⟨(j2 298 s).fr, [], (j2 298 s).m⟩) := by kernel_rfl
theorem jfr (s : List UInt8) : (j2 298 s).fr.get 1 = some (.str s) := by kernel_rfl
theorem jrest (s r : List UInt8) : (opsW []).run (callK X Z 3 F 1000000 298) (exK (isBody F) (callK X Z 3 F 1000000 298) 999995).R [(24, .str r), (23, .str s)] ((j2 298 s).fr.set 10 (.str r)) (j2 298 s).m (fun fr m => (exK (isBody F) (callK X Z 3 F 1000000 298) 999996).E c11.snd.snd.fst.snd none 11 fr [] m (fun x fr ds m => thenK x (fun _ => (exK (isBody F) (callK X Z 3 F 1000000 298) 999997).E c11.snd.snd.snd none 11 fr ds m (endI7 [.tmp 8])) (fun x => endI7 [.tmp 8] x fr ds m))) = true := by kernel_rfl

theorem join_call (s : List UInt8) (hs : s.length ≤ 12000) (m : Me) : cf 11 (jargs s) m = some (.int .i64 7, m) := by
  obtain ⟨r, hr⟩ := norm_call s hs 295
  have h0 : opsV (cfd 298) (roundV (isBody F) (cfd 298) 999995) [⟨(some (false, 23)), none, (.val (.tmp 1)), 0, 0⟩, ⟨(some (false, 24)), none, (.call (.func 34) [(.loc 23)]), 0, 0⟩, ⟨(some (true, 10)), none, (.val (.loc 24)), 0, 0⟩] [] (j2 298 s).fr (j2 298 s).m = opsV (cfd 298) (roundV (isBody F) (cfd 298) 999995) [] [(24, .str r), (23, .str s)] ((j2 298 s).fr.set 10 (.str r)) (j2 298 s).m := by
    simp [opsV, wantedV, operV, targetV, simpleV, AOp.cls, pureV, Den.look, Env.get, putE, putV, jfr, hr]
  obtain ⟨x, s3, h1, h2⟩ := exec_mid (isB := isBody F) (cf := cfd 298) (n := 999995) (rd := none) (fn := 11) (ds := []) (callK_eq X Z 3 F 1000000 298) h0 (jrest s r)
  obtain ⟨m2, h3, h4⟩ := endI7_ok h2
  refine callX_forget (d := 298) (m' := m2) (by rfl) (by rfl) (by rfl) ?_ rfl m
  refine callStep_body (x := x) (s := s3) (m2 := m2) F11 (by simp) ?_ h4.1 h3 h4.2
  show exec (isBody F) (cfd 298) (999999 + 1) none 11 c11 (j0 s) = _
  rw [c11seq, exec_seq (jstep1 s)]
  rw [exec_seq (n := 999998) (jstep2 s)]
  exact h1

/-! ## The law -/
noncomputable def c5 : ACode := AFunc.code (F 5)
theorem F5 : F 5 = some (.body 2 76 [.tmp 4] c5) := by kernel_rfl
theorem c5seq : c5 = .seq c5.fst (.seq (.seq (.ops [⟨(some (false, 10)), none, (.val (.tmp 0)), 0, 0⟩, ⟨(some (false, 11)), none, (.lenStr (.loc 10)), 0, 0⟩, ⟨(some (true, 12)), none, (.bin .gtr .bool (.loc 11) (.const (.int .i64 12000))), 0, 0⟩]) (.cond (.tmp 12) (.seq c5.snd.fst.snd.thn.fst .ret) .skip)) (.seq c5.snd.snd.fst (.seq c5.snd.snd.snd.fst (.seq (.seq (.ops [⟨(some (false, 20)), none, (.val (.tmp 5)), 0, 0⟩, ⟨(some (false, 21)), none, (.val (.tmp 0)), 0, 0⟩, ⟨(some (false, 22)), none, (.call (.func 11) [(.loc 20), (.loc 21), (.const (.str [112])), (.const (.bool false))]), 0, 0⟩, ⟨(some (false, 23)), none, (.call (.func 10) [(.loc 22)]), 0, 0⟩, ⟨(some (false, 24)), none, (.bin .neq .int (.loc 23) (.const (.int .i64 7))), 0, 0⟩, ⟨(some (false, 25)), none, (.val (.loc 24)), 0, 0⟩, ⟨(some (false, 26)), (some ((.loc 25), false)), (.val (.tmp 5)), 0, 0⟩, ⟨(some (false, 27)), (some ((.loc 25), false)), (.call (.func 12) [(.loc 26)]), 0, 0⟩, ⟨(some (false, 28)), (some ((.loc 25), false)), (.bin .neq .int (.loc 27) (.const (.int .i64 0))), 0, 0⟩, ⟨(some (false, 29)), none, (.pick (.loc 25) (.const (.bool true)) (.loc 28)), 0, 0⟩, ⟨(some (false, 30)), none, (.val (.loc 29)), 0, 0⟩, ⟨(some (false, 31)), (some ((.loc 30), false)), (.val (.tmp 5)), 0, 0⟩, ⟨(some (false, 32)), (some ((.loc 30), false)), (.val (.tmp 1)), 0, 0⟩, ⟨(some (false, 33)), (some ((.loc 30), false)), (.val (.tmp 0)), 0, 0⟩, ⟨(some (false, 34)), (some ((.loc 30), false)), (.call (.func 13) [(.loc 31), (.loc 32), (.loc 33)]), 0, 0⟩, ⟨(some (false, 35)), (some ((.loc 30), false)), (.lenSl (.loc 34)), 0, 0⟩, ⟨(some (false, 36)), (some ((.loc 30), false)), (.val (.tmp 5)), 0, 0⟩, ⟨(some (false, 37)), (some ((.loc 30), false)), (.val (.tmp 1)), 0, 0⟩, ⟨(some (false, 38)), (some ((.loc 30), false)), (.call (.func 26) [(.loc 36), (.loc 37)]), 0, 0⟩, ⟨(some (false, 39)), (some ((.loc 30), false)), (.lenSl (.loc 38)), 0, 0⟩, ⟨(some (false, 40)), (some ((.loc 30), false)), (.bin .add .bool (.loc 35) (.loc 39)), 0, 0⟩, ⟨(some (false, 41)), (some ((.loc 30), false)), (.val (.tmp 5)), 0, 0⟩, ⟨(some (false, 42)), (some ((.loc 30), false)), (.call (.func 23) [(.loc 41)]), 0, 0⟩, ⟨(some (false, 43)), (some ((.loc 30), false)), (.lenSl (.loc 42)), 0, 0⟩, ⟨(some (false, 44)), (some ((.loc 30), false)), (.bin .add .bool (.loc 40) (.loc 43)), 0, 0⟩, ⟨(some (false, 45)), (some ((.loc 30), false)), (.val (.tmp 5)), 0, 0⟩, ⟨(some (false, 46)), (some ((.loc 30), false)), (.call (.func 17) [(.loc 45)]), 0, 0⟩, ⟨(some (false, 47)), (some ((.loc 30), false)), (.bin .add .bool (.loc 44) (.loc 46)), 0, 0⟩, ⟨(some (false, 48)), (some ((.loc 30), false)), (.bin .neq .int (.loc 47) (.const (.int .i64 0))), 0, 0⟩, ⟨(some (false, 49)), none, (.pick (.loc 30) (.const (.bool true)) (.loc 48)), 0, 0⟩, ⟨(some (false, 50)), none, (.val (.loc 49)), 0, 0⟩, ⟨(some (false, 51)), (some ((.loc 50), false)), (.val (.tmp 7)), 0, 0⟩, ⟨(some (true, 52)), none, (.pick (.loc 50) (.const (.bool true)) (.loc 51)), 0, 0⟩]) c5.snd.snd.snd.snd.fst.snd) c5.snd.snd.snd.snd.snd)))) := by kernel_rfl
noncomputable abbrev s0 (a : List UInt8) (k : Int) : St := ⟨T.puts .e 0 [.str a, .int .i64 k], [], ⟨.e, 3⟩⟩
noncomputable def s1 (a : List UInt8) (k : Int) : St := exS (exec (isBody F) cf 999999 none 5 c5.fst (s0 a k))
theorem step1 (a : List UInt8) (k : Int) : exec (isBody F) cf 999999 none 5 c5.fst (s0 a k) = some (.nrm, ⟨(s1 a k).fr, [], (s1 a k).m⟩) := by kernel_rfl
theorem s1fr (a : List UInt8) (k : Int) : (s1 a k).fr.get 0 = some (.str a) := by kernel_rfl
theorem guard {callF : CallF} {round : Nat → List AV → Me → Option (AV × Me)} {fr : T AV} {m : Me} {a : List UInt8} (h0 : fr.get 0 = some (.str a)) :
    opsV callF round [⟨(some (false, 10)), none, (.val (.tmp 0)), 0, 0⟩, ⟨(some (false, 11)), none, (.lenStr (.loc 10)), 0, 0⟩, ⟨(some (true, 12)), none, (.bin .gtr .bool (.loc 11) (.const (.int .i64 12000))), 0, 0⟩] [] fr m = some (fr.set 12 (.bool (decide ((a.length : Int) > 12000))), m) := by
  simp [opsV, wantedV, operV, targetV, simpleV, AOp.cls, pureV, Den.look, Env.get, putE, putV, h0, binV, intBin]
noncomputable abbrev s2 (b : Bool) (a : List UInt8) (k : Int) : St := ⟨(s1 a k).fr.set 12 (.bool b), [], (s1 a k).m⟩
theorem live_end (a : List UInt8) (k : Int) : ∃ s, exec (isBody F) cf 999996 none 5 (.seq c5.snd.fst.snd.thn.fst .ret) (s2 true a k) = some (.ret, s) ∧ endT [.tmp 4] .ret s.fr s.ds s.m = true :=
  ⟨exS (exec (isBody F) cf 999996 none 5 (.seq c5.snd.fst.snd.thn.fst .ret) (s2 true a k)), by kernel_rfl, by kernel_rfl⟩
noncomputable def s3 (a : List UInt8) (k : Int) : St := exS (exec (isBody F) cf 999997 none 5 c5.snd.snd.fst (s2 false a k))
noncomputable def s4 (a : List UInt8) (k : Int) : St := exS (exec (isBody F) cf 999996 none 5 c5.snd.snd.snd.fst (s3 a k))
theorem step3 (a : List UInt8) (k : Int) : exec (isBody F) cf 999997 none 5 c5.snd.snd.fst (s2 false a k) = some (.nrm, s3 a k) := by kernel_rfl
theorem step4 (a : List UInt8) (k : Int) : exec (isBody F) cf 999996 none 5 c5.snd.snd.snd.fst (s3 a k) = some (.nrm, ⟨(s4 a k).fr, [], (s4 a k).m⟩) := by kernel_rfl
theorem s4fr (a : List UInt8) (k : Int) : (s4 a k).fr.get 0 = some (.str a) := by kernel_rfl
theorem s4five (a : List UInt8) (k : Int) : (s4 a k).fr.get 5 = some (.ptr none) := by kernel_rfl
def lrest : List AOper := [⟨(some (false, 23)), none, (.call (.func 10) [(.loc 22)]), 0, 0⟩, ⟨(some (false, 24)), none, (.bin .neq .int (.loc 23) (.const (.int .i64 7))), 0, 0⟩, ⟨(some (false, 25)), none, (.val (.loc 24)), 0, 0⟩, ⟨(some (false, 26)), (some ((.loc 25), false)), (.val (.tmp 5)), 0, 0⟩, ⟨(some (false, 27)), (some ((.loc 25), false)), (.call (.func 12) [(.loc 26)]), 0, 0⟩, ⟨(some (false, 28)), (some ((.loc 25), false)), (.bin .neq .int (.loc 27) (.const (.int .i64 0))), 0, 0⟩, ⟨(some (false, 29)), none, (.pick (.loc 25) (.const (.bool true)) (.loc 28)), 0, 0⟩, ⟨(some (false, 30)), none, (.val (.loc 29)), 0, 0⟩, ⟨(some (false, 31)), (some ((.loc 30), false)), (.val (.tmp 5)), 0, 0⟩, ⟨(some (false, 32)), (some ((.loc 30), false)), (.val (.tmp 1)), 0, 0⟩, ⟨(some (false, 33)), (some ((.loc 30), false)), (.val (.tmp 0)), 0, 0⟩, ⟨(some (false, 34)), (some ((.loc 30), false)), (.call (.func 13) [(.loc 31), (.loc 32), (.loc 33)]), 0, 0⟩, ⟨(some (false, 35)), (some ((.loc 30), false)), (.lenSl (.loc 34)), 0, 0⟩, ⟨(some (false, 36)), (some ((.loc 30), false)), (.val (.tmp 5)), 0, 0⟩, ⟨(some (false, 37)), (some ((.loc 30), false)), (.val (.tmp 1)), 0, 0⟩, ⟨(some (false, 38)), (some ((.loc 30), false)), (.call (.func 26) [(.loc 36), (.loc 37)]), 0, 0⟩, ⟨(some (false, 39)), (some ((.loc 30), false)), (.lenSl (.loc 38)), 0, 0⟩, ⟨(some (false, 40)), (some ((.loc 30), false)), (.bin .add .bool (.loc 35) (.loc 39)), 0, 0⟩, ⟨(some (false, 41)), (some ((.loc 30), false)), (.val (.tmp 5)), 0, 0⟩, ⟨(some (false, 42)), (some ((.loc 30), false)), (.call (.func 23) [(.loc 41)]), 0, 0⟩, ⟨(some (false, 43)), (some ((.loc 30), false)), (.lenSl (.loc 42)), 0, 0⟩, ⟨(some (false, 44)), (some ((.loc 30), false)), (.bin .add .bool (.loc 40) (.loc 43)), 0, 0⟩, ⟨(some (false, 45)), (some ((.loc 30), false)), (.val (.tmp 5)), 0, 0⟩, ⟨(some (false, 46)), (some ((.loc 30), false)), (.call (.func 17) [(.loc 45)]), 0, 0⟩, ⟨(some (false, 47)), (some ((.loc 30), false)), (.bin .add .bool (.loc 44) (.loc 46)), 0, 0⟩, ⟨(some (false, 48)), (some ((.loc 30), false)), (.bin .neq .int (.loc 47) (.const (.int .i64 0))), 0, 0⟩, ⟨(some (false, 49)), none, (.pick (.loc 30) (.const (.bool true)) (.loc 48)), 0, 0⟩, ⟨(some (false, 50)), none, (.val (.loc 49)), 0, 0⟩, ⟨(some (false, 51)), (some ((.loc 50), false)), (.val (.tmp 7)), 0, 0⟩, ⟨(some (true, 52)), none, (.pick (.loc 50) (.const (.bool true)) (.loc 51)), 0, 0⟩]
theorem rest (a : List UInt8) (k : Int) : (opsW lrest).run cK (exK (isBody F) cK 999993).R [(22, .int .i64 7), (21, .str a), (20, .ptr none)] (s4 a k).fr (s4 a k).m (fun fr m => (exK (isBody F) cK 999994).E c5.snd.snd.snd.snd.fst.snd none 5 fr [] m (fun x fr ds m => thenK x (fun _ => (exK (isBody F) cK 999995).E c5.snd.snd.snd.snd.snd none 5 fr ds m (endT [.tmp 4])) (fun x => endT [.tmp 4] x fr ds m))) = true := by kernel_rfl

theorem law (a : List UInt8) (k : Int) : ∃ m', callX X Z 3 F 1000000 300 5 [.str a, .int .i64 k] ⟨.e, 3⟩ = some (.bool true, m') := by
  have e2 : exec (isBody F) cf 999997 none 5 (.ops [⟨(some (false, 10)), none, (.val (.tmp 0)), 0, 0⟩, ⟨(some (false, 11)), none, (.lenStr (.loc 10)), 0, 0⟩, ⟨(some (true, 12)), none, (.bin .gtr .bool (.loc 11) (.const (.int .i64 12000))), 0, 0⟩]) ⟨(s1 a k).fr, [], (s1 a k).m⟩ = some (.nrm, s2 (decide ((a.length : Int) > 12000)) a k) := exec_ops (n := 999996) (guard (s1fr a k))
  have e4 : ∀ b, Den.look [] ((s1 a k).fr.set 12 (.bool b)) (.tmp 12) = .bool b := fun b => by simp [Den.look, T.get_set]
  by_cases hg : (a.length : Int) > 12000
  · rw [decide_eq_true hg] at e2
    obtain ⟨s, h1, h2⟩ := live_end a k
    refine callX_true (x := .ret) (s := s) (by rfl) (by rfl) F5 (by simp) ?_ h2
    show exec (isBody F) cf (999999 + 1) none 5 c5 (s0 a k) = _
    rw [c5seq, exec_seq (step1 a k)]
    refine exec_seq_out (n := 999998) (by simp) ?_
    rw [exec_seq (n := 999997) e2]
    rw [exec_cond (n := 999996) (e4 true), if_pos rfl]
    exact h1
  · rw [decide_eq_false hg] at e2
    have h0 : opsV cf (roundV (isBody F) cf 999993) [⟨(some (false, 20)), none, (.val (.tmp 5)), 0, 0⟩, ⟨(some (false, 21)), none, (.val (.tmp 0)), 0, 0⟩, ⟨(some (false, 22)), none, (.call (.func 11) [(.loc 20), (.loc 21), (.const (.str [112])), (.const (.bool false))]), 0, 0⟩, ⟨(some (false, 23)), none, (.call (.func 10) [(.loc 22)]), 0, 0⟩, ⟨(some (false, 24)), none, (.bin .neq .int (.loc 23) (.const (.int .i64 7))), 0, 0⟩, ⟨(some (false, 25)), none, (.val (.loc 24)), 0, 0⟩, ⟨(some (false, 26)), (some ((.loc 25), false)), (.val (.tmp 5)), 0, 0⟩, ⟨(some (false, 27)), (some ((.loc 25), false)), (.call (.func 12) [(.loc 26)]), 0, 0⟩, ⟨(some (false, 28)), (some ((.loc 25), false)), (.bin .neq .int (.loc 27) (.const (.int .i64 0))), 0, 0⟩, ⟨(some (false, 29)), none, (.pick (.loc 25) (.const (.bool true)) (.loc 28)), 0, 0⟩, ⟨(some (false, 30)), none, (.val (.loc 29)), 0, 0⟩, ⟨(some (false, 31)), (some ((.loc 30), false)), (.val (.tmp 5)), 0, 0⟩, ⟨(some (false, 32)), (some ((.loc 30), false)), (.val (.tmp 1)), 0, 0⟩, ⟨(some (false, 33)), (some ((.loc 30), false)), (.val (.tmp 0)), 0, 0⟩, ⟨(some (false, 34)), (some ((.loc 30), false)), (.call (.func 13) [(.loc 31), (.loc 32), (.loc 33)]), 0, 0⟩, ⟨(some (false, 35)), (some ((.loc 30), false)), (.lenSl (.loc 34)), 0, 0⟩, ⟨(some (false, 36)), (some ((.loc 30), false)), (.val (.tmp 5)), 0, 0⟩, ⟨(some (false, 37)), (some ((.loc 30), false)), (.val (.tmp 1)), 0, 0⟩, ⟨(some (false, 38)), (some ((.loc 30), false)), (.call (.func 26) [(.loc 36), (.loc 37)]), 0, 0⟩, ⟨(some (false, 39)), (some ((.loc 30), false)), (.lenSl (.loc 38)), 0, 0⟩, ⟨(some (false, 40)), (some ((.loc 30), false)), (.bin .add .bool (.loc 35) (.loc 39)), 0, 0⟩, ⟨(some (false, 41)), (some ((.loc 30), false)), (.val (.tmp 5)), 0, 0⟩, ⟨(some (false, 42)), (some ((.loc 30), false)), (.call (.func 23) [(.loc 41)]), 0, 0⟩, ⟨(some (false, 43)), (some ((.loc 30), false)), (.lenSl (.loc 42)), 0, 0⟩, ⟨(some (false, 44)), (some ((.loc 30), false)), (.bin .add .bool (.loc 40) (.loc 43)), 0, 0⟩, ⟨(some (false, 45)), (some ((.loc 30), false)), (.val (.tmp 5)), 0, 0⟩, ⟨(some (false, 46)), (some ((.loc 30), false)), (.call (.func 17) [(.loc 45)]), 0, 0⟩, ⟨(some (false, 47)), (some ((.loc 30), false)), (.bin .add .bool (.loc 44) (.loc 46)), 0, 0⟩, ⟨(some (false, 48)), (some ((.loc 30), false)), (.bin .neq .int (.loc 47) (.const (.int .i64 0))), 0, 0⟩, ⟨(some (false, 49)), none, (.pick (.loc 30) (.const (.bool true)) (.loc 48)), 0, 0⟩, ⟨(some (false, 50)), none, (.val (.loc 49)), 0, 0⟩, ⟨(some (false, 51)), (some ((.loc 50), false)), (.val (.tmp 7)), 0, 0⟩, ⟨(some (true, 52)), none, (.pick (.loc 50) (.const (.bool true)) (.loc 51)), 0, 0⟩] [] (s4 a k).fr (s4 a k).m = opsV cf (roundV (isBody F) cf 999993) lrest [(22, .int .i64 7), (21, .str a), (20, .ptr none)] (s4 a k).fr (s4 a k).m := by
      refine (opsV_cons (v := .ptr none) (m' := (s4 a k).m) (by simp only [wantedV]) (by simp only [operV, simpleV, AOp.cls, pureV, Den.look, s4five, Option.getD_some, Option.map_some])).trans ?_
      refine (opsV_cons (v := .str a) (m' := (s4 a k).m) (by simp only [wantedV]) (by simp only [operV, simpleV, AOp.cls, pureV, Den.look, putV, s4fr, Option.getD_some, Option.map_some])).trans ?_
      refine (opsV_cons (v := .int .i64 7) (m' := (s4 a k).m) (by simp only [wantedV]) ?_).trans (by simp only [putE, putV, lrest])
      simp [operV, targetV, Den.look, Env.get, putE, putV]
      exact join_call a (by omega) _
    obtain ⟨x, s, h1, h2⟩ := exec_mid' (isB := isBody F) (cf := cf) (cK := cK) (n := 999993) (rd := none) (fn := 5) (ds := []) (L' := lrest) (κ := endT [.tmp 4]) (C := c5.snd.snd.snd.snd.fst.snd) (R := c5.snd.snd.snd.snd.snd) (n1 := 999994) (n2 := 999995) (n3 := 999996) (callK_eq X Z 3 F 1000000 299) (by rfl) (by rfl) (by rfl) h0 (rest a k)
    refine callX_true (x := x) (s := s) (by rfl) (by rfl) F5 (by simp) ?_ h2
    show exec (isBody F) cf (999999 + 1) none 5 c5 (s0 a k) = _
    rw [c5seq, exec_seq (step1 a k)]
    rw [exec_seq (n := 999998) (s' := s2 false a k)]
    · rw [exec_seq (n := 999997) (step3 a k)]
      rw [exec_seq (n := 999996) (step4 a k)]
      exact h1
    · rw [exec_seq (n := 999997) e2]
      rw [exec_cond (n := 999996) (e4 false), if_neg (by simp)]
      exact exec_skip (n := 999995)
end Go.Proofs.YtacmmkacdfhagaaGreatDoor
