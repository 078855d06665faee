/- glyph.Fold, for every text: a loop over the bytes. -/
import Derived.Test.YtacmmkacdfhagaaGreatDoorDen8
namespace Go.Den
open Go

set_option linter.unusedSimpArgs false
section
variable {isB : FuncId → Bool} {cf : CallF} {rd : Option Nat} {fn : FuncId}

theorem exec_loop {n : Nat} {b : ACode} {s : St} : exec isB cf (n + 1) rd fn (.loop b) s = (match exec isB cf n rd fn b s with
    | some (.nrm, s) => exec isB cf n rd fn (.loop b) s
    | r => r) := by
  simp only [exec]
  rcases exec isB cf n rd fn b s with _ | ⟨x, s⟩
  · rfl
  · cases x <;> rfl

/-- The body of Fold's loop. -/
abbrev foldBody : ACode :=
  (.seq (.ops [⟨(some (true, 11)), none, (.bin .lss .bool (.tmp 10) (.tmp 9)), 0, 0⟩]) (.seq (.cond (.tmp 11) .skip (.exit 0)) (.seq (.block 1 (.seq (.ops [⟨(some (false, 12)), none, (.val (.tmp 10)), 0, 0⟩, ⟨(some (false, 13)), none, (.idxSl 1 (.tmp 8) (.tmp 10)), 0, 0⟩, ⟨(some (false, 14)), none, (.load none (.loc 13)), 0, 0⟩, ⟨(some (true, 4)), none, (.val (.loc 12)), 0, 0⟩, ⟨(some (true, 5)), none, (.val (.loc 14)), 0, 0⟩]) (.seq (.ops [⟨(some (false, 15)), none, (.val (.tmp 5)), 0, 0⟩, ⟨(some (false, 16)), none, (.bin .sub .bool (.loc 15) (.const (.int .u8 65))), 0, 0⟩, ⟨(some (true, 17)), none, (.bin .lss .bool (.loc 16) (.const (.int .u8 26))), 0, 0⟩]) (.cond (.tmp 17) (.ops [⟨(some (false, 18)), none, (.val (.tmp 3)), 0, 0⟩, ⟨(some (false, 19)), none, (.val (.tmp 4)), 0, 0⟩, ⟨(some (false, 20)), none, (.val (.tmp 5)), 0, 0⟩, ⟨(some (false, 21)), none, (.bin .or .bool (.loc 20) (.const (.int .u8 32))), 0, 0⟩, ⟨(some (false, 22)), none, (.idxSl 1 (.loc 18) (.loc 19)), 0, 0⟩, ⟨none, none, (.store 1 (.loc 22) (.loc 21)), 0, 0⟩]) .skip)))) (.ops [⟨(some (false, 23)), none, (.bin .add .bool (.tmp 10) (.const (.int .i64 1))), 0, 0⟩, ⟨(some (true, 10)), none, (.val (.loc 23)), 0, 0⟩]))))

/-- What holds ahead of round i. -/
structure FoldI (g n i : Nat) (fr : T AV) (m : Me) : Prop where
  h3 : fr.get 3 = some (.slice (some (g, 0, 1)) n n)
  h8 : fr.get 8 = some (.slice (some (g, 0, 1)) n n)
  h9 : fr.get 9 = some (.int .i64 (n : Int))
  h10 : fr.get 10 = some (.int .i64 (i : Int))
  hm : ∃ t, m.get g = some (.cells t n none 5 .open_) ∧ ∀ j, j < n → ∃ x, t.get j = some (.int .u8 x)

set_option maxHeartbeats 4000000 in
theorem fold_round (k : Nat) {g n i : Nat} {fr : T AV} {m : Me} (h : FoldI g n i fr m) (hi : i < n) (hn : n < 2 ^ 62) :
    ∃ fr' m', exec isB cf (k + 10) rd fn foldBody ⟨fr, [], m⟩ = some (.nrm, ⟨fr', [], m'⟩) ∧ FoldI g n (i + 1) fr' m' := by
  obtain ⟨h3, h8, h9, h10, t, hm, hc⟩ := h
  obtain ⟨x, hx⟩ := hc i hi
  have hi' : (i : Int) < (n : Int) := by omega
  have hw : IntKind.i64.wrap ((i : Int) + 1) = (i : Int) + 1 := by
    unfold IntKind.wrap
    simp [IntKind.bits, IntKind.signed]
    omega
  have hi1 : i + 1 ≤ n := hi
  by_cases hb : IntKind.u8.wrap (x - 65) < 26
  · refine ⟨_, _, by simp [exec, opsV, wantedV, operV, simpleV, AOp.cls, pureV, readV, storeV, Den.look, Env.get, putE, putV, T.get_set, h3, h8, h9, h10, hm, binV, intBin, hi', hi1, idxOf, Ob.loadV, Ob.cell, hi, hx, hb, hw, AV.cells, Ob.putCells, AV.one, T.puts, okI, intBitsV]; exact ⟨rfl, rfl⟩, ?_⟩
    refine ⟨by simp [T.get_set, h3], by simp [T.get_set, h8], by simp [T.get_set, h9], by simp [T.get_set], _, Me.get_put _ _ _ _ |>.trans (if_pos rfl), fun j hj => ?_⟩
    rw [T.get_set]
    by_cases e : j = i
    · rw [if_pos e]; exact ⟨_, rfl⟩
    · rw [if_neg e]; exact hc j hj
  · refine ⟨_, _, by simp [exec, opsV, wantedV, operV, simpleV, AOp.cls, pureV, readV, storeV, Den.look, Env.get, putE, putV, T.get_set, h3, h8, h9, h10, hm, binV, intBin, hi', hi1, idxOf, Ob.loadV, Ob.cell, hi, hx, hb, hw, AV.cells, Ob.putCells, AV.one, T.puts, okI, intBitsV]; exact ⟨rfl, rfl⟩, ?_⟩
    exact ⟨by simp [T.get_set, h3], by simp [T.get_set, h8], by simp [T.get_set, h9], by simp [T.get_set], t, hm, hc⟩

theorem fold_out (k : Nat) {g n : Nat} {fr : T AV} {m : Me} (h : FoldI g n n fr m) : ∃ fr', exec isB cf (k + 10) rd fn foldBody ⟨fr, [], m⟩ = some (.exit 0, ⟨fr', [], m⟩) ∧ FoldI g n n fr' m := by
  obtain ⟨h3, h8, h9, h10, t, hm, hc⟩ := h
  refine ⟨_, by simp [exec, opsV, wantedV, operV, simpleV, AOp.cls, pureV, Den.look, putE, putV, T.get_set, h9, h10, binV, intBin]; rfl, ?_⟩
  exact ⟨by simp [T.get_set, h3], by simp [T.get_set, h8], by simp [T.get_set, h9], by simp [T.get_set, h10], t, hm, hc⟩

theorem fold_loop {g n : Nat} (hn : n < 2 ^ 62) : ∀ (r i : Nat), i + r = n → ∀ (k : Nat) (fr : T AV) (m : Me), FoldI g n i fr m →
    ∃ fr' m', exec isB cf (k + r + 11) rd fn (.loop foldBody) ⟨fr, [], m⟩ = some (.exit 0, ⟨fr', [], m'⟩) ∧ FoldI g n n fr' m'
  | 0, i, hi, k, fr, m, h => by
    obtain rfl : i = n := by omega
    obtain ⟨fr', h1, h2⟩ := fold_out (isB := isB) (cf := cf) (rd := rd) (fn := fn) k h
    refine ⟨fr', m, ?_, h2⟩
    show exec isB cf ((k + 10) + 1) rd fn (.loop foldBody) ⟨fr, [], m⟩ = _
    rw [exec_loop, h1]
  | r + 1, i, hi, k, fr, m, h => by
    obtain ⟨fr1, m1, h1, h2⟩ := fold_round (isB := isB) (cf := cf) (rd := rd) (fn := fn) (k + r + 1) h (by omega) hn
    obtain ⟨fr', m', h3, h4⟩ := fold_loop hn r (i + 1) (by omega) k fr1 m1 h2
    refine ⟨fr', m', ?_, h4⟩
    show exec isB cf ((k + r + 1 + 10) + 1) rd fn (.loop foldBody) ⟨fr, [], m⟩ = _
    rw [exec_loop, h1]
    exact h3
end

theorem bytes_cells {ob : Ob} : ∀ (n i : Nat), (∀ j, i ≤ j → j < i + n → ∃ x, ob.cell j = some (.int .u8 x)) → ∃ bs : List UInt8, (ob.cellsFrom i n).bind bytesV = some bs ∧ bs.length = n
  | 0, i, _ => ⟨[], rfl, rfl⟩
  | n + 1, i, h => by
    obtain ⟨x, hx⟩ := h i (Nat.le_refl _) (by omega)
    obtain ⟨bs, h1, h2⟩ := bytes_cells n (i + 1) fun j h3 h4 => h j (by omega) (by omega)
    rcases hc : ob.cellsFrom (i + 1) n with _ | l
    · rw [hc] at h1; cases h1
    · rw [hc] at h1
      have h1' : bytesV l = some bs := h1
      refine ⟨UInt8.ofNat x.toNat :: bs, ?_, by simp [h2]⟩
      simp [Ob.cellsFrom, hx, hc, bytesV, h1']

abbrev foldA : ACode := .ops [⟨(some (true, 2)), none, (.val (.const (.str []))), 0, 0⟩]
abbrev foldB : ACode := .ops [⟨(some (false, 6)), none, (.val (.tmp 0)), 0, 0⟩, ⟨(some (false, 7)), none, (.conv .s2b 5 (.loc 6)), 0, 0⟩, ⟨(some (true, 3)), none, (.val (.loc 7)), 0, 0⟩]
abbrev foldC : ACode := .ops [⟨(some (true, 8)), none, (.val (.tmp 3)), 0, 0⟩, ⟨(some (true, 9)), none, (.lenSl (.tmp 8)), 0, 0⟩, ⟨(some (true, 10)), none, (.val (.const (.int .i64 0))), 0, 0⟩]
abbrev foldD : ACode := .ops [⟨(some (false, 24)), none, (.val (.tmp 3)), 0, 0⟩, ⟨(some (false, 25)), none, (.conv .b2s 5 (.loc 24)), 0, 0⟩, ⟨(some (true, 2)), none, (.val (.loc 25)), 0, 0⟩]
abbrev foldCode : ACode := .seq foldA (.seq foldB (.seq (.seq foldC (.block 0 (.loop foldBody))) (.seq foldD .ret)))

theorem exec_block {isB : FuncId → Bool} {cf : CallF} {rd : Option Nat} {fn : FuncId} {n id : Nat} {b : ACode} {s s' : St} (h : exec isB cf n rd fn b s = some (.exit id, s')) : exec isB cf (n + 1) rd fn (.block id b) s = some (.nrm, s') := by
  simp [exec, h]

theorem fold_exec {isB : FuncId → Bool} {cf : CallF} {fn g : Nat} {s : List UInt8} (hs : s.length ≤ 12000) :
    ∃ (fr : T AV) (m : Me) (t : List UInt8), exec isB cf 1000000 none fn foldCode ⟨T.puts .e 0 [.str s], [], ⟨.e, g⟩⟩ = some (.ret, ⟨fr, [], m⟩) ∧ fr.get 2 = some (.str t) ∧ t.length = s.length := by
  have hp : ∀ j, (T.puts (.e : T AV) 0 [.str s]).get j = if j = 0 then some (.str s) else none := by
    intro j
    rw [T.get_puts]
    rcases j with _ | j
    · simp
    · simp
  have h40 : s.length ≤ 1099511627776 := by omega
  have eA : exec isB cf 999999 none fn foldA ⟨T.puts .e 0 [.str s], [], ⟨.e, g⟩⟩ = some (.nrm, ⟨(T.puts .e 0 [.str s]).set 2 (.str []), [], ⟨.e, g⟩⟩) :=
    exec_ops (n := 999998) (by simp [opsV, wantedV, operV, simpleV, AOp.cls, pureV, Den.look, putE, putV])
  let ob : Ob := .cells (T.puts .e 0 (s.map fun b => .int .u8 b.toNat)) s.length none 5 .open_
  let fr2 : T AV := ((T.puts .e 0 [.str s]).set 2 (.str [])).set 3 (.slice (some (g, 0, 1)) s.length s.length)
  have eB : exec isB cf 999998 none fn foldB ⟨(T.puts .e 0 [.str s]).set 2 (.str []), [], ⟨.e, g⟩⟩ = some (.nrm, ⟨fr2, [], (⟨.e, g⟩ : Me).new ob⟩) :=
    exec_ops (n := 999997) (by simp [opsV, wantedV, operV, simpleV, AOp.cls, pureV, allocV, Den.look, Env.get, putE, putV, T.get_set, hp, h40, fr2, ob])
  let fr3 : T AV := ((fr2.set 8 (.slice (some (g, 0, 1)) s.length s.length)).set 9 (.int .i64 s.length)).set 10 (.int .i64 0)
  have eC : exec isB cf 999996 none fn foldC ⟨fr2, [], (⟨.e, g⟩ : Me).new ob⟩ = some (.nrm, ⟨fr3, [], (⟨.e, g⟩ : Me).new ob⟩) :=
    exec_ops (n := 999995) (by simp [opsV, wantedV, operV, simpleV, AOp.cls, pureV, Den.look, Env.get, putE, putV, T.get_set, hp, fr2, fr3])
  have inv : FoldI g s.length 0 fr3 ((⟨.e, g⟩ : Me).new ob) := by
    refine ⟨by simp [T.get_set, fr3, fr2], by simp [T.get_set, fr3, fr2], by simp [T.get_set, fr3, fr2], by simp [T.get_set, fr3, fr2], _, (Me.get_new _ _ _).trans (if_pos rfl), fun j hj => ?_⟩
    refine ⟨(s[j]'hj).toNat, ?_⟩
    rw [T.get_puts]
    simp [hj]
  obtain ⟨k, hk⟩ : ∃ k, 999995 = k + s.length + 11 := ⟨999984 - s.length, by omega⟩
  obtain ⟨fr4, m4, h1, h2⟩ := fold_loop (isB := isB) (cf := cf) (rd := none) (fn := fn) (g := g) (n := s.length) (by omega) s.length 0 (by omega) k fr3 _ inv
  rw [← hk] at h1
  have eL : exec isB cf 999996 none fn (.block 0 (.loop foldBody)) ⟨fr3, [], (⟨.e, g⟩ : Me).new ob⟩ = some (.nrm, ⟨fr4, [], m4⟩) := exec_block (n := 999995) h1
  obtain ⟨h3, h8, h9, h10, t, hm, hc⟩ := h2
  obtain ⟨bs, hb1, hb2⟩ := bytes_cells (ob := .cells t s.length none 5 .open_) s.length 0 fun j _ hj => by
    obtain ⟨x, hx⟩ := hc j (by omega)
    exact ⟨x, by simp [Ob.cell, hx, show j < s.length by omega]⟩
  have eD : exec isB cf 999996 none fn foldD ⟨fr4, [], m4⟩ = some (.nrm, ⟨fr4.set 2 (.str bs), [], m4⟩) := by
    refine exec_ops (n := 999995) ?_
    by_cases h0 : s.length = 0
    · have : bs = [] := List.eq_nil_of_length_eq_zero (hb2.trans h0)
      subst this
      simp [opsV, wantedV, operV, simpleV, AOp.cls, pureV, readV, Den.look, Env.get, putE, putV, T.get_set, h3, h0]
    · simp [opsV, wantedV, operV, simpleV, AOp.cls, pureV, readV, Den.look, Env.get, putE, putV, T.get_set, h3, h0, hm, hb1]
  refine ⟨fr4.set 2 (.str bs), m4, bs, ?_, by simp [T.get_set], hb2⟩
  show exec isB cf (999999 + 1) none fn foldCode _ = _
  rw [exec_seq eA, exec_seq (n := 999998) eB]
  rw [exec_seq (n := 999997) (s' := ⟨fr4, [], m4⟩) (by rw [exec_seq (n := 999996) eC]; exact eL)]
  rw [exec_seq (n := 999996) eD]
  simp only [exec]

theorem fold_call {X : FuncId → List AV → Option AV} {Z : FuncId → Bool} {g : Nat} {F : FuncId → Option AFunc} {d f : Nat} {s : List UInt8} (hs : s.length ≤ 12000) (hX : X f [.str s] = none) (hZ : Z f = false) (hF : F f = some (.body 1 26 [.tmp 2] foldCode)) :
    ∃ (t : List UInt8) (m' : Me), callX X Z g F 1000000 (d + 1) f [.str s] ⟨.e, g⟩ = some (.str t, m') ∧ t.length = s.length := by
  obtain ⟨fr, m, t, h1, h2, h3⟩ := fold_exec (isB := isBody F) (cf := callX X Z g F 1000000 d) (fn := f) (g := g) hs
  exact ⟨t, m, callX_body hX hZ hF (by simp) h1 (by simp) (m2 := m) rfl (by simp [resV, h2]), h3⟩
end Go.Den
