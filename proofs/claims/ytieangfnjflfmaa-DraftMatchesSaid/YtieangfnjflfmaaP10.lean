/-
  Parts of a walk, joined: D23 D24 D29 D38 D39 E5 E7 E3. No condition.
-/
import Derived.Test.YtieangfnjflfmaaP4
import Derived.Test.YtieangfnjflfmaaP9
import Derived.Test.YtieangfnjflfmaaP8
import Derived.Test.YtieangfnjflfmaaP7
set_option linter.all false
/-
  The walk of the reference's Tokens. No condition.
-/
namespace Go.Eng
open Go Go.RowKit
def tkE (ts : List Tk) : List (List Value) := ts.map Tk.cs
theorem tkE_length (ts : List Tk) : (tkE ts).length = ts.length := List.length_map _
theorem ChU.len : ∀ {us : List Un} {a z : Nat}, ChU a us z → us.length ≤ z - a
  | [], _, _, _ => Nat.zero_le _
  | u :: us, a, z, h => by
    obtain ⟨h1, h2, h3⟩ := h
    have := ChU.len h3
    have := ChU.le h3
    rw [List.length_cons]; omega
theorem usE_drop (us : List Un) (n : Nat) : usE (us.drop n) = (usE us).drop n := by unfold usE; rw [List.map_drop]
end Go.Eng
namespace Go.Proofs.Ytieangfnjflfmaa
open Go Go.Eng
set_option maxRecDepth 100000
set_option maxHeartbeats 4000000
set_option linter.all false
attribute [local irreducible] WL WC WQ QFun QLoop Does Q1 QRound QAssign Go.Addr.add
attribute [local irreducible] usE tkE unitsL rToks tokens runU
theorem cmx_D23_0 {G G' : Prop} (next : G') (h : Bx G' → G := by intro zzn; (try (refine wcal 0 ?_ (hwl := by intro zm zF zle; have hVF := hV zm zF; ((repeat (refine sp ?_; intros)); exact WQ.q1 rfl)))); (try (refine wcal 1 ?_ (hwl := by intro zm zF zle; have hVF := hV zm zF; ((repeat (refine sp ?_; intros)); exact WQ.q1 rfl)))); (try (refine wcal 2 ?_ (hwl := by intro zm zF zle; have hVF := hV zm zF; ((repeat (refine sp ?_; intros)); exact WQ.q1 rfl)))); (try (refine wcal 3 ?_ (hwl := by intro zm zF zle; have hVF := hV zm zF; ((repeat (refine sp ?_; intros)); exact WQ.q1 rfl)))); (try (refine wcal 4 ?_ (hwl := by intro zm zF zle; have hVF := hV zm zF; ((repeat (refine sp ?_; intros)); exact WQ.q1 rfl)))); (try (refine wcal 5 ?_ (hwl := by intro zm zF zle; have hVF := hV zm zF; ((repeat (refine sp ?_; intros)); exact WQ.q1 rfl)))); (try (refine wcal 6 ?_ (hwl := by intro zm zF zle; have hVF := hV zm zF; ((repeat (refine sp ?_; intros)); exact WQ.q1 rfl)))); (try (refine wcal 7 ?_ (hwl := by intro zm zF zle; have hVF := hV zm zF; ((repeat (refine sp ?_; intros)); exact WQ.q1 rfl)))); (try (refine wcal 8 ?_ (hwl := by intro zm zF zle; have hVF := hV zm zF; ((repeat (refine sp ?_; intros)); exact WQ.q1 rfl)))); (try (refine wcal 9 ?_ (hwl := by intro zm zF zle; have hVF := hV zm zF; ((repeat (refine sp ?_; intros)); exact WQ.q1 rfl)))); (try (refine wcal 10 ?_ (hwl := by intro zm zF zle; have hVF := hV zm zF; ((repeat (refine sp ?_; intros)); exact WQ.q1 rfl)))); (try (refine wcal 11 ?_ (hwl := by intro zm zF zle; have hVF := hV zm zF; ((repeat (refine sp ?_; intros)); exact WQ.q1 rfl)))); (try (refine wcal 12 ?_ (hwl := by intro zm zF zle; have hVF := hV zm zF; ((repeat (refine sp ?_; intros)); exact WQ.q1 rfl)))); (try (refine wcal 13 ?_ (hwl := by intro zm zF zle; have hVF := hV zm zF; ((repeat (refine sp ?_; intros)); exact WQ.q1 rfl)))); (try (refine wcal 14 ?_ (hwl := by intro zm zF zle; have hVF := hV zm zF; ((repeat (refine sp ?_; intros)); exact WQ.q1 rfl)))); (try (refine wcal 15 ?_ (hwl := by intro zm zF zle; have hVF := hV zm zF; ((repeat (refine sp ?_; intros)); exact WQ.q1 rfl)))); (try (refine wcal 16 ?_ (hwl := by intro zm zF zle; have hVF := hV zm zF; ((repeat (refine sp ?_; intros)); exact WQ.q1 rfl)))); (try (refine wcal 17 ?_ (hwl := by intro zm zF zle; have hVF := hV zm zF; ((repeat (refine sp ?_; intros)); exact WQ.q1 rfl)))); (try (refine wcal 18 ?_ (hwl := by intro zm zF zle; have hVF := hV zm zF; ((repeat (refine sp ?_; intros)); exact WQ.q1 rfl)))); (try (refine wcal 19 ?_ (hwl := by intro zm zF zle; have hVF := hV zm zF; ((repeat (refine sp ?_; intros)); exact WQ.q1 rfl)))); (try (refine wcal 20 ?_ (hwl := by intro zm zF zle; have hVF := hV zm zF; ((repeat (refine sp ?_; intros)); exact WQ.q1 rfl)))); (try (refine wcal 21 ?_ (hwl := by intro zm zF zle; have hVF := hV zm zF; ((repeat (refine sp ?_; intros)); exact WQ.q1 rfl)))); (try (refine wcal 22 ?_ (hwl := by intro zm zF zle; have hVF := hV zm zF; ((repeat (refine sp ?_; intros)); exact WQ.q1 rfl)))); (try (refine wcal 23 ?_ (hwl := by intro zm zF zle; have hVF := hV zm zF; ((repeat (refine sp ?_; intros)); exact WQ.q1 rfl)))); (try (refine wcal 24 ?_ (hwl := by intro zm zF zle; have hVF := hV zm zF; ((repeat (refine sp ?_; intros)); exact WQ.q1 rfl)))); (try (refine wcal 25 ?_ (hwl := by intro zm zF zle; have hVF := hV zm zF; ((repeat (refine sp ?_; intros)); exact WQ.q1 rfl)))); (try (refine wcal 26 ?_ (hwl := by intro zm zF zle; have hVF := hV zm zF; ((repeat (refine sp ?_; intros)); exact WQ.q1 rfl)))); (try (refine wcal 27 ?_ (hwl := by intro zm zF zle; have hVF := hV zm zF; ((repeat (refine sp ?_; intros)); exact WQ.q1 rfl)))); (try (refine wcal 28 ?_ (hwl := by intro zm zF zle; have hVF := hV zm zF; ((repeat (refine sp ?_; intros)); exact WQ.q1 rfl)))); (try (refine wcal 29 ?_ (hwl := by intro zm zF zle; have hVF := hV zm zF; ((repeat (refine sp ?_; intros)); exact WQ.q1 rfl)))); (try (refine wcal 30 ?_ (hwl := by intro zm zF zle; have hVF := hV zm zF; ((repeat (refine sp ?_; intros)); exact WQ.q1 rfl)))); (try (refine wcal 31 ?_ (hwl := by intro zm zF zle; have hVF := hV zm zF; ((repeat (refine sp ?_; intros)); exact WQ.q1 rfl)))); (try (refine wcal 32 ?_ (hwl := by intro zm zF zle; have hVF := hV zm zF; ((repeat (refine sp ?_; intros)); exact WQ.q1 rfl)))); (try (refine wcal 33 ?_ (hwl := by intro zm zF zle; have hVF := hV zm zF; ((repeat (refine sp ?_; intros)); exact WQ.q1 rfl)))); (try (refine wcal 34 ?_ (hwl := by intro zm zF zle; have hVF := hV zm zF; ((repeat (refine sp ?_; intros)); exact WQ.q1 rfl)))); (try (refine wcal 35 ?_ (hwl := by intro zm zF zle; have hVF := hV zm zF; ((repeat (refine sp ?_; intros)); exact WQ.q1 rfl)))); (try (refine wcal 36 ?_ (hwl := by intro zm zF zle; have hVF := hV zm zF; ((repeat (refine sp ?_; intros)); exact WQ.q1 rfl)))); (try (refine wcal 37 ?_ (hwl := by intro zm zF zle; have hVF := hV zm zF; ((repeat (refine sp ?_; intros)); exact WQ.q1 rfl)))); (try (refine wcal 38 ?_ (hwl := by intro zm zF zle; have hVF := hV zm zF; ((repeat (refine sp ?_; intros)); exact WQ.q1 rfl)))); (try (refine wcal 39 ?_ (hwl := by intro zm zF zle; have hVF := hV zm zF; ((repeat (refine sp ?_; intros)); exact WQ.q1 rfl)))); (try (refine wcal 40 ?_ (hwl := by intro zm zF zle; have hVF := hV zm zF; ((repeat (refine sp ?_; intros)); exact WQ.q1 rfl)))); (try (refine wcal 41 ?_ (hwl := by intro zm zF zle; have hVF := hV zm zF; ((repeat (refine sp ?_; intros)); exact WQ.q1 rfl)))); exact zzn.out) : G := h ⟨next⟩
theorem ref7Tokens_any (l : List UInt8) (hl : l.length ≤ 4194304) (w0 : World) (m : Mem) (H : SHeap) :
    Does Try.prog 47 #[str l] w0 m H (fun v m' H' => m.le m' ∧ ∃ a cp, v = .slice a (tokens l).length cp ∧ H' = .row a cp 92 3 (tkE (tokens l)) :: H) := by
  refine Does.of_body (args := [str l]) Try.func47 rfl Try.ntmps47 rfl ?_
  have hUl : (unitsL l).length ≤ 4194304 := by have := (units_chain l).len; omega
  refine WC.newRow (T := 92) (sz := 3) ?_
  (try (refine st ?_; intros))
  refine w_callF Try.func64 ?_ (hs := refUnits_any l (by omega) _ _ _)
  rintro v m1 H0 ⟨hm1, ua, uc, rfl, rfl⟩
  refine WL.rowCap (a := ua) (cap := uc) (T := 143) (sz := 5) (es := usE (unitsL l)) zhs ?_
  intro hUc
  rw [usE_length] at hUc
  (try (refine st ?_; intros))
  rw [show ([] : List (List Value)) = tkE [] from by unfold tkE; rfl]
  refine WC.loopH [(4, .slice (ua) (unitsL l).length (uc)), (3, .slice (none) ([]).length (0))] ?_ ?_ (fun j r ds m' H' => ∃ (V : List Un) (D : List Tk) (a : Option Addr) (c : Nat) (ao : Option Addr) (co : Nat), j = V.length ∧ r = [(4, .slice a V.length c), (3, .slice ao D.length co)] ∧ ds = [] ∧ m1 = m' ∧ H' = .row ua uc 143 5 (usE (unitsL l)) :: .row ao co 92 3 (tkE D) :: H ∧ (∀ (mm : Mem) (F : SHeap), RowR w0 mm (.row ua uc 143 5 (usE (unitsL l)) :: F) 5 a (usE V)) ∧ (V.length ≤ c) ∧ (∀ u ∈ V, UOk u) ∧ (D.length + V.length ≤ (unitsL l).length) ∧ (tokens l = D ++ rToks V)) ((unitsL l).length) ⟨unitsL l, [], ua, uc, none, 0, rfl, rfl, rfl, rfl, rfl, fun mm F => RowR.row List.mem_cons_self, hUc, units_ok l, by simp, tokens_rToks l⟩ ?_
  · (repeat (first | exact Env.Sub.nil | refine Env.Sub.cons rfl ?_))
  · exact zpk
  rintro j r ds m' H' ⟨V, D, a, c, ao, co, rfl, rfl, rfl, rfl, rfl, hV, hc, hok, hn, hD⟩
  cases V with
  | nil =>
    rw [rToks_nil, List.append_nil] at hD
    have h0 : ([] : List Un).length = 0 := rfl
    (try (refine st ?_; intros))
    exact q_fin0 (H0 := .row ao co 92 3 (tkE D) :: H) ⟨hm1, ao, co, by rw [hD], by rw [hD]⟩ (hd := zpk)
  | cons u vs =>
    have hVl : (u :: vs).length = vs.length + 1 := rfl
    have hgl : (usE (u :: vs))[0]? = some [.int .i64 (u.k : Int), .int .i64 (u.a : Int), .int .i64 (u.z : Int), .int .i32 (u.r : Int), .bool u.o] := usE_get rfl
    have hEl : (usE (u :: vs)).length = (u :: vs).length := usE_length _
    have hV1 : RowR w0 m1 (.row ua uc 143 5 (usE (unitsL l)) :: .row ao co 92 3 (tkE D) :: H) 5 a (usE (u :: vs)) := hV m1 _
    have hTl := takeN_le u vs
    obtain ⟨N, hN⟩ : ∃ N, N = 1 + takeN u vs := ⟨_, rfl⟩
    obtain ⟨v, hv⟩ : ∃ v, (u :: vs)[takeN u vs]? = some v := ⟨_, List.getElem?_eq_getElem (by rw [hVl]; omega)⟩
    have hgN : (usE (u :: vs))[N - 1]? = some [.int .i64 (v.k : Int), .int .i64 (v.a : Int), .int .i64 (v.z : Int), .int .i32 (v.r : Int), .bool v.o] := usE_get (by rw [show N - 1 = takeN u vs by omega]; exact hv)
    have hD2 : tokens l = (D ++ [⟨(beginK u).1, u.a, v.z⟩]) ++ rToks (vs.drop (takeN u vs)) := by rw [hD, rToks_cons hv]; simp
    have hdr : (u :: vs).drop N = vs.drop (takeN u vs) := by rw [hN, Nat.add_comm]; rfl
    have hsub : ∀ (mm : Mem) (F : SHeap), RowR w0 mm (.row ua uc 143 5 (usE (unitsL l)) :: F) 5 (if c = N then a else a.map (·.add (N * 5))) (usE ((u :: vs).drop N)) := fun mm F => by
      have := (hV mm F).sub (lo := N) (hi := (u :: vs).length) (cap := c) (by rw [usE_length]; omega) (by rw [usE_length]; omega)
      rwa [← hEl, List.take_length, ← usE_drop] at this
    have hlN : (u :: vs).length - N = ((u :: vs).drop N).length := (List.length_drop).symm
    have hTE : ∀ k : Nat, (beginK u).1 = k → tkE D ++ [[.int .i64 (k : Int), .int .i64 (u.a : Int), .int .i64 (v.z : Int)]] = tkE (D ++ [⟨(beginK u).1, u.a, v.z⟩]) := fun k hk => by rw [hk]; unfold tkE; simp [Tk.cs]
    have hDl : D.length + 1 = (D ++ [(⟨(beginK u).1, u.a, v.z⟩ : Tk)]).length := by simp
    have hTl2 := tkE_length D
    have hok2 : ∀ w ∈ (u :: vs).drop N, UOk w := fun w hw => hok w (List.mem_of_mem_drop hw)
    have hovs : ∀ w ∈ vs, UOk w := fun w hw => hok w (List.mem_cons_of_mem _ hw)
    rw [← hdr] at hD2
    have hN1 : 1 ≤ N := by omega
    have hN2 : N ≤ (u :: vs).length := by omega
    refine WC.rSome hV1 (by omega) ?_
    rintro a0 rfl
    by_cases k1 : u.k = 1
    · have hbk : (beginK u).1 = 1 := by simp [beginK, k1]
      rw [takeN_word hovs k1] at hN
      (refine st ?_; intros; rename_i b4)
      refine w_callF Try.func65 ?_ (hs := run_any (us := u :: vs) (J := [39, 8217, 45, 8208]) (k := 1) (by omega) (by omega) (by decide) hV1.more (rowR_blk (T := 21) (fz := (0, 0)) (L := [.int .i32 39, .int .i32 8217, .int .i32 45, .int .i32 8208]) zhs (by unfold jsE; rfl) (by simp [jsE])))
      rintro v2 m9 H9 ⟨rfl, rfl, rfl⟩
      rw [show (u :: vs).drop 1 = vs from rfl, ← hN]
      refine WL.heap (H' := .row ua uc 143 5 (usE (unitsL l)) :: .row ao co 92 3 (tkE D) :: H) zpk ?_
      (try (refine st ?_; intros))
      refine WC.drawE 17 ([.row ua uc 143 5 (usE (unitsL l))]) (.row ao co 92 3 (tkE D) :: H) rfl (by decide +kernel) zpk ?_
      (refine cmx_D23_0 ?_)
      refine WE.act1 16 (by decide +kernel) rfl rfl (fun c h => by cases h) ?_
      (refine st ?_; intros; rename_i b9)
      refine WQ.acted (B := [.blk b9 (.cells [.int .i64 1, .int .i64 (u.a : Int), .int .i64 (v.z : Int)].toArray 92 (0, 0))]) (U := .row ao co 92 3 (tkE D) :: H) rfl (Mem.le.refl _) zpk ?_
      (refine cmx_D23_0 ?_)
      refine WE.done (by decide +kernel) ?_
      (refine st ?_; intros; rename_i a2 cp2)
      have hte : tkE D ++ [[.int .i64 1, .int .i64 (u.a : Int), .int .i64 (v.z : Int)]] = tkE (D ++ [⟨(beginK u).1, u.a, v.z⟩]) := hTE 1 hbk
      rw [show subSl (some a0) c N (u :: vs).length 5 = .slice (if c = N then some a0 else (some a0).map (·.add (N * 5))) ((u :: vs).drop N).length (c - N) from by unfold subSl; rw [hlN], hTl2, hDl, hte]
      refine WQ.next (((u :: vs).drop N).length) ⟨(u :: vs).drop N, D ++ [⟨(beginK u).1, u.a, v.z⟩], (if c = N then some a0 else (some a0).map (·.add (N * 5))), c - N, a2, cp2, rfl, rfl, rfl, rfl, rfl, ?_, ?_, ?_, ?_, ?_⟩ (by omega) zsb zpk
      · exact hsub
      · omega
      · exact hok2
      · rw [← hDl]; omega
      · exact hD2
    by_cases k3 : u.k = 3
    · have hbk : (beginK u).1 = 2 := by simp [beginK, k3]
      rw [takeN_number hovs k3] at hN
      (refine st ?_; intros; rename_i b4)
      refine w_callF Try.func65 ?_ (hs := run_any (us := u :: vs) (J := [44, 46]) (k := 3) (by omega) (by omega) (by decide) hV1.more (rowR_blk (T := 21) (fz := (0, 0)) (L := [.int .i32 44, .int .i32 46]) zhs (by unfold jsE; rfl) (by simp [jsE])))
      rintro v2 m9 H9 ⟨rfl, rfl, rfl⟩
      rw [show (u :: vs).drop 1 = vs from rfl, ← hN]
      refine WL.heap (H' := .row ua uc 143 5 (usE (unitsL l)) :: .row ao co 92 3 (tkE D) :: H) zpk ?_
      (try (refine st ?_; intros))
      refine WC.drawE 17 ([.row ua uc 143 5 (usE (unitsL l))]) (.row ao co 92 3 (tkE D) :: H) rfl (by decide +kernel) zpk ?_
      (refine cmx_D23_0 ?_)
      refine WE.act1 16 (by decide +kernel) rfl rfl (fun c h => by cases h) ?_
      (refine st ?_; intros; rename_i b9)
      refine WQ.acted (B := [.blk b9 (.cells [.int .i64 2, .int .i64 (u.a : Int), .int .i64 (v.z : Int)].toArray 92 (0, 0))]) (U := .row ao co 92 3 (tkE D) :: H) rfl (Mem.le.refl _) zpk ?_
      (refine cmx_D23_0 ?_)
      refine WE.done (by decide +kernel) ?_
      (refine st ?_; intros; rename_i a2 cp2)
      have hte : tkE D ++ [[.int .i64 2, .int .i64 (u.a : Int), .int .i64 (v.z : Int)]] = tkE (D ++ [⟨(beginK u).1, u.a, v.z⟩]) := hTE 2 hbk
      rw [show subSl (some a0) c N (u :: vs).length 5 = .slice (if c = N then some a0 else (some a0).map (·.add (N * 5))) ((u :: vs).drop N).length (c - N) from by unfold subSl; rw [hlN], hTl2, hDl, hte]
      refine WQ.next (((u :: vs).drop N).length) ⟨(u :: vs).drop N, D ++ [⟨(beginK u).1, u.a, v.z⟩], (if c = N then some a0 else (some a0).map (·.add (N * 5))), c - N, a2, cp2, rfl, rfl, rfl, rfl, rfl, ?_, ?_, ?_, ?_, ?_⟩ (by omega) zsb zpk
      · exact hsub
      · omega
      · exact hok2
      · rw [← hDl]; omega
      · exact hD2
    by_cases k5 : u.k = 5
    · have hbk : (beginK u).1 = 3 := by simp [beginK, k5]
      rw [takeN_blank k5] at hN
      (try (refine st ?_; intros))
      refine w_callF Try.func65 ?_ (hs := run_any (us := u :: vs) (J := []) (b := none) (cb := 0) (k := 5) (by omega) (by omega) (by decide) hV1 (by unfold jsE; exact RowR.nil))
      rintro v2 m9 H9 ⟨rfl, rfl, rfl⟩
      rw [show (u :: vs).drop 1 = vs from rfl, ← hN]
      (try (refine st ?_; intros))
      refine WC.drawE 17 ([.row ua uc 143 5 (usE (unitsL l))]) (.row ao co 92 3 (tkE D) :: H) rfl (by decide +kernel) zpk ?_
      (refine cmx_D23_0 ?_)
      refine WE.act1 16 (by decide +kernel) rfl rfl (fun c h => by cases h) ?_
      (refine st ?_; intros; rename_i b9)
      refine WQ.acted (B := [.blk b9 (.cells [.int .i64 3, .int .i64 (u.a : Int), .int .i64 (v.z : Int)].toArray 92 (0, 0))]) (U := .row ao co 92 3 (tkE D) :: H) rfl (Mem.le.refl _) zpk ?_
      (refine cmx_D23_0 ?_)
      refine WE.done (by decide +kernel) ?_
      (refine st ?_; intros; rename_i a2 cp2)
      have hte : tkE D ++ [[.int .i64 3, .int .i64 (u.a : Int), .int .i64 (v.z : Int)]] = tkE (D ++ [⟨(beginK u).1, u.a, v.z⟩]) := hTE 3 hbk
      rw [show subSl (some a0) c N (u :: vs).length 5 = .slice (if c = N then some a0 else (some a0).map (·.add (N * 5))) ((u :: vs).drop N).length (c - N) from by unfold subSl; rw [hlN], hTl2, hDl, hte]
      refine WQ.next (((u :: vs).drop N).length) ⟨(u :: vs).drop N, D ++ [⟨(beginK u).1, u.a, v.z⟩], (if c = N then some a0 else (some a0).map (·.add (N * 5))), c - N, a2, cp2, rfl, rfl, rfl, rfl, rfl, ?_, ?_, ?_, ?_, ?_⟩ (by omega) zsb zpk
      · exact hsub
      · omega
      · exact hok2
      · rw [← hDl]; omega
      · exact hD2
    by_cases k11 : u.k = 11
    · have hbk : (beginK u).1 = 7 := by simp [beginK, k11]
      rw [takeN_broken k11] at hN
      (try (refine st ?_; intros))
      refine w_callF Try.func65 ?_ (hs := run_any (us := u :: vs) (J := []) (b := none) (cb := 0) (k := 11) (by omega) (by omega) (by decide) hV1 (by unfold jsE; exact RowR.nil))
      rintro v2 m9 H9 ⟨rfl, rfl, rfl⟩
      rw [show (u :: vs).drop 1 = vs from rfl, ← hN]
      (try (refine st ?_; intros))
      refine WC.drawE 17 ([.row ua uc 143 5 (usE (unitsL l))]) (.row ao co 92 3 (tkE D) :: H) rfl (by decide +kernel) zpk ?_
      (refine cmx_D23_0 ?_)
      refine WE.act1 16 (by decide +kernel) rfl rfl (fun c h => by cases h) ?_
      (refine st ?_; intros; rename_i b9)
      refine WQ.acted (B := [.blk b9 (.cells [.int .i64 7, .int .i64 (u.a : Int), .int .i64 (v.z : Int)].toArray 92 (0, 0))]) (U := .row ao co 92 3 (tkE D) :: H) rfl (Mem.le.refl _) zpk ?_
      (refine cmx_D23_0 ?_)
      refine WE.done (by decide +kernel) ?_
      (refine st ?_; intros; rename_i a2 cp2)
      have hte : tkE D ++ [[.int .i64 7, .int .i64 (u.a : Int), .int .i64 (v.z : Int)]] = tkE (D ++ [⟨(beginK u).1, u.a, v.z⟩]) := hTE 7 hbk
      rw [show subSl (some a0) c N (u :: vs).length 5 = .slice (if c = N then some a0 else (some a0).map (·.add (N * 5))) ((u :: vs).drop N).length (c - N) from by unfold subSl; rw [hlN], hTl2, hDl, hte]
      refine WQ.next (((u :: vs).drop N).length) ⟨(u :: vs).drop N, D ++ [⟨(beginK u).1, u.a, v.z⟩], (if c = N then some a0 else (some a0).map (·.add (N * 5))), c - N, a2, cp2, rfl, rfl, rfl, rfl, rfl, ?_, ?_, ?_, ?_, ?_⟩ (by omega) zsb zpk
      · exact hsub
      · omega
      · exact hok2
      · rw [← hDl]; omega
      · exact hD2
    have hk0 : u.k ≠ 1 ∧ u.k ≠ 3 ∧ u.k ≠ 5 ∧ u.k ≠ 11 := ⟨k1, k3, k5, k11⟩
    by_cases k4 : u.k = 4
    · have hbk : (beginK u).1 = 4 := by unfold beginK; rw [if_neg k1, if_neg k3, if_neg k5, if_neg k11, if_pos k4]
      by_cases hr : u.r = 13
      · (try (refine st ?_; intros))
        refine w_callF Try.func66 ?_ (hs := is_any (us := u :: vs) (i := 1) (k := 4) (by omega) hV1)
        rintro v2 m9 H9 ⟨rfl, rfl, rfl⟩
        cases hi1 : isU (u :: vs) 1 4 with
        | false =>
          have ht0 : takeN u vs = 0 := takeN_alone hk0 (.inr fun w hw => by
            unfold isU at hi1
            rw [List.getElem?_cons_succ, hw] at hi1
            intro hg
            simp [hg.1] at hi1)
          rw [ht0] at hv hN
          obtain rfl : u = v := Option.some.inj hv
          obtain rfl : N = 1 := hN
          (try (refine st ?_; intros))
          refine WC.drawE 17 ([.row ua uc 143 5 (usE (unitsL l))]) (.row ao co 92 3 (tkE D) :: H) rfl (by decide +kernel) zpk ?_
          (refine cmx_D23_0 ?_)
          refine WE.act1 16 (by decide +kernel) rfl rfl (fun c h => by cases h) ?_
          (refine st ?_; intros; rename_i b9)
          refine WQ.acted (B := [.blk b9 (.cells [.int .i64 4, .int .i64 (u.a : Int), .int .i64 (u.z : Int)].toArray 92 (0, 0))]) (U := .row ao co 92 3 (tkE D) :: H) rfl (Mem.le.refl _) zpk ?_
          (refine cmx_D23_0 ?_)
          refine WE.done (by decide +kernel) ?_
          (refine st ?_; intros; rename_i a2 cp2)
          have hte : tkE D ++ [[.int .i64 4, .int .i64 (u.a : Int), .int .i64 (u.z : Int)]] = tkE (D ++ [⟨(beginK u).1, u.a, u.z⟩]) := hTE 4 hbk
          rw [show subSl (some a0) c 1 (u :: vs).length 5 = .slice (if c = 1 then some a0 else (some a0).map (·.add (1 * 5))) ((u :: vs).drop 1).length (c - 1) from by unfold subSl; rw [hlN], hTl2, hDl, hte]
          refine WQ.next (((u :: vs).drop 1).length) ⟨(u :: vs).drop 1, D ++ [⟨(beginK u).1, u.a, u.z⟩], (if c = 1 then some a0 else (some a0).map (·.add (1 * 5))), c - 1, a2, cp2, rfl, rfl, rfl, rfl, rfl, ?_, ?_, ?_, ?_, ?_⟩ (by omega) zsb zpk
          · exact hsub
          · omega
          · exact hok2
          · rw [← hDl]; omega
          · exact hD2
        | true =>
          obtain ⟨w, hw, hwk⟩ := isU_some hi1
          have hgw := usE_get hw
          have hw1 := (List.getElem?_eq_some_iff.1 hw).1
          by_cases hwr : w.r = 10
          · have ht0 : takeN u vs = 1 := takeN_pause k4 hr (v := w) (by rw [← hw]; rfl) hwk hwr
            rw [ht0] at hv hN
            rw [hv] at hw
            obtain rfl : v = w := Option.some.inj hw
            obtain rfl : N = 2 := hN
            (try (refine st ?_; intros))
            refine WC.drawE 17 ([.row ua uc 143 5 (usE (unitsL l))]) (.row ao co 92 3 (tkE D) :: H) rfl (by decide +kernel) zpk ?_
            (refine cmx_D23_0 ?_)
            refine WE.act1 16 (by decide +kernel) rfl rfl (fun c h => by cases h) ?_
            (refine st ?_; intros; rename_i b9)
            refine WQ.acted (B := [.blk b9 (.cells [.int .i64 4, .int .i64 (u.a : Int), .int .i64 (v.z : Int)].toArray 92 (0, 0))]) (U := .row ao co 92 3 (tkE D) :: H) rfl (Mem.le.refl _) zpk ?_
            (refine cmx_D23_0 ?_)
            refine WE.done (by decide +kernel) ?_
            (refine st ?_; intros; rename_i a2 cp2)
            have hte : tkE D ++ [[.int .i64 4, .int .i64 (u.a : Int), .int .i64 (v.z : Int)]] = tkE (D ++ [⟨(beginK u).1, u.a, v.z⟩]) := hTE 4 hbk
            rw [show subSl (some a0) c 2 (u :: vs).length 5 = .slice (if c = 2 then some a0 else (some a0).map (·.add (2 * 5))) ((u :: vs).drop 2).length (c - 2) from by unfold subSl; rw [hlN], hTl2, hDl, hte]
            refine WQ.next (((u :: vs).drop 2).length) ⟨(u :: vs).drop 2, D ++ [⟨(beginK u).1, u.a, v.z⟩], (if c = 2 then some a0 else (some a0).map (·.add (2 * 5))), c - 2, a2, cp2, rfl, rfl, rfl, rfl, rfl, ?_, ?_, ?_, ?_, ?_⟩ (by omega) zsb zpk
            · exact hsub
            · omega
            · exact hok2
            · rw [← hDl]; omega
            · exact hD2
          · have ht0 : takeN u vs = 0 := takeN_alone hk0 (.inr fun w2 hw2 => by
              rw [show (u :: vs)[1]? = vs[0]? from rfl, hw2] at hw
              cases hw
              exact fun hg => hwr hg.2)
            rw [ht0] at hv hN
            obtain rfl : u = v := Option.some.inj hv
            obtain rfl : N = 1 := hN
            (try (refine st ?_; intros))
            refine WC.drawE 17 ([.row ua uc 143 5 (usE (unitsL l))]) (.row ao co 92 3 (tkE D) :: H) rfl (by decide +kernel) zpk ?_
            (refine cmx_D23_0 ?_)
            refine WE.act1 16 (by decide +kernel) rfl rfl (fun c h => by cases h) ?_
            (refine st ?_; intros; rename_i b9)
            refine WQ.acted (B := [.blk b9 (.cells [.int .i64 4, .int .i64 (u.a : Int), .int .i64 (u.z : Int)].toArray 92 (0, 0))]) (U := .row ao co 92 3 (tkE D) :: H) rfl (Mem.le.refl _) zpk ?_
            (refine cmx_D23_0 ?_)
            refine WE.done (by decide +kernel) ?_
            (refine st ?_; intros; rename_i a2 cp2)
            have hte : tkE D ++ [[.int .i64 4, .int .i64 (u.a : Int), .int .i64 (u.z : Int)]] = tkE (D ++ [⟨(beginK u).1, u.a, u.z⟩]) := hTE 4 hbk
            rw [show subSl (some a0) c 1 (u :: vs).length 5 = .slice (if c = 1 then some a0 else (some a0).map (·.add (1 * 5))) ((u :: vs).drop 1).length (c - 1) from by unfold subSl; rw [hlN], hTl2, hDl, hte]
            refine WQ.next (((u :: vs).drop 1).length) ⟨(u :: vs).drop 1, D ++ [⟨(beginK u).1, u.a, u.z⟩], (if c = 1 then some a0 else (some a0).map (·.add (1 * 5))), c - 1, a2, cp2, rfl, rfl, rfl, rfl, rfl, ?_, ?_, ?_, ?_, ?_⟩ (by omega) zsb zpk
            · exact hsub
            · omega
            · exact hok2
            · rw [← hDl]; omega
            · exact hD2
      · have ht0 : takeN u vs = 0 := takeN_alone hk0 (.inl fun hg => hr hg.2)
        rw [ht0] at hv hN
        obtain rfl : u = v := Option.some.inj hv
        obtain rfl : N = 1 := hN
        (try (refine st ?_; intros))
        refine WC.drawE 17 ([.row ua uc 143 5 (usE (unitsL l))]) (.row ao co 92 3 (tkE D) :: H) rfl (by decide +kernel) zpk ?_
        (refine cmx_D23_0 ?_)
        refine WE.act1 16 (by decide +kernel) rfl rfl (fun c h => by cases h) ?_
        (refine st ?_; intros; rename_i b9)
        refine WQ.acted (B := [.blk b9 (.cells [.int .i64 4, .int .i64 (u.a : Int), .int .i64 (u.z : Int)].toArray 92 (0, 0))]) (U := .row ao co 92 3 (tkE D) :: H) rfl (Mem.le.refl _) zpk ?_
        (refine cmx_D23_0 ?_)
        refine WE.done (by decide +kernel) ?_
        (refine st ?_; intros; rename_i a2 cp2)
        have hte : tkE D ++ [[.int .i64 4, .int .i64 (u.a : Int), .int .i64 (u.z : Int)]] = tkE (D ++ [⟨(beginK u).1, u.a, u.z⟩]) := hTE 4 hbk
        rw [show subSl (some a0) c 1 (u :: vs).length 5 = .slice (if c = 1 then some a0 else (some a0).map (·.add (1 * 5))) ((u :: vs).drop 1).length (c - 1) from by unfold subSl; rw [hlN], hTl2, hDl, hte]
        refine WQ.next (((u :: vs).drop 1).length) ⟨(u :: vs).drop 1, D ++ [⟨(beginK u).1, u.a, u.z⟩], (if c = 1 then some a0 else (some a0).map (·.add (1 * 5))), c - 1, a2, cp2, rfl, rfl, rfl, rfl, rfl, ?_, ?_, ?_, ?_, ?_⟩ (by omega) zsb zpk
        · exact hsub
        · omega
        · exact hok2
        · rw [← hDl]; omega
        · exact hD2
    have ht0 : takeN u vs = 0 := takeN_alone hk0 (.inl fun hg => k4 hg.1)
    rw [ht0] at hv hN
    obtain rfl : u = v := Option.some.inj hv
    obtain rfl : N = 1 := hN
    by_cases k6 : u.k = 6
    · have hbk : (beginK u).1 = 5 := by simp [beginK, k6]
      (try (refine st ?_; intros))
      refine WC.drawE 17 ([.row ua uc 143 5 (usE (unitsL l))]) (.row ao co 92 3 (tkE D) :: H) rfl (by decide +kernel) zpk ?_
      (refine cmx_D23_0 ?_)
      refine WE.act1 16 (by decide +kernel) rfl rfl (fun c h => by cases h) ?_
      (refine st ?_; intros; rename_i b9)
      refine WQ.acted (B := [.blk b9 (.cells [.int .i64 5, .int .i64 (u.a : Int), .int .i64 (u.z : Int)].toArray 92 (0, 0))]) (U := .row ao co 92 3 (tkE D) :: H) rfl (Mem.le.refl _) zpk ?_
      (refine cmx_D23_0 ?_)
      refine WE.done (by decide +kernel) ?_
      (refine st ?_; intros; rename_i a2 cp2)
      have hte : tkE D ++ [[.int .i64 5, .int .i64 (u.a : Int), .int .i64 (u.z : Int)]] = tkE (D ++ [⟨(beginK u).1, u.a, u.z⟩]) := hTE 5 hbk
      rw [show subSl (some a0) c 1 (u :: vs).length 5 = .slice (if c = 1 then some a0 else (some a0).map (·.add (1 * 5))) ((u :: vs).drop 1).length (c - 1) from by unfold subSl; rw [hlN], hTl2, hDl, hte]
      refine WQ.next (((u :: vs).drop 1).length) ⟨(u :: vs).drop 1, D ++ [⟨(beginK u).1, u.a, u.z⟩], (if c = 1 then some a0 else (some a0).map (·.add (1 * 5))), c - 1, a2, cp2, rfl, rfl, rfl, rfl, rfl, ?_, ?_, ?_, ?_, ?_⟩ (by omega) zsb zpk
      · exact hsub
      · omega
      · exact hok2
      · rw [← hDl]; omega
      · exact hD2
    by_cases k7 : u.k = 7
    · have hbk : (beginK u).1 = 5 := by simp [beginK, k7]
      (try (refine st ?_; intros))
      refine WC.drawE 17 ([.row ua uc 143 5 (usE (unitsL l))]) (.row ao co 92 3 (tkE D) :: H) rfl (by decide +kernel) zpk ?_
      (refine cmx_D23_0 ?_)
      refine WE.act1 16 (by decide +kernel) rfl rfl (fun c h => by cases h) ?_
      (refine st ?_; intros; rename_i b9)
      refine WQ.acted (B := [.blk b9 (.cells [.int .i64 5, .int .i64 (u.a : Int), .int .i64 (u.z : Int)].toArray 92 (0, 0))]) (U := .row ao co 92 3 (tkE D) :: H) rfl (Mem.le.refl _) zpk ?_
      (refine cmx_D23_0 ?_)
      refine WE.done (by decide +kernel) ?_
      (refine st ?_; intros; rename_i a2 cp2)
      have hte : tkE D ++ [[.int .i64 5, .int .i64 (u.a : Int), .int .i64 (u.z : Int)]] = tkE (D ++ [⟨(beginK u).1, u.a, u.z⟩]) := hTE 5 hbk
      rw [show subSl (some a0) c 1 (u :: vs).length 5 = .slice (if c = 1 then some a0 else (some a0).map (·.add (1 * 5))) ((u :: vs).drop 1).length (c - 1) from by unfold subSl; rw [hlN], hTl2, hDl, hte]
      refine WQ.next (((u :: vs).drop 1).length) ⟨(u :: vs).drop 1, D ++ [⟨(beginK u).1, u.a, u.z⟩], (if c = 1 then some a0 else (some a0).map (·.add (1 * 5))), c - 1, a2, cp2, rfl, rfl, rfl, rfl, rfl, ?_, ?_, ?_, ?_, ?_⟩ (by omega) zsb zpk
      · exact hsub
      · omega
      · exact hok2
      · rw [← hDl]; omega
      · exact hD2
    by_cases k8 : u.k = 8
    · have hbk : (beginK u).1 = 5 := by simp [beginK, k8]
      (try (refine st ?_; intros))
      refine WC.drawE 17 ([.row ua uc 143 5 (usE (unitsL l))]) (.row ao co 92 3 (tkE D) :: H) rfl (by decide +kernel) zpk ?_
      (refine cmx_D23_0 ?_)
      refine WE.act1 16 (by decide +kernel) rfl rfl (fun c h => by cases h) ?_
      (refine st ?_; intros; rename_i b9)
      refine WQ.acted (B := [.blk b9 (.cells [.int .i64 5, .int .i64 (u.a : Int), .int .i64 (u.z : Int)].toArray 92 (0, 0))]) (U := .row ao co 92 3 (tkE D) :: H) rfl (Mem.le.refl _) zpk ?_
      (refine cmx_D23_0 ?_)
      refine WE.done (by decide +kernel) ?_
      (refine st ?_; intros; rename_i a2 cp2)
      have hte : tkE D ++ [[.int .i64 5, .int .i64 (u.a : Int), .int .i64 (u.z : Int)]] = tkE (D ++ [⟨(beginK u).1, u.a, u.z⟩]) := hTE 5 hbk
      rw [show subSl (some a0) c 1 (u :: vs).length 5 = .slice (if c = 1 then some a0 else (some a0).map (·.add (1 * 5))) ((u :: vs).drop 1).length (c - 1) from by unfold subSl; rw [hlN], hTl2, hDl, hte]
      refine WQ.next (((u :: vs).drop 1).length) ⟨(u :: vs).drop 1, D ++ [⟨(beginK u).1, u.a, u.z⟩], (if c = 1 then some a0 else (some a0).map (·.add (1 * 5))), c - 1, a2, cp2, rfl, rfl, rfl, rfl, rfl, ?_, ?_, ?_, ?_, ?_⟩ (by omega) zsb zpk
      · exact hsub
      · omega
      · exact hok2
      · rw [← hDl]; omega
      · exact hD2
    · have hbk : (beginK u).1 = 6 := by unfold beginK; rw [if_neg k1, if_neg k3, if_neg k5, if_neg k11, if_neg k4, if_neg (by omega)]
      (try (refine st ?_; intros))
      refine WC.drawE 17 ([.row ua uc 143 5 (usE (unitsL l))]) (.row ao co 92 3 (tkE D) :: H) rfl (by decide +kernel) zpk ?_
      (refine cmx_D23_0 ?_)
      refine WE.act1 16 (by decide +kernel) rfl rfl (fun c h => by cases h) ?_
      (refine st ?_; intros; rename_i b9)
      refine WQ.acted (B := [.blk b9 (.cells [.int .i64 6, .int .i64 (u.a : Int), .int .i64 (u.z : Int)].toArray 92 (0, 0))]) (U := .row ao co 92 3 (tkE D) :: H) rfl (Mem.le.refl _) zpk ?_
      (refine cmx_D23_0 ?_)
      refine WE.done (by decide +kernel) ?_
      (refine st ?_; intros; rename_i a2 cp2)
      have hte : tkE D ++ [[.int .i64 6, .int .i64 (u.a : Int), .int .i64 (u.z : Int)]] = tkE (D ++ [⟨(beginK u).1, u.a, u.z⟩]) := hTE 6 hbk
      rw [show subSl (some a0) c 1 (u :: vs).length 5 = .slice (if c = 1 then some a0 else (some a0).map (·.add (1 * 5))) ((u :: vs).drop 1).length (c - 1) from by unfold subSl; rw [hlN], hTl2, hDl, hte]
      refine WQ.next (((u :: vs).drop 1).length) ⟨(u :: vs).drop 1, D ++ [⟨(beginK u).1, u.a, u.z⟩], (if c = 1 then some a0 else (some a0).map (·.add (1 * 5))), c - 1, a2, cp2, rfl, rfl, rfl, rfl, rfl, ?_, ?_, ?_, ?_, ?_⟩ (by omega) zsb zpk
      · exact hsub
      · omega
      · exact hok2
      · rw [← hDl]; omega
      · exact hD2
end Go.Proofs.Ytieangfnjflfmaa

/-
  The walk of the reference's token texts. No condition.
-/
namespace Go.Eng
open Go
theorem tkE_get {ts : List Tk} {i : Nat} {t : Tk} (h : ts[i]? = some t) : (tkE ts)[i]? = some [.int .i64 (t.k : Int), .int .i64 (t.a : Int), .int .i64 (t.z : Int)] := by unfold tkE; rw [List.getElem?_map, h]; rfl
theorem strs_take {A : List Tx} {i : Nat} {x : Tx} (h : A[i]? = some x) : strs (A.take (i + 1)) = strs (A.take i) ++ [[str x]] := by
  unfold strs
  rw [List.take_succ, h]; simp
end Go.Eng
namespace Go.Proofs.Ytieangfnjflfmaa
open Go Go.Eng
set_option maxRecDepth 100000
set_option maxHeartbeats 4000000
set_option linter.all false
attribute [local irreducible] WL WC WQ QFun QLoop Does Q1 QRound QAssign Go.Addr.add
attribute [local irreducible] tkE strs tokens toks
theorem rtoks_any (l : List UInt8) (hl : l.length ≤ 4194304) (w0 : World) (m : Mem) (H : SHeap) :
    Does Try.prog 31 #[str l] w0 m H (fun v m' H' => m.le m' ∧ ∃ a cp, v = .slice a (toks l).length cp ∧ H' = .row a cp 9 1 (strs (toks l)) :: H) := by
  refine Does.of_body (args := [str l]) Try.func31 rfl Try.ntmps31 rfl ?_
  have hkl := toks_length0 l
  have hkl2 := toks_length l
  refine WC.newRow (T := 9) (sz := 1) ?_
  (try (refine st ?_; intros))
  refine w_callF Try.func47 ?_ (hs := ref7Tokens_any l (by omega) _ _ _)
  rintro v m1 H0 ⟨hm1, ta, tc, rfl, rfl⟩
  have htl := tkE_length (tokens l)
  (try (refine st ?_; intros))
  rw [show ([] : List (List Value)) = strs ((toks l).take 0) from by unfold strs; rfl]
  refine WC.loopH [(9, .int .i64 ((0) : Int)), (8, .int .i64 ((tokens l).length : Int)), (7, .slice ta (tokens l).length tc), (3, .slice (none) (0) (0)), (0, str l)] ?_ ?_ (fun j r ds m' H' => ∃ (i : Nat) (a : Option Addr) (cp : Nat), j = (tokens l).length - i ∧ r = [(9, .int .i64 (i : Int)), (8, .int .i64 ((tokens l).length : Int)), (7, .slice ta (tokens l).length tc), (3, .slice a i cp), (0, str l)] ∧ ds = [] ∧ m1 = m' ∧ H' = .row a cp 9 1 (strs ((toks l).take i)) :: .row ta tc 92 3 (tkE (tokens l)) :: H ∧ (i ≤ (tokens l).length)) ((tokens l).length - (0)) ⟨0, none, 0, rfl, rfl, rfl, rfl, rfl, by omega⟩ ?_
  · (repeat (first | exact Env.Sub.nil | refine Env.Sub.cons rfl ?_))
  · exact zpk
  rintro j r ds m' H' ⟨i, a, cp, rfl, rfl, rfl, rfl, rfl, hi⟩
  by_cases hlt : i < (tokens l).length
  · obtain ⟨t, ht⟩ : ∃ t, (tokens l)[i]? = some t := ⟨_, List.getElem?_eq_getElem hlt⟩
    have htz := (tokens_chain l).mem t (List.mem_of_getElem? ht)
    have hgt := tkE_get ht
    have hx : (toks l)[i]? = some ((l.take t.z).drop t.a) := by unfold toks; rw [List.getElem?_map, ht]; rfl
    have hsn := strs_take hx
    have hsl : (strs ((toks l).take i)).length = i := by rw [strs_length, List.length_take]; omega
    generalize strs ((toks l).take i) = SE at *
    generalize tkE (tokens l) = TE at *
    refine WC.rowSome (a := ta) (es := TE) zhs (by omega) ?_
    rintro t0 rfl
    (refine st ?_; intros; rename_i bt b9 a2 cp2)
    rw [hsl, ← hsn]
    refine WQ.next ((tokens l).length - (i + 1)) ⟨i + 1, a2, cp2, rfl, rfl, rfl, rfl, rfl, ?_⟩ (by omega) zsb zpk
    · omega
  · obtain rfl : i = (tokens l).length := by omega
    rw [List.take_of_length_le (by omega), ← hkl]
    (try (refine st ?_; intros))
    exact q_fin0 (H0 := .row a cp 9 1 (strs (toks l)) :: H) ⟨hm1, a, cp, rfl, rfl⟩ (hd := zpk)
end Go.Proofs.Ytieangfnjflfmaa

/-
  The walk of the reference's Match, put together. No condition.
-/
namespace Go.Proofs.Ytieangfnjflfmaa
open Go Go.Eng
set_option maxRecDepth 100000
set_option maxHeartbeats 4000000
set_option linter.all false
attribute [local irreducible] WL WC WQ QFun QLoop Does Q1 QRound QAssign Go.Addr.add
attribute [local irreducible] midL strs headN mid diagL tailP matchL toks
theorem rmatch_any (s t : List UInt8) (hs : s.length ≤ 4194304) (ht : t.length ≤ 4194304) (w0 : World) (m : Mem) (H : SHeap) :
    Does Try.prog 15 #[str s, str t] w0 m H (fun v m' H' => m.le m' ∧ ∃ a cp, v = .slice a (matchL (toks s) (toks t)).length cp ∧ H' = .row a cp 44 2 ((matchL (toks s) (toks t)).map prE) :: H) := by
  refine Does.of_body (args := [str s, str t]) Try.func15 rfl Try.ntmps15 rfl ?_
  have hA0 := toks_length s
  have hB0 := toks_length t
  (try (refine st ?_; intros))
  refine w_callF Try.func31 ?_ (hs := rtoks_any s (by omega) _ _ _)
  rintro v m1 H1 ⟨hm1, aa, ca, rfl, rfl⟩
  (try (refine st ?_; intros))
  refine w_callF Try.func31 ?_ (hs := rtoks_any t (by omega) _ _ _)
  rintro v m2 H1 ⟨hm2, ab, cb, rfl, rfl⟩
  have hm12 := hm1.trans hm2
  have hA : (toks s).length ≤ 4194304 := by omega
  have hB : (toks t).length ≤ 4194304 := by omega
  clear hA0 hB0 hm1 hm2
  generalize toks s = A at *
  generalize toks t = B at *
  refine WL.rowCap (a := aa) (cap := ca) (T := 9) (sz := 1) (es := strs A) zhs ?_
  intro hca
  refine WL.rowCap (a := ab) (cap := cb) (T := 9) (sz := 1) (es := strs B) zhs ?_
  intro hcb
  rw [strs_length] at hca hcb
  have ha : RowR w0 m2 (.row ab cb 9 1 (strs B) :: .row aa ca 9 1 (strs A) :: H) 1 aa (strs A) := RowR.row (T := 9) (cap := ca) zhs
  have hb : RowR w0 m2 (.row ab cb 9 1 (strs B) :: .row aa ca 9 1 (strs A) :: H) 1 ab (strs B) := RowR.row (T := 9) (cap := cb) zhs
  have hdrop : ∀ i w, Sat w0 m2 (i :: .row ab cb 9 1 (strs B) :: .row aa ca 9 1 (strs A) :: H) w → Sat w0 m2 (i :: H) w := fun i => zpk
  generalize Eng.Item.row ab cb 9 1 (strs B) :: Eng.Item.row aa ca 9 1 (strs A) :: H = Y at ha hb hdrop ⊢
  rw [match_eq]
  have hht := tailN_le A B
  have hhl := headN_le A B
  have hTd : tailN A B = headN ((A.drop (headN A B)).reverse) ((B.drop (headN A B)).reverse) := rfl
  have hmA : midA A B = (A.take (A.length - tailN A B)).drop (headN A B) := rfl
  have hmB : midB A B = (B.take (B.length - tailN A B)).drop (headN A B) := rfl
  (try (refine st ?_; intros))
  refine WC.weak zsb zpk (rm_head hA hB ha hb ?_)
  intro oa oc
  generalize headN A B = h at *
  (try (refine st ?_; intros))
  refine WC.weak zsb zpk (rm_tail (H := .row oa oc 44 2 ((diagL 0 0 h).map prE) :: Y) hA hB hhl ha.more hb.more ?_)
  intro t' n q ta tc ht' hn hq
  rw [← ht'] at hTd
  rw [hTd] at hht hmA hmB ⊢
  clear ht' hTd
  have hmAl : (midA A B).length = n - h := by rw [hmA, List.length_drop, List.length_take]; omega
  have hmBl : (midB A B).length = q - h := by rw [hmB, List.length_drop, List.length_take]; omega
  have hsa := ha.sub (lo := h) (hi := n) (cap := ca) (by rw [strs_length]; omega) (by rw [strs_length]; omega)
  have hsb := hb.sub (lo := h) (hi := q) (cap := cb) (by rw [strs_length]; omega) (by rw [strs_length]; omega)
  rw [show A.length - t' = n by omega] at hmA
  rw [show B.length - t' = q by omega] at hmB
  rw [strs_sub, ← hmA] at hsa
  rw [strs_sub, ← hmB] at hsb
  generalize midA A B = MA at *
  generalize midB A B = MB at *
  clear hmA hmB
  have hsl := strs_length A
  have hsl2 := strs_length B
  by_cases hmid : MA.length ≤ 1024 ∧ MB.length ≤ 1024
  · obtain ⟨h1, h2⟩ := hmid
    have hmd : mid MA MB h = (midL MA MB 0 0).map fun p => (h + p.1, h + p.2) := by
      unfold mid
      rw [if_pos ⟨h1, h2⟩]
      exact midL_shift MA MB 0 0 h h
    have hml : (midL MA MB 0 0).length ≤ 1024 := by rw [midL_length]; have := (lcs_le MA MB).1; omega
    have hml2 : (midL MA MB 0 0).length ≤ MA.length := by rw [midL_length]; exact (lcs_le MA MB).1
    have hmb : ∀ p ∈ midL MA MB 0 0, p.1 ≤ 4194304 ∧ p.2 ≤ 4194304 := by
      intro p hp
      have := (midL_ok (a := MA) (b := MB) MA MB 0 0 MA.length MB.length (by simp) (by simp) (Nat.zero_le _) (Nat.zero_le _) (Nat.le_refl _) (Nat.le_refl _)).mem p hp
      omega
    rw [hmd]
    have hPl : (diagL 0 0 h).length = h := diagL_length _ _ _
    (try (refine st ?_; intros))
    refine WC.drawE 11 ([]) (.row ta tc 44 2 ((tailP A.length B.length t').map prE) :: .row oa oc 44 2 ((diagL 0 0 h).map prE) :: Y) rfl (by decide +kernel) zpk ?_
    (refine cm0 ?_)
    refine WE.act1 8 (by decide +kernel) rfl rfl (fun c h => by cases h) ?_
    have e1 : subSl aa ca h n 1 = .slice (if ca = h then aa else aa.map (·.add (h * 1))) MA.length (ca - h) := by unfold subSl; rw [hmAl]
    have e2 : subSl ab cb h q 1 = .slice (if cb = h then ab else ab.map (·.add (h * 1))) MB.length (cb - h) := by unfold subSl; rw [hmBl]
    rw [e1, e2]
    refine w_callF Try.func34 ?_ (hs := longest_any h1 h2 hsa.more.more hsb.more.more)
    rintro v m H9 ⟨rfl, a2, cp2, rfl, rfl⟩
    (try (refine st ?_; intros))
    refine WQ.acted (B := []) (U := .row a2 cp2 44 2 ((midL MA MB 0 0).map prE) :: .row ta tc 44 2 ((tailP A.length B.length t').map prE) :: .row oa oc 44 2 ((diagL 0 0 h).map prE) :: Y) rfl (Mem.le.refl _) zpk ?_
    (refine cm0 ?_)
    refine WE.done (by decide +kernel) ?_
    generalize midL MA MB 0 0 = M at *
    (try (refine st ?_; intros))
    have hoe : (Value.slice oa h oc) = .slice oa (diagL 0 0 h).length oc := by rw [hPl]
    rw [hoe]
    refine WC.weak zsb zpk (rm_mid (P := diagL 0 0 h) (M := M) (h := h) (H := .row ta tc 44 2 ((tailP A.length B.length t').map prE) :: Y) (by omega) hml (by omega) hmb ?_)
    intro a3 c3
    (try (refine st ?_; intros))
    refine WC.weak zsb zpk (rm_back (P := diagL 0 0 h ++ M.map fun p => (h + p.1, h + p.2)) (x := A.length) (y := B.length) (t := t') (H := Y) (by rw [List.length_append, hPl, List.length_map]; omega) (by omega) (by omega) (by omega) ?_)
    intro a4 c4
    (try (refine st ?_; intros))
    exact q_fin0 (H0 := .row a4 c4 44 2 ((diagL 0 0 h ++ (M.map fun p => (h + p.1, h + p.2)) ++ diagL (A.length - t') (B.length - t') t').map prE) :: H) ⟨hm12, a4, c4, congrArg (fun k => Value.slice a4 k c4) (show (diagL 0 0 h ++ M.map fun p => (h + p.1, h + p.2)).length + t' = _ by simp only [List.length_append, diagL_length]), rfl⟩ (hd := fun w h => hdrop _ w h)
  · have hmd : mid MA MB h = [] := by unfold mid; rw [if_neg hmid]
    have hPl : (diagL 0 0 h).length = h := diagL_length _ _ _
    rw [hmd, List.append_nil]
    have hoe : (Value.slice oa h oc) = .slice oa (diagL 0 0 h).length oc := by rw [hPl]
    have hor : ¬ MA.length ≤ 1024 ∨ (MA.length ≤ 1024 ∧ ¬ MB.length ≤ 1024) := by omega
    rcases hor with hor | ⟨hor, hor2⟩
    all_goals
      (try (refine st ?_; intros))
      rw [hoe]
      refine WC.weak zsb zpk (rm_back (P := diagL 0 0 h) (x := A.length) (y := B.length) (t := t') (H := Y) (by omega) (by omega) (by omega) (by omega) ?_)
      intro a4 c4
      (try (refine st ?_; intros))
      exact q_fin0 (H0 := .row a4 c4 44 2 ((diagL 0 0 h ++ diagL (A.length - t') (B.length - t') t').map prE) :: H) ⟨hm12, a4, c4, congrArg (fun k => Value.slice a4 k c4) (show (diagL 0 0 h).length + t' = _ by simp only [List.length_append, diagL_length]), rfl⟩ (hd := fun w h => hdrop _ w h)
end Go.Proofs.Ytieangfnjflfmaa

/-
  The walk of the reference's put; the loop of its Change. No condition.
-/
namespace Go.Eng
open Go
/-- a step, if it is one -/
def oneS (x : Stp) : List Stp := if 0 < x.k ∨ x.d ≠ [] ∨ x.p ≠ [] then [x] else []
theorem oneS_put (t : Tx) : oneS ⟨0, [], t⟩ = putT t := by
  unfold oneS putT
  by_cases h : t = []
  · rw [if_pos h, if_neg (by simp [h])]
  · rw [if_neg h, if_pos (.inr (.inr h))]
theorem oneS_drop (t : Tx) : oneS ⟨0, t, []⟩ = dropT t := by
  unfold oneS dropT
  by_cases h : t = []
  · rw [if_pos h, if_neg (by simp [h])]
  · rw [if_neg h, if_pos (.inr (.inl h))]
theorem oneS_keep {t : Tx} (h : t ≠ []) : oneS ⟨(t.length : Int), [], []⟩ = keepT t := by
  unfold oneS keepT
  have := List.length_pos_iff.2 h
  rw [if_pos (.inl (by simp only; omega))]
end Go.Eng
namespace Go.Proofs.Ytieangfnjflfmaa
open Go Go.Eng
set_option maxRecDepth 100000
set_option maxHeartbeats 4000000
set_option linter.all false
attribute [local irreducible] WL WC WQ QFun QLoop Does Q1 QRound QAssign Go.Addr.add
theorem sq_D38_1 {G : Prop} (h : G := by (repeat (first | (refine sp ?_; (repeat intro zzc)) | (refine WL.append1 (by':=40) rfl rfl rfl rfl (by (repeat (first | exact Out.here | apply Out.there))) zhs (by exact rfl) (by exact rfl) (by exact rfl) (by exact rfl) (by exact rfl) (by exact rfl) (by first | exact rfl | omega) (by first | omega | (simp; omega)) (by decide) (by exact rfl) ?_; intro zzc zzc))); exact WQ.q1 rfl) : G := h
theorem st_D38_1 {G G' : Prop} (next : G') (h : Bx G' → G := by intro zzn; (first | ((refine st ?_; (repeat intro zzc)); (try ((first | (refine WL.append1 (by':=40) rfl rfl rfl rfl (by (repeat (first | exact Out.here | apply Out.there))) zhs (by exact rfl) (by exact rfl) (by exact rfl) (by exact rfl) (by exact rfl) (by exact rfl) (by first | exact rfl | omega) (by first | omega | (simp; omega)) (by decide) (by exact rfl) ?_; intro zzc zzc) | ((refine iDraw ?_; (first | refine WC.drawAll rfl (by decide +kernel) ?_ | refine WC.draw 1 rfl (by decide +kernel) ?_ | refine WC.draw 2 rfl (by decide +kernel) ?_ | refine WC.draw 3 rfl (by decide +kernel) ?_ | refine WC.draw 4 rfl (by decide +kernel) ?_ | refine WC.draw 5 rfl (by decide +kernel) ?_ | refine WC.draw 6 rfl (by decide +kernel) ?_ | refine WC.draw 7 rfl (by decide +kernel) ?_ | refine WC.draw 8 rfl (by decide +kernel) ?_ | refine WC.draw 9 rfl (by decide +kernel) ?_ | refine WC.draw 10 rfl (by decide +kernel) ?_ | refine WC.draw 11 rfl (by decide +kernel) ?_ | refine WC.draw 12 rfl (by decide +kernel) ?_ | refine WC.draw 13 rfl (by decide +kernel) ?_ | refine WC.draw 14 rfl (by decide +kernel) ?_ | refine WC.draw 15 rfl (by decide +kernel) ?_ | refine WC.draw 16 rfl (by decide +kernel) ?_ | refine WC.draw 17 rfl (by decide +kernel) ?_ | refine WC.draw 18 rfl (by decide +kernel) ?_ | refine WC.draw 19 rfl (by decide +kernel) ?_ | refine WC.draw 20 rfl (by decide +kernel) ?_ | refine WC.draw 21 rfl (by decide +kernel) ?_ | refine WC.draw 22 rfl (by decide +kernel) ?_ | refine WC.draw 23 rfl (by decide +kernel) ?_ | refine WC.draw 24 rfl (by decide +kernel) ?_)); (repeat (refine WD.cons rfl (fun c h => by cases h) sq_D38_1 ?_)); refine WD.nil ?_)); (try (refine st ?_; (repeat intro zzc)))))) | ((first | (refine WL.append1 (by':=40) rfl rfl rfl rfl (by (repeat (first | exact Out.here | apply Out.there))) zhs (by exact rfl) (by exact rfl) (by exact rfl) (by exact rfl) (by exact rfl) (by exact rfl) (by first | exact rfl | omega) (by first | omega | (simp; omega)) (by decide) (by exact rfl) ?_; intro zzc zzc) | ((refine iDraw ?_; (first | refine WC.drawAll rfl (by decide +kernel) ?_ | refine WC.draw 1 rfl (by decide +kernel) ?_ | refine WC.draw 2 rfl (by decide +kernel) ?_ | refine WC.draw 3 rfl (by decide +kernel) ?_ | refine WC.draw 4 rfl (by decide +kernel) ?_ | refine WC.draw 5 rfl (by decide +kernel) ?_ | refine WC.draw 6 rfl (by decide +kernel) ?_ | refine WC.draw 7 rfl (by decide +kernel) ?_ | refine WC.draw 8 rfl (by decide +kernel) ?_ | refine WC.draw 9 rfl (by decide +kernel) ?_ | refine WC.draw 10 rfl (by decide +kernel) ?_ | refine WC.draw 11 rfl (by decide +kernel) ?_ | refine WC.draw 12 rfl (by decide +kernel) ?_ | refine WC.draw 13 rfl (by decide +kernel) ?_ | refine WC.draw 14 rfl (by decide +kernel) ?_ | refine WC.draw 15 rfl (by decide +kernel) ?_ | refine WC.draw 16 rfl (by decide +kernel) ?_ | refine WC.draw 17 rfl (by decide +kernel) ?_ | refine WC.draw 18 rfl (by decide +kernel) ?_ | refine WC.draw 19 rfl (by decide +kernel) ?_ | refine WC.draw 20 rfl (by decide +kernel) ?_ | refine WC.draw 21 rfl (by decide +kernel) ?_ | refine WC.draw 22 rfl (by decide +kernel) ?_ | refine WC.draw 23 rfl (by decide +kernel) ?_ | refine WC.draw 24 rfl (by decide +kernel) ?_)); (repeat (refine WD.cons rfl (fun c h => by cases h) sq_D38_1 ?_)); refine WD.nil ?_)); (try (refine st ?_; (repeat intro zzc))))); (repeat ((first | (refine WL.append1 (by':=40) rfl rfl rfl rfl (by (repeat (first | exact Out.here | apply Out.there))) zhs (by exact rfl) (by exact rfl) (by exact rfl) (by exact rfl) (by exact rfl) (by exact rfl) (by first | exact rfl | omega) (by first | omega | (simp; omega)) (by decide) (by exact rfl) ?_; intro zzc zzc) | ((refine iDraw ?_; (first | refine WC.drawAll rfl (by decide +kernel) ?_ | refine WC.draw 1 rfl (by decide +kernel) ?_ | refine WC.draw 2 rfl (by decide +kernel) ?_ | refine WC.draw 3 rfl (by decide +kernel) ?_ | refine WC.draw 4 rfl (by decide +kernel) ?_ | refine WC.draw 5 rfl (by decide +kernel) ?_ | refine WC.draw 6 rfl (by decide +kernel) ?_ | refine WC.draw 7 rfl (by decide +kernel) ?_ | refine WC.draw 8 rfl (by decide +kernel) ?_ | refine WC.draw 9 rfl (by decide +kernel) ?_ | refine WC.draw 10 rfl (by decide +kernel) ?_ | refine WC.draw 11 rfl (by decide +kernel) ?_ | refine WC.draw 12 rfl (by decide +kernel) ?_ | refine WC.draw 13 rfl (by decide +kernel) ?_ | refine WC.draw 14 rfl (by decide +kernel) ?_ | refine WC.draw 15 rfl (by decide +kernel) ?_ | refine WC.draw 16 rfl (by decide +kernel) ?_ | refine WC.draw 17 rfl (by decide +kernel) ?_ | refine WC.draw 18 rfl (by decide +kernel) ?_ | refine WC.draw 19 rfl (by decide +kernel) ?_ | refine WC.draw 20 rfl (by decide +kernel) ?_ | refine WC.draw 21 rfl (by decide +kernel) ?_ | refine WC.draw 22 rfl (by decide +kernel) ?_ | refine WC.draw 23 rfl (by decide +kernel) ?_ | refine WC.draw 24 rfl (by decide +kernel) ?_)); (repeat (refine WD.cons rfl (fun c h => by cases h) sq_D38_1 ?_)); refine WD.nil ?_)); (try (refine st ?_; (repeat intro zzc))))); (repeat revert zzc); exact zzn.out) : G := h ⟨next⟩
theorem rput_any {L : List Stp} {x : Stp} {a : Option Addr} {cap : Nat} (hL : L.length ≤ 4194304) (w0 : World) (m : Mem) (H : SHeap) :
    Does Try.prog 35 #[.slice a L.length cap, .agg #[.int .i64 x.k, str x.d, str x.p]] w0 m (.row a cap 81 3 (L.map Stp.cs) :: H)
      (fun v m' H' => m' = m ∧ ∃ a2 cap2, v = .slice a2 (L ++ oneS x).length cap2 ∧ H' = .row a2 cap2 81 3 ((L ++ oneS x).map Stp.cs) :: H) := by
  refine Does.of_body (args := [.slice a L.length cap, .agg #[.int .i64 x.k, str x.d, str x.p]]) Try.func35 rfl Try.ntmps35 rfl ?_
  have hLm : (L.map Stp.cs).length = L.length := List.length_map _
  by_cases h : 0 < x.k ∨ x.d ≠ [] ∨ x.p ≠ []
  · have hc : 0 < x.k ∨ (¬ 0 < x.k ∧ (x.d ≠ [] ∨ (x.d = [] ∧ x.p ≠ []))) := by
      by_cases h1 : 0 < x.k
      · exact .inl h1
      · by_cases h2 : x.d = []
        · rcases h with h | h | h
          · exact absurd h h1
          · exact absurd h2 h
          · exact .inr ⟨h1, .inr ⟨h2, h⟩⟩
        · exact .inr ⟨h1, .inl h2⟩
    rw [show oneS x = [x] from if_pos h]
    clear h
    have hl1 : L.length + 1 = (L ++ [x]).length := by simp
    have hm1 : L.map Stp.cs ++ [[.int .i64 x.k, str x.d, str x.p]] = (L ++ [x]).map Stp.cs := by simp [Stp.cs]
    rcases hc with h1 | ⟨h1, h2 | ⟨h2, h3⟩⟩
    all_goals
      (refine st_D38_1 ?_; intros; rename_i bx b9 a2 c2)
      rw [hLm, hl1, hm1]
      exact q_fin0 (H0 := .row a2 c2 81 3 ((L ++ [x]).map Stp.cs) :: H) ⟨rfl, a2, c2, rfl, rfl⟩ (hd := zpk)
  · rw [show oneS x = [] from if_neg h, List.append_nil]
    have h1 : ¬ 0 < x.k := fun g => h (.inl g)
    have h2 : x.d = [] := Decidable.not_not.1 fun g => h (.inr (.inl g))
    have h3 : x.p = [] := Decidable.not_not.1 fun g => h (.inr (.inr g))
    (refine st_D38_1 ?_; intros; rename_i bx)
    exact q_fin0 (H0 := .row a cap 81 3 (L.map Stp.cs) :: H) ⟨rfl, a, cap, rfl, rfl⟩ (hd := zpk)
end Go.Proofs.Ytieangfnjflfmaa

/-
  The walk of the reference's Change: its loop. No condition.
-/
namespace Go.Proofs.Ytieangfnjflfmaa
open Go Go.Eng
set_option maxRecDepth 100000
set_option maxHeartbeats 4000000
set_option linter.all false
attribute [local irreducible] WL WC WQ QFun QLoop Does Q1 QRound QAssign Go.Addr.add
attribute [local irreducible] strs jn putT dropT chGo oneS
theorem sq_D39_1 {G : Prop} (h : G := by (repeat (first | (refine sp ?_; (repeat intro zzc)) | (refine WL.indexAddrA rfl rfl (by (first | with_reducible exact natz _ | with_reducible exact natz0 | with_reducible exact natz1 | with_reducible exact natz2 | with_reducible exact natz3 | with_reducible exact natz4 | with_reducible exact natz8 | (apply natz_add; (· first | with_reducible exact natz _ | with_reducible exact natz0 | with_reducible exact natz1 | with_reducible exact natz2 | with_reducible exact natz3 | with_reducible exact natz4 | with_reducible exact natz8); (· first | with_reducible exact natz _ | with_reducible exact natz0 | with_reducible exact natz1 | with_reducible exact natz2 | with_reducible exact natz3 | with_reducible exact natz4 | with_reducible exact natz8)) | (apply natz_sub; (· first | with_reducible exact natz _ | with_reducible exact natz0 | with_reducible exact natz1 | with_reducible exact natz2 | with_reducible exact natz3 | with_reducible exact natz4 | with_reducible exact natz8); (· first | with_reducible exact natz _ | with_reducible exact natz0 | with_reducible exact natz1 | with_reducible exact natz2 | with_reducible exact natz3 | with_reducible exact natz4 | with_reducible exact natz8); (· omega)) | exact (Int.toNat_of_nonneg (by omega)).symm)) rfl rfl (by omega) rfl rfl ?_))); exact WQ.q1 rfl) : G := h
theorem st_D39_1 {G G' : Prop} (next : G') (h : Bx G' → G := by intro zzn; (first | ((refine st ?_; (repeat intro zzc)); (try ((first | (refine WL.indexAddrA rfl rfl (by (first | with_reducible exact natz _ | with_reducible exact natz0 | with_reducible exact natz1 | with_reducible exact natz2 | with_reducible exact natz3 | with_reducible exact natz4 | with_reducible exact natz8 | (apply natz_add; (· first | with_reducible exact natz _ | with_reducible exact natz0 | with_reducible exact natz1 | with_reducible exact natz2 | with_reducible exact natz3 | with_reducible exact natz4 | with_reducible exact natz8); (· first | with_reducible exact natz _ | with_reducible exact natz0 | with_reducible exact natz1 | with_reducible exact natz2 | with_reducible exact natz3 | with_reducible exact natz4 | with_reducible exact natz8)) | (apply natz_sub; (· first | with_reducible exact natz _ | with_reducible exact natz0 | with_reducible exact natz1 | with_reducible exact natz2 | with_reducible exact natz3 | with_reducible exact natz4 | with_reducible exact natz8); (· first | with_reducible exact natz _ | with_reducible exact natz0 | with_reducible exact natz1 | with_reducible exact natz2 | with_reducible exact natz3 | with_reducible exact natz4 | with_reducible exact natz8); (· omega)) | exact (Int.toNat_of_nonneg (by omega)).symm)) rfl rfl (by omega) rfl rfl ?_) | ((refine iDraw ?_; (first | refine WC.drawAll rfl (by decide +kernel) ?_ | refine WC.draw 1 rfl (by decide +kernel) ?_ | refine WC.draw 2 rfl (by decide +kernel) ?_ | refine WC.draw 3 rfl (by decide +kernel) ?_ | refine WC.draw 4 rfl (by decide +kernel) ?_ | refine WC.draw 5 rfl (by decide +kernel) ?_ | refine WC.draw 6 rfl (by decide +kernel) ?_ | refine WC.draw 7 rfl (by decide +kernel) ?_ | refine WC.draw 8 rfl (by decide +kernel) ?_ | refine WC.draw 9 rfl (by decide +kernel) ?_ | refine WC.draw 10 rfl (by decide +kernel) ?_ | refine WC.draw 11 rfl (by decide +kernel) ?_ | refine WC.draw 12 rfl (by decide +kernel) ?_ | refine WC.draw 13 rfl (by decide +kernel) ?_ | refine WC.draw 14 rfl (by decide +kernel) ?_ | refine WC.draw 15 rfl (by decide +kernel) ?_ | refine WC.draw 16 rfl (by decide +kernel) ?_ | refine WC.draw 17 rfl (by decide +kernel) ?_ | refine WC.draw 18 rfl (by decide +kernel) ?_ | refine WC.draw 19 rfl (by decide +kernel) ?_ | refine WC.draw 20 rfl (by decide +kernel) ?_ | refine WC.draw 21 rfl (by decide +kernel) ?_ | refine WC.draw 22 rfl (by decide +kernel) ?_ | refine WC.draw 23 rfl (by decide +kernel) ?_ | refine WC.draw 24 rfl (by decide +kernel) ?_)); (repeat (refine WD.cons rfl (fun c h => by cases h) sq_D39_1 ?_)); refine WD.nil ?_)); (try (refine st ?_; (repeat intro zzc)))))) | ((first | (refine WL.indexAddrA rfl rfl (by (first | with_reducible exact natz _ | with_reducible exact natz0 | with_reducible exact natz1 | with_reducible exact natz2 | with_reducible exact natz3 | with_reducible exact natz4 | with_reducible exact natz8 | (apply natz_add; (· first | with_reducible exact natz _ | with_reducible exact natz0 | with_reducible exact natz1 | with_reducible exact natz2 | with_reducible exact natz3 | with_reducible exact natz4 | with_reducible exact natz8); (· first | with_reducible exact natz _ | with_reducible exact natz0 | with_reducible exact natz1 | with_reducible exact natz2 | with_reducible exact natz3 | with_reducible exact natz4 | with_reducible exact natz8)) | (apply natz_sub; (· first | with_reducible exact natz _ | with_reducible exact natz0 | with_reducible exact natz1 | with_reducible exact natz2 | with_reducible exact natz3 | with_reducible exact natz4 | with_reducible exact natz8); (· first | with_reducible exact natz _ | with_reducible exact natz0 | with_reducible exact natz1 | with_reducible exact natz2 | with_reducible exact natz3 | with_reducible exact natz4 | with_reducible exact natz8); (· omega)) | exact (Int.toNat_of_nonneg (by omega)).symm)) rfl rfl (by omega) rfl rfl ?_) | ((refine iDraw ?_; (first | refine WC.drawAll rfl (by decide +kernel) ?_ | refine WC.draw 1 rfl (by decide +kernel) ?_ | refine WC.draw 2 rfl (by decide +kernel) ?_ | refine WC.draw 3 rfl (by decide +kernel) ?_ | refine WC.draw 4 rfl (by decide +kernel) ?_ | refine WC.draw 5 rfl (by decide +kernel) ?_ | refine WC.draw 6 rfl (by decide +kernel) ?_ | refine WC.draw 7 rfl (by decide +kernel) ?_ | refine WC.draw 8 rfl (by decide +kernel) ?_ | refine WC.draw 9 rfl (by decide +kernel) ?_ | refine WC.draw 10 rfl (by decide +kernel) ?_ | refine WC.draw 11 rfl (by decide +kernel) ?_ | refine WC.draw 12 rfl (by decide +kernel) ?_ | refine WC.draw 13 rfl (by decide +kernel) ?_ | refine WC.draw 14 rfl (by decide +kernel) ?_ | refine WC.draw 15 rfl (by decide +kernel) ?_ | refine WC.draw 16 rfl (by decide +kernel) ?_ | refine WC.draw 17 rfl (by decide +kernel) ?_ | refine WC.draw 18 rfl (by decide +kernel) ?_ | refine WC.draw 19 rfl (by decide +kernel) ?_ | refine WC.draw 20 rfl (by decide +kernel) ?_ | refine WC.draw 21 rfl (by decide +kernel) ?_ | refine WC.draw 22 rfl (by decide +kernel) ?_ | refine WC.draw 23 rfl (by decide +kernel) ?_ | refine WC.draw 24 rfl (by decide +kernel) ?_)); (repeat (refine WD.cons rfl (fun c h => by cases h) sq_D39_1 ?_)); refine WD.nil ?_)); (try (refine st ?_; (repeat intro zzc))))); (repeat ((first | (refine WL.indexAddrA rfl rfl (by (first | with_reducible exact natz _ | with_reducible exact natz0 | with_reducible exact natz1 | with_reducible exact natz2 | with_reducible exact natz3 | with_reducible exact natz4 | with_reducible exact natz8 | (apply natz_add; (· first | with_reducible exact natz _ | with_reducible exact natz0 | with_reducible exact natz1 | with_reducible exact natz2 | with_reducible exact natz3 | with_reducible exact natz4 | with_reducible exact natz8); (· first | with_reducible exact natz _ | with_reducible exact natz0 | with_reducible exact natz1 | with_reducible exact natz2 | with_reducible exact natz3 | with_reducible exact natz4 | with_reducible exact natz8)) | (apply natz_sub; (· first | with_reducible exact natz _ | with_reducible exact natz0 | with_reducible exact natz1 | with_reducible exact natz2 | with_reducible exact natz3 | with_reducible exact natz4 | with_reducible exact natz8); (· first | with_reducible exact natz _ | with_reducible exact natz0 | with_reducible exact natz1 | with_reducible exact natz2 | with_reducible exact natz3 | with_reducible exact natz4 | with_reducible exact natz8); (· omega)) | exact (Int.toNat_of_nonneg (by omega)).symm)) rfl rfl (by omega) rfl rfl ?_) | ((refine iDraw ?_; (first | refine WC.drawAll rfl (by decide +kernel) ?_ | refine WC.draw 1 rfl (by decide +kernel) ?_ | refine WC.draw 2 rfl (by decide +kernel) ?_ | refine WC.draw 3 rfl (by decide +kernel) ?_ | refine WC.draw 4 rfl (by decide +kernel) ?_ | refine WC.draw 5 rfl (by decide +kernel) ?_ | refine WC.draw 6 rfl (by decide +kernel) ?_ | refine WC.draw 7 rfl (by decide +kernel) ?_ | refine WC.draw 8 rfl (by decide +kernel) ?_ | refine WC.draw 9 rfl (by decide +kernel) ?_ | refine WC.draw 10 rfl (by decide +kernel) ?_ | refine WC.draw 11 rfl (by decide +kernel) ?_ | refine WC.draw 12 rfl (by decide +kernel) ?_ | refine WC.draw 13 rfl (by decide +kernel) ?_ | refine WC.draw 14 rfl (by decide +kernel) ?_ | refine WC.draw 15 rfl (by decide +kernel) ?_ | refine WC.draw 16 rfl (by decide +kernel) ?_ | refine WC.draw 17 rfl (by decide +kernel) ?_ | refine WC.draw 18 rfl (by decide +kernel) ?_ | refine WC.draw 19 rfl (by decide +kernel) ?_ | refine WC.draw 20 rfl (by decide +kernel) ?_ | refine WC.draw 21 rfl (by decide +kernel) ?_ | refine WC.draw 22 rfl (by decide +kernel) ?_ | refine WC.draw 23 rfl (by decide +kernel) ?_ | refine WC.draw 24 rfl (by decide +kernel) ?_)); (repeat (refine WD.cons rfl (fun c h => by cases h) sq_D39_1 ?_)); refine WD.nil ?_)); (try (refine st ?_; (repeat intro zzc))))); (repeat revert zzc); exact zzn.out) : G := h ⟨next⟩
theorem rchange_loop {X Y : List Tx} {M : List (Nat × Nat)} {F : List Stp} {cx cy cp : Nat} {ax ay a : Option Addr} {w0 : World} {m : Mem} {H : SHeap} {Q : Exit → Act → World → Prop}
    (hX : X.length ≤ 65536 ∧ X.flatten.length ≤ 65536 ∧ X.length ≤ cx) (hY : Y.length ≤ 65536 ∧ Y.flatten.length ≤ 65536 ∧ Y.length ≤ cy) (hXn : ∀ t ∈ X, t ≠ []) (hM : PrOk X Y 0 0 M X.length Y.length) (hMl : M.length ≤ 65536) (hF : chGo X Y M 0 0 = F)
    (hK : ∀ (ac : Option Addr) (cc : Nat), WQ 73 w0 Q (.exit 0) [(7, .slice ac F.length cc)] [] m (.row ac cc 81 3 (F.map Stp.cs) :: H)) :
    WC Try.prog none 73 w0 ((loopsIn (Try.f17.body.getD .skip)).getD 0 .skip) Q [(27, .int .i64 0), (26, .int .i64 ((M.length + 1 : Nat) : Int)), (25, .slice a (M.length + 1) cp), (8, .int .i64 0), (9, .int .i64 0), (7, .slice none 0 0), (5, .slice ax X.length cx), (6, .slice ay Y.length cy)] [] m
      (.row ax cx 9 1 (strs X) :: .row ay cy 9 1 (strs Y) :: .row none 0 81 3 (([] : List Stp).map Stp.cs) :: .row a cp 44 2 ((M ++ [(X.length, Y.length)]).map prE) :: H) := by
  have hXs : (strs X).length = X.length := by simp [strs]
  have hml : ((M ++ [(X.length, Y.length)]).map prE).length = M.length + 1 := by simp
  refine WC.loopH [(27, .int .i64 ((0) : Int)), (26, .int .i64 ((M.length + 1 : Nat) : Int)), (25, .slice a (M.length + 1) cp), (8, .int .i64 ((0) : Int)), (9, .int .i64 ((0) : Int)), (7, .slice (none) (([] : List Stp)).length (0)), (5, .slice ax X.length cx), (6, .slice ay Y.length cy)] ?_ ?_ (fun j r ds m' H' => ∃ (q : Nat) (i : Nat) (k : Nat) (L : List Stp) (ac : Option Addr) (cc : Nat), j = M.length + 1 - q ∧ r = [(27, .int .i64 (q : Int)), (26, .int .i64 ((M.length + 1 : Nat) : Int)), (25, .slice a (M.length + 1) cp), (8, .int .i64 (i : Int)), (9, .int .i64 (k : Int)), (7, .slice ac L.length cc), (5, .slice ax X.length cx), (6, .slice ay Y.length cy)] ∧ ds = [] ∧ m = m' ∧ H' = .row ax cx 9 1 (strs X) :: .row ay cy 9 1 (strs Y) :: .row ac cc 81 3 (L.map Stp.cs) :: .row a cp 44 2 ((M ++ [(X.length, Y.length)]).map prE) :: H ∧ (q ≤ M.length + 1) ∧ ((q ≤ M.length ∧ PrOk X Y i k (M.drop q) X.length Y.length ∧ L ++ chGo X Y (M.drop q) i k = F) ∨ (q = M.length + 1 ∧ L = F)) ∧ (L.length ≤ 3 * q)) (M.length + 1 - (0)) ⟨0, 0, 0, ([] : List Stp), none, 0, rfl, rfl, rfl, rfl, rfl, Nat.zero_le _, .inl ⟨Nat.zero_le _, hM, hF⟩, Nat.zero_le _⟩ ?_
  · (repeat (first | exact Env.Sub.nil | refine Env.Sub.cons rfl ?_))
  · exact zpk
  rintro j r ds m' H' ⟨q, i, k, L, ac, cc, rfl, rfl, rfl, rfl, rfl, hq, hgo, hL⟩
  have hLm : (L.map Stp.cs).length = L.length := List.length_map _
  by_cases hlt : q < M.length
  · obtain ⟨_, hP, hgo⟩ : q ≤ M.length ∧ PrOk X Y i k (M.drop q) X.length Y.length ∧ L ++ chGo X Y (M.drop q) i k = F := by
      rcases hgo with h | h
      · exact h
      · omega
    obtain ⟨p, hp⟩ : ∃ p, M[q]? = some p := ⟨_, List.getElem?_eq_getElem hlt⟩
    have hdr : M.drop q = p :: M.drop (q + 1) := by
      obtain ⟨h1, h2⟩ := List.getElem?_eq_some_iff.1 hp
      rw [List.drop_eq_getElem_cons h1, h2]
    rw [hdr] at hP hgo
    obtain ⟨h1, h2, h3, h4, ⟨t, e1, e2⟩, h6⟩ := hP
    have hgt := strs_get e1
    have htn := hXn t (List.mem_of_getElem? e1)
    have htl : t.length ≤ 65536 := by have := mem_le_flat (List.mem_of_getElem? e1); omega
    have hgp : ((M ++ [(X.length, Y.length)]).map prE)[q]? = some [.int .i64 (p.1 : Int), .int .i64 (p.2 : Int)] := by rw [List.getElem?_map, List.getElem?_append_left hlt, hp]; rfl
    rw [chGo_cons, getD_of e1] at hgo
    generalize hME : (M ++ [(X.length, Y.length)]).map prE = ME at *
    refine WC.rowSome (a := a) (es := ME) zhs (by omega) ?_
    rintro a0 rfl
    refine WC.rowSome (a := ax) (es := strs X) zhs (by omega) ?_
    rintro x0 rfl
    (refine st_D39_1 ?_; intros; rename_i bp)
    refine w_callF Try.func27 ?_ (hs := joinSub_any (l := Y) zhs ⟨h2, by omega⟩ (by omega) (by omega))
    rintro v m9 H9 ⟨rfl, rfl, rfl⟩
    have hp1 := putT_le (jn Y k (p.2))
    have hp2 := dropT_le (jn X i (p.1))
    generalize jn Y k (p.2) = tY at *
    (try (refine st_D39_1 ?_; intros))
    refine WL.heap (H' := .row ac cc 81 3 (L.map Stp.cs) :: (.blk bp (.cells [.int .i64 ((p.1 : Nat) : Int), .int .i64 ((p.2 : Nat) : Int)].toArray 44 (0, 0)) :: .row (some x0) cx 9 1 (strs X) :: .row ay cy 9 1 (strs Y) :: .row (some a0) cp 44 2 ME :: H)) zpk ?_
    refine w_callF Try.func35 ?_ (hs := rput_any (L := L) (x := ⟨0, [], tY⟩) (by omega) _ _ _)
    rintro v m9 H9 ⟨rfl, ac1, cc1, rfl, rfl⟩
    rw [oneS_put]
    obtain ⟨L1, hL1⟩ : ∃ L1, L1 = L ++ putT tY := ⟨_, rfl⟩
    have hl1 := congrArg List.length hL1
    rw [List.length_append] at hl1
    rw [← hL1]
    (try (refine st_D39_1 ?_; intros))
    refine w_callF Try.func27 ?_ (hs := joinSub_any (l := X) zhs ⟨h1, by omega⟩ (by omega) (by omega))
    rintro v m9 H9 ⟨rfl, rfl, rfl⟩
    generalize jn X i (p.1) = tX at *
    (try (refine st_D39_1 ?_; intros))
    refine WL.heap (H' := .row ac1 cc1 81 3 (L1.map Stp.cs) :: (.blk bp (.cells [.int .i64 ((p.1 : Nat) : Int), .int .i64 ((p.2 : Nat) : Int)].toArray 44 (0, 0)) :: .row (some x0) cx 9 1 (strs X) :: .row ay cy 9 1 (strs Y) :: .row (some a0) cp 44 2 ME :: H)) zpk ?_
    refine w_callF Try.func35 ?_ (hs := rput_any (L := L1) (x := ⟨0, tX, []⟩) (by omega) _ _ _)
    rintro v m9 H9 ⟨rfl, ac2, cc2, rfl, rfl⟩
    rw [oneS_drop]
    obtain ⟨L2, hL2⟩ : ∃ L2, L2 = L1 ++ dropT tX := ⟨_, rfl⟩
    have hl2 := congrArg List.length hL2
    rw [List.length_append] at hl2
    rw [← hL2]
    rw [show L ++ (putT tY ++ (dropT tX ++ (keepT t ++ chGo X Y (M.drop (q + 1)) (p.1 + 1) (p.2 + 1)))) = (L2 ++ keepT t) ++ chGo X Y (M.drop (q + 1)) (p.1 + 1) (p.2 + 1) by rw [hL2, hL1]; simp] at hgo
    clear hL2 hL1
    (try (refine st_D39_1 ?_; intros))
    refine WL.heap (H' := .row ac2 cc2 81 3 (L2.map Stp.cs) :: (.blk bp (.cells [.int .i64 (p.1 : Int), .int .i64 (p.2 : Int)].toArray 44 (0, 0)) :: .row (some x0) cx 9 1 (strs X) :: .row ay cy 9 1 (strs Y) :: .row (some a0) cp 44 2 ME :: H)) zpk ?_
    refine w_callF Try.func35 ?_ (hs := rput_any (L := L2) (x := ⟨(t.length : Int), [], []⟩) (by omega) _ _ _)
    rintro v m9 H9 ⟨rfl, ac3, cc3, rfl, rfl⟩
    rw [oneS_keep htn]
    have hl3 : (L2 ++ keepT t).length = L2.length + 1 := by unfold keepT; simp
    generalize L2 ++ keepT t = L3 at *
    (try (refine st_D39_1 ?_; intros))
    subst hME
    rw [show (p.1 : Int) + 1 = ((p.1 + 1 : Nat) : Int) by omega, show (p.2 : Int) + 1 = ((p.2 + 1 : Nat) : Int) by omega]
    refine WQ.next (M.length + 1 - (q + 1)) ⟨q + 1, p.1 + 1, p.2 + 1, L3, ac3, cc3, rfl, rfl, rfl, rfl, rfl, ?_, ?_, ?_⟩ (by omega) zsb zpk
    · omega
    · exact .inl ⟨by omega, h6, hgo⟩
    · omega
  · by_cases hqe : q = M.length
    · obtain ⟨_, hP, hgo⟩ : q ≤ M.length ∧ PrOk X Y i k (M.drop q) X.length Y.length ∧ L ++ chGo X Y (M.drop q) i k = F := by
        rcases hgo with h | h
        · exact h
        · omega
      have hle := hP.le
      have hd : M.drop q = [] := List.drop_of_length_le (by omega)
      rw [hd, show chGo X Y [] i k = putT (jn Y k Y.length) ++ dropT (jn X i X.length) from by unfold chGo; rfl] at hgo
      have hgp : ((M ++ [(X.length, Y.length)]).map prE)[q]? = some [.int .i64 (X.length : Int), .int .i64 (Y.length : Int)] := by rw [List.getElem?_map, hqe, List.getElem?_concat_length]; rfl
      generalize hME : (M ++ [(X.length, Y.length)]).map prE = ME at *
      refine WC.rowSome (a := a) (es := ME) zhs (by omega) ?_
      rintro a0 rfl
      (refine st_D39_1 ?_; intros; rename_i bp)
      refine w_callF Try.func27 ?_ (hs := joinSub_any (l := Y) zhs ⟨hle.2, by omega⟩ (by omega) (by omega))
      rintro v m9 H9 ⟨rfl, rfl, rfl⟩
      have hp1 := putT_le (jn Y k (Y.length))
      have hp2 := dropT_le (jn X i (X.length))
      generalize jn Y k (Y.length) = tY at *
      (try (refine st_D39_1 ?_; intros))
      refine WL.heap (H' := .row ac cc 81 3 (L.map Stp.cs) :: (.blk bp (.cells [.int .i64 ((X.length : Nat) : Int), .int .i64 ((Y.length : Nat) : Int)].toArray 44 (0, 0)) :: .row ax cx 9 1 (strs X) :: .row ay cy 9 1 (strs Y) :: .row (some a0) cp 44 2 ME :: H)) zpk ?_
      refine w_callF Try.func35 ?_ (hs := rput_any (L := L) (x := ⟨0, [], tY⟩) (by omega) _ _ _)
      rintro v m9 H9 ⟨rfl, ac1, cc1, rfl, rfl⟩
      rw [oneS_put]
      obtain ⟨L1, hL1⟩ : ∃ L1, L1 = L ++ putT tY := ⟨_, rfl⟩
      have hl1 := congrArg List.length hL1
      rw [List.length_append] at hl1
      rw [← hL1]
      (try (refine st_D39_1 ?_; intros))
      refine w_callF Try.func27 ?_ (hs := joinSub_any (l := X) zhs ⟨hle.1, by omega⟩ (by omega) (by omega))
      rintro v m9 H9 ⟨rfl, rfl, rfl⟩
      generalize jn X i (X.length) = tX at *
      (try (refine st_D39_1 ?_; intros))
      refine WL.heap (H' := .row ac1 cc1 81 3 (L1.map Stp.cs) :: (.blk bp (.cells [.int .i64 ((X.length : Nat) : Int), .int .i64 ((Y.length : Nat) : Int)].toArray 44 (0, 0)) :: .row ax cx 9 1 (strs X) :: .row ay cy 9 1 (strs Y) :: .row (some a0) cp 44 2 ME :: H)) zpk ?_
      refine w_callF Try.func35 ?_ (hs := rput_any (L := L1) (x := ⟨0, tX, []⟩) (by omega) _ _ _)
      rintro v m9 H9 ⟨rfl, ac2, cc2, rfl, rfl⟩
      rw [oneS_drop]
      obtain ⟨L2, hL2⟩ : ∃ L2, L2 = L1 ++ dropT tX := ⟨_, rfl⟩
      have hl2 := congrArg List.length hL2
      rw [List.length_append] at hl2
      rw [← hL2]
      rw [← List.append_assoc, ← hL1, ← hL2] at hgo
      clear hL2 hL1
      (try (refine st_D39_1 ?_; intros))
      subst hME
      rw [show (X.length : Int) + 1 = ((X.length + 1 : Nat) : Int) by omega, show (Y.length : Int) + 1 = ((Y.length + 1 : Nat) : Int) by omega]
      refine WQ.next (M.length + 1 - (q + 1)) ⟨q + 1, X.length + 1, Y.length + 1, L2, ac2, cc2, rfl, rfl, rfl, rfl, rfl, ?_, ?_, ?_⟩ (by omega) zsb zpk
      · omega
      · exact .inr ⟨by omega, hgo⟩
      · omega
    · obtain ⟨hq2, rfl⟩ : q = M.length + 1 ∧ L = F := by
        rcases hgo with h | h
        · omega
        · exact h
      have hfin := hK ac cc
      (try (refine st_D39_1 ?_; intros))
      exact WQ.weak zsb zpk hfin
end Go.Proofs.Ytieangfnjflfmaa

/-
  The walks of package edit, fifth part: the end of the maker of the reference. No condition.
-/
namespace Go.Proofs.Ytieangfnjflfmaa
open Go Go.Eng
set_option maxRecDepth 100000
set_option maxHeartbeats 4000000
set_option linter.all false
attribute [local irreducible] WL WC WQ QFun QLoop Does Q1 QRound QAssign Go.Addr.add
theorem mkEnd_any {b : Nat} {c : Option Addr} {cp : Nat} (B : Bld) (hB : B.l.length ≤ 1000000000000) (w0 : World) (m : Mem) (H : SHeap) :
    Does Try.prog 52 #[.pointer (some ⟨b, 0, none⟩)] w0 m (.blk b (.cells [.slice c B.l.length cp, str B.p, str B.d].toArray 117 (0, 0)) :: .row c cp 81 3 (B.l.map Stp.cs) :: H)
      (fun v m' H' => v = .tuple #[] ∧ m' = m ∧ ∃ c' cp', H' = .blk b (.cells [.slice c' B.close.l.length cp', str [], str []].toArray 117 (0, 0)) :: .row c' cp' 81 3 (B.close.l.map Stp.cs) :: H) := by
  refine Does.of_body (args := [.pointer (some ⟨b, 0, none⟩)]) Try.func52 rfl Try.ntmps52 rfl ?_
  have hml : (B.l.map Stp.cs).length = B.l.length := by simp
  by_cases hp : B.p = [] <;> by_cases hd : B.d = []
  · (try (refine st ?_; intros))
    have e : B.close.l = B.l := by simp [Bld.close, hp, hd]
    rw [hp, hd]
    exact q_finNorm0 (H0 := .blk b (.cells [.slice c B.l.length cp, str [], str []].toArray 117 (0, 0)) :: .row c cp 81 3 (B.l.map Stp.cs) :: H) ⟨rfl, rfl, c, cp, by rw [e]⟩ (hd := zpk)
  · (try (refine st ?_; intros))
    refine WC.drawE 14 ([.blk b (.cells [.slice c B.l.length cp, str B.p, str B.d].toArray 117 (0, 0))]) (.row c cp 81 3 (B.l.map Stp.cs) :: H) rfl (by decide +kernel) zpk ?_
    (refine cm0 ?_)
    refine WE.act1 10 (by decide +kernel) rfl rfl (fun c h => by cases h) ?_
    (refine st ?_; intros; rename_i q0)
    refine WQ.acted (B := []) (U := .blk q0 (.cells [.int .i64 0, str B.d, str []].toArray 81 (0, 0)) :: .row c cp 81 3 (B.l.map Stp.cs) :: H) rfl (Mem.le.refl _) zpk ?_
    refine WE.act1 11 (by decide +kernel) rfl rfl (fun c h => by cases h) ?_
    (refine st ?_; intros; rename_i c2 cp2)
    refine WQ.acted (B := []) (U := .row c2 cp2 81 3 (B.l.map Stp.cs ++ [[.int .i64 0, str B.d, str []]]) :: H) rfl (Mem.le.refl _) zpk ?_
    (refine cm0 ?_)
    refine WE.done (by decide +kernel) ?_
    (try (refine st ?_; intros))
    rw [hml, hp]
    have e : B.close.l = B.l ++ [⟨0, B.d, []⟩] := by simp [Bld.close, hp, hd]
    exact q_finNorm0 (H0 := .blk b (.cells [.slice c2 (B.l.length + 1) cp2, str [], str []].toArray 117 (0, 0)) :: .row c2 cp2 81 3 (B.l.map Stp.cs ++ [[.int .i64 0, str B.d, str []]]) :: H) ⟨rfl, rfl, c2, cp2, by rw [e]; simp [Stp.cs]⟩ (hd := zpk)
  · (try (refine st ?_; intros))
    refine WC.drawE 14 ([.blk b (.cells [.slice c B.l.length cp, str B.p, str B.d].toArray 117 (0, 0))]) (.row c cp 81 3 (B.l.map Stp.cs) :: H) rfl (by decide +kernel) zpk ?_
    (refine cm0 ?_)
    refine WE.act1 10 (by decide +kernel) rfl rfl (fun c h => by cases h) ?_
    (refine st ?_; intros; rename_i q0)
    refine WQ.acted (B := []) (U := .blk q0 (.cells [.int .i64 0, str [], str B.p].toArray 81 (0, 0)) :: .row c cp 81 3 (B.l.map Stp.cs) :: H) rfl (Mem.le.refl _) zpk ?_
    refine WE.act1 11 (by decide +kernel) rfl rfl (fun c h => by cases h) ?_
    (refine st ?_; intros; rename_i c2 cp2)
    refine WQ.acted (B := []) (U := .row c2 cp2 81 3 (B.l.map Stp.cs ++ [[.int .i64 0, str [], str B.p]]) :: H) rfl (Mem.le.refl _) zpk ?_
    (refine cm0 ?_)
    refine WE.done (by decide +kernel) ?_
    (try (refine st ?_; intros))
    rw [hml, hd]
    have e : B.close.l = B.l ++ [⟨0, [], B.p⟩] := by simp [Bld.close, hp, hd]
    exact q_finNorm0 (H0 := .blk b (.cells [.slice c2 (B.l.length + 1) cp2, str [], str []].toArray 117 (0, 0)) :: .row c2 cp2 81 3 (B.l.map Stp.cs ++ [[.int .i64 0, str [], str B.p]]) :: H) ⟨rfl, rfl, c2, cp2, by rw [e]; simp [Stp.cs]⟩ (hd := zpk)
  · have hml1 : (B.l.map Stp.cs ++ [[.int .i64 0, str [], str B.p]]).length = B.l.length + 1 := by simp
    (try (refine st ?_; intros))
    refine WC.drawE 14 ([.blk b (.cells [.slice c B.l.length cp, str B.p, str B.d].toArray 117 (0, 0))]) (.row c cp 81 3 (B.l.map Stp.cs) :: H) rfl (by decide +kernel) zpk ?_
    (refine cm0 ?_)
    refine WE.act1 10 (by decide +kernel) rfl rfl (fun c h => by cases h) ?_
    (refine st ?_; intros; rename_i q0)
    refine WQ.acted (B := []) (U := .blk q0 (.cells [.int .i64 0, str [], str B.p].toArray 81 (0, 0)) :: .row c cp 81 3 (B.l.map Stp.cs) :: H) rfl (Mem.le.refl _) zpk ?_
    refine WE.act1 11 (by decide +kernel) rfl rfl (fun c h => by cases h) ?_
    (refine st ?_; intros; rename_i c2 cp2)
    refine WQ.acted (B := []) (U := .row c2 cp2 81 3 (B.l.map Stp.cs ++ [[.int .i64 0, str [], str B.p]]) :: H) rfl (Mem.le.refl _) zpk ?_
    (refine cm0 ?_)
    refine WE.done (by decide +kernel) ?_
    (try (refine st ?_; intros))
    rw [hml]
    refine WC.drawE 14 ([.blk b (.cells [.slice c2 (B.l.length + 1) cp2, str B.p, str B.d].toArray 117 (0, 0))]) (.row c2 cp2 81 3 (B.l.map Stp.cs ++ [[.int .i64 0, str [], str B.p]]) :: H) rfl (by decide +kernel) zpk ?_
    (refine cm0 ?_)
    refine WE.act1 10 (by decide +kernel) rfl rfl (fun c h => by cases h) ?_
    (refine st ?_; intros; rename_i q0)
    refine WQ.acted (B := []) (U := .blk q0 (.cells [.int .i64 0, str B.d, str []].toArray 81 (0, 0)) :: .row c2 cp2 81 3 (B.l.map Stp.cs ++ [[.int .i64 0, str [], str B.p]]) :: H) rfl (Mem.le.refl _) zpk ?_
    refine WE.act1 11 (by decide +kernel) rfl rfl (fun c h => by cases h) ?_
    (refine st ?_; intros; rename_i c3 cp3)
    refine WQ.acted (B := []) (U := .row c3 cp3 81 3 (B.l.map Stp.cs ++ [[.int .i64 0, str [], str B.p]] ++ [[.int .i64 0, str B.d, str []]]) :: H) rfl (Mem.le.refl _) zpk ?_
    (refine cm0 ?_)
    refine WE.done (by decide +kernel) ?_
    (try (refine st ?_; intros))
    rw [hml1]
    have e : B.close.l = B.l ++ [⟨0, [], B.p⟩] ++ [⟨0, B.d, []⟩] := by simp [Bld.close, hp, hd]
    exact q_finNorm0 (H0 := .blk b (.cells [.slice c3 (B.l.length + 1 + 1) cp3, str [], str []].toArray 117 (0, 0)) :: .row c3 cp3 81 3 (B.l.map Stp.cs ++ [[.int .i64 0, str [], str B.p]] ++ [[.int .i64 0, str B.d, str []]]) :: H) ⟨rfl, rfl, c3, cp3, by rw [e]; simp [Stp.cs]⟩ (hd := zpk)
end Go.Proofs.Ytieangfnjflfmaa

/-
  The walks of package edit, seventh part: the keep of the maker of the reference. No condition.
-/
namespace Go.Proofs.Ytieangfnjflfmaa
open Go Go.Eng
set_option maxRecDepth 100000
set_option maxHeartbeats 4000000
set_option linter.all false
attribute [local irreducible] WL WC WQ QFun QLoop Does Q1 QRound QAssign Go.Addr.add
theorem mkeep_any {b : Nat} {c : Option Addr} {cp : Nat} (B : Bld) (n : Nat) (hn : n ≤ 100000000000) (hB : BFit 100000000000 B) (w0 : World) (m : Mem) (H : SHeap) :
    Does Try.prog 51 #[.pointer (some ⟨b, 0, none⟩), .int .i64 (n : Int)] w0 m (.blk b (.cells [.slice c B.l.length cp, str B.p, str B.d].toArray 117 (0, 0)) :: .row c cp 81 3 (B.l.map Stp.cs) :: H)
      (fun v m' H' => v = .tuple #[] ∧ m' = m ∧ ∃ c' cp', H' = .blk b (.cells [.slice c' (B.keep n).l.length cp', str (B.keep n).p, str (B.keep n).d].toArray 117 (0, 0)) :: .row c' cp' 81 3 ((B.keep n).l.map Stp.cs) :: H) := by
  refine Does.of_body (args := [.pointer (some ⟨b, 0, none⟩), .int .i64 (n : Int)]) Try.func51 rfl Try.ntmps51 rfl ?_
  have hlen := hB.len
  by_cases h0 : n = 0
  · subst h0
    (try (refine st ?_; intros))
    exact q_fin0 (H0 := .blk b (.cells [.slice c B.l.length cp, str B.p, str B.d].toArray 117 (0, 0)) :: .row c cp 81 3 (B.l.map Stp.cs) :: H) ⟨rfl, rfl, c, cp, rfl⟩ (hd := zpk)
  · (try (refine st ?_; intros))
    refine w_callF Try.func52 ?_ (hs := mkEnd_any B (by omega) _ _ _)
    rintro v m1 H1 ⟨rfl, rfl, c1, cp1, rfl⟩
    have hkeep : B.keep n = ⟨addKeep B.close.l n, [], []⟩ := by unfold Bld.keep; rw [if_neg (by omega)]
    have hc := hB.close
    rw [hkeep]
    have hcl := hc.len
    have hck := hc.k
    generalize B.close.l = L at *
    have hml : (L.map Stp.cs).length = L.length := by simp
    rcases snoc_cases L with hL | ⟨ys, s, hL⟩
    · have hl0 : L.length = 0 := by rw [hL]; rfl
      (refine st ?_; intros; rename_i x2 c2 cp2)
      rw [hml]
      have e : addKeep L n = L ++ [⟨n, [], []⟩] := by rw [hL]; rfl
      exact q_finNorm0 (H0 := .blk b (.cells [.slice c2 (L.length + 1) cp2, str [], str []].toArray 117 (0, 0)) :: .row c2 cp2 81 3 (L.map Stp.cs ++ [[.int .i64 n, str [], str []]]) :: H) ⟨rfl, rfl, c2, cp2, by rw [e]; simp [Stp.cs]⟩ (hd := zpk)
    · have hl1 : L.length = ys.length + 1 := by rw [hL]; simp
      have hget : (L.map Stp.cs)[L.length - 1]? = some s.cs := by rw [hL]; simp
      have hsk := hck s (by rw [hL]; simp)
      refine WL.rowSome (a := c1) zhs (by omega) ?_
      rintro c0 rfl
      by_cases hs : 0 < s.k
      · (try (refine st ?_; intros))
        have e : (addKeep L n).length = L.length ∧ (addKeep L n).map Stp.cs = (L.map Stp.cs).set (L.length - 1) [.int .i64 (s.k + n), str s.d, str s.p] := by
          rw [hL]; constructor <;> simp [addKeep, hs, Stp.cs]
        exact q_fin0 (H0 := .blk b (.cells [.slice (some c0) L.length cp1, str [], str []].toArray 117 (0, 0)) :: .row (some c0) cp1 81 3 ((L.map Stp.cs).set (L.length - 1) [.int .i64 (s.k + n), str s.d, str s.p]) :: H) ⟨rfl, rfl, some c0, cp1, by rw [e.1, e.2]⟩ (hd := zpk)
      · (refine st ?_; intros; rename_i x2 c2 cp2)
        rw [hml]
        have e : addKeep L n = L ++ [⟨n, [], []⟩] := by rw [hL]; simp [addKeep, hs]
        exact q_finNorm0 (H0 := .blk b (.cells [.slice c2 (L.length + 1) cp2, str [], str []].toArray 117 (0, 0)) :: .row c2 cp2 81 3 (L.map Stp.cs ++ [[.int .i64 n, str [], str []]]) :: H) ⟨rfl, rfl, c2, cp2, by rw [e]; simp [Stp.cs]⟩ (hd := zpk)
end Go.Proofs.Ytieangfnjflfmaa

/-
  The walks of package edit, third part: the sizes of a change, by the reference. No condition.
-/
namespace Go.Proofs.Ytieangfnjflfmaa
open Go Go.Eng
set_option maxRecDepth 100000
set_option maxHeartbeats 4000000
set_option linter.all false
attribute [local irreducible] WL WC WQ QFun QLoop Does Q1 QRound QAssign Go.Addr.add
attribute [local irreducible] sizesF sizesOf
theorem refSizes_any {a : Option Addr} {cap : Nat} {l : List Stp} (hf : Fit l) (w0 : World) (m : Mem) (H : SHeap) (hr : RowR w0 m H 3 a (l.map Stp.cs)) :
    Does Try.prog 53 #[.slice a l.length cap] w0 m H (Gives (szR (sizesOf l)) m H) := by
  refine Does.of_body (args := [.slice a l.length cap]) Try.func53 rfl Try.ntmps53 rfl ?_
  have hln : (l.map Stp.cs).length = l.length := by simp
  have hlen := hf.len
  (try (refine st ?_; intros))
  refine WC.loopH [(7, .int .i64 ((0) : Int)), (0, .slice a l.length cap), (5, .int .i64 (0)), (6, .int .i64 (0))] ?_ ?_ (fun j r ds m' H' => ∃ (i : _) (f : Int) (t : Int), j = l.length - i ∧ r = [(7, .int .i64 (i : Int)), (0, .slice a l.length cap), (5, .int .i64 f), (6, .int .i64 t)] ∧ ds = [] ∧ m = m' ∧ H' = H ∧ (i ≤ l.length) ∧ (0 ≤ f ∧ f ≤ 65536 ∧ 0 ≤ t ∧ t ≤ 65536) ∧ (sizesF (l.drop i) f t = sizesOf l) ∧ (RowR w0 m H 3 a (l.map Stp.cs))) (l.length - (0)) ⟨0, 0, 0, rfl, rfl, rfl, rfl, rfl, by omega, by omega, by rw [sizesOf]; rfl, hr⟩ ?_
  · (repeat (first | exact Env.Sub.nil | refine Env.Sub.cons rfl ?_))
  · exact zpk
  rintro j r ds m' H' ⟨i, f, t, rfl, rfl, rfl, rfl, rfl, hi, hn, hs, hr⟩
  generalize H' = H at *
  by_cases hlt : i < l.length
  · obtain ⟨x, hx, hget, htk, hmem, hdr⟩ := at_idx (f := Stp.cs) hlt
    have hk := hf.k x hmem
    have hd := hf.d x hmem
    have hp := hf.p x hmem
    rw [hdr] at hs
    refine WC.rSome hr (by omega) ?_
    rintro a0 rfl
    have hdl : x.d = [] → x.d.length = 0 := fun h => by rw [h]; rfl
    have hpl : x.p = [] → x.p.length = 0 := fun h => by rw [h]; rfl
    by_cases h2 : x.d = [] <;> by_cases h3 : x.p = [] <;> rcases (show x.k < 0 ∨ x.k = 0 ∨ 0 < x.k by omega) with h1 | h1 | h1
    · rw [sizesF_bad (fun h => by rcases h.1 with g | g | g <;> omega)] at hs
      (try (refine st ?_; intros))
      exact q_fin0 (H0 := H) (Gives.mk (by rw [← hs]; try rfl)) (hd := zpk)
    · rw [sizesF_bad (fun h => by simp [stpOk, h1, h2, h3] at h)] at hs
      have hb : (!(!dcd (x.p = []))) = true := by rw [dcd_true h3]; rfl
      (try (refine st ?_; intros))
      exact q_fin0 (H0 := H) (Gives.mk (by rw [← hs]; try rfl)) (hd := zpk)
    · have h2' := hdl h2
      have h3' := hpl h3
      by_cases h6 : 65536 < x.k
      · rw [sizesF_bad (by omega)] at hs
        (try (refine st ?_; intros))
        exact q_fin0 (H0 := H) (Gives.mk (by rw [← hs]; try rfl)) (hd := zpk)
      · have hok : stpOk x := .inl ⟨by omega, h2, h3⟩
        by_cases h4 : f + x.k + (x.d.length : Int) ≤ 65536
        · by_cases h7 : t + x.k + (x.p.length : Int) ≤ 65536
          · rw [sizesF_good hok (by omega) (by omega) (by omega)] at hs
            (try (refine st ?_; intros))
            refine WQ.next (l.length - (i + 1)) ⟨i + 1, _, _, rfl, rfl, rfl, rfl, rfl, ?_, ?_, ?_, ?_⟩ (by omega) zsb zpk
            · omega
            · omega
            · exact hs
            · assumption
          · rw [sizesF_bad (by omega)] at hs
            (try (refine st ?_; intros))
            exact q_fin0 (H0 := H) (Gives.mk (by rw [← hs]; try rfl)) (hd := zpk)
        · rw [sizesF_bad (by omega)] at hs
          (try (refine st ?_; intros))
          exact q_fin0 (H0 := H) (Gives.mk (by rw [← hs]; try rfl)) (hd := zpk)
    · rw [sizesF_bad (fun h => by rcases h.1 with g | g | g <;> omega)] at hs
      (try (refine st ?_; intros))
      exact q_fin0 (H0 := H) (Gives.mk (by rw [← hs]; try rfl)) (hd := zpk)
    · have hok : stpOk x := .inr (.inr ⟨h1, h2, h3⟩)
      have h2' := hdl h2
      have hb : (!(!dcd (x.p = []))) = false := by rw [dcd_false h3]; rfl
      by_cases h4 : t + x.k + (x.p.length : Int) ≤ 65536
      · rw [sizesF_good hok (by omega) (by omega) (by omega)] at hs
        (try (refine st ?_; intros))
        refine WQ.next (l.length - (i + 1)) ⟨i + 1, _, _, rfl, rfl, rfl, rfl, rfl, ?_, ?_, ?_, ?_⟩ (by omega) zsb zpk
        · omega
        · omega
        · exact hs
        · assumption
      · rw [sizesF_bad (by omega)] at hs
        (try (refine st ?_; intros))
        exact q_fin0 (H0 := H) (Gives.mk (by rw [← hs]; try rfl)) (hd := zpk)
    · rw [sizesF_bad (fun h => by rcases h.1 with g | g | g <;> first | omega | exact h3 g.2.2)] at hs
      (try (refine st ?_; intros))
      exact q_fin0 (H0 := H) (Gives.mk (by rw [← hs]; try rfl)) (hd := zpk)
    · rw [sizesF_bad (fun h => by rcases h.1 with g | g | g <;> omega)] at hs
      (try (refine st ?_; intros))
      exact q_fin0 (H0 := H) (Gives.mk (by rw [← hs]; try rfl)) (hd := zpk)
    · have hok : stpOk x := .inr (.inl ⟨h1, h2, h3⟩)
      have h3' := hpl h3
      by_cases h4 : f + x.k + (x.d.length : Int) ≤ 65536
      · rw [sizesF_good hok (by omega) (by omega) (by omega)] at hs
        (try (refine st ?_; intros))
        refine WQ.next (l.length - (i + 1)) ⟨i + 1, _, _, rfl, rfl, rfl, rfl, rfl, ?_, ?_, ?_, ?_⟩ (by omega) zsb zpk
        · omega
        · omega
        · exact hs
        · assumption
      · rw [sizesF_bad (by omega)] at hs
        (try (refine st ?_; intros))
        exact q_fin0 (H0 := H) (Gives.mk (by rw [← hs]; try rfl)) (hd := zpk)
    all_goals
      rw [sizesF_bad (fun h => by rcases h.1 with g | g | g <;> first | omega | exact h2 g.2.1 | exact h3 g.2.2)] at hs
      (try (refine st ?_; intros))
      exact q_fin0 (H0 := H) (Gives.mk (by rw [← hs]; try rfl)) (hd := zpk)
  · obtain rfl : i = l.length := by omega
    rw [List.drop_length, sizesF] at hs
    (try (refine st ?_; intros))
    exact q_fin0 (H0 := H) (Gives.mk (by rw [← hs]; try rfl)) (hd := zpk)
end Go.Proofs.Ytieangfnjflfmaa

