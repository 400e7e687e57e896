/-
  Parts of a walk, joined: D23 D24 D29 D30 D31 D32 DT9 DT10 D20 D33 D34 EngQ. No condition.
-/
import Derived.Test.YtieangfnjflfmaaP4
import Derived.Test.YtieangfnjflfmaaP8
import Derived.Test.YtieangfnjflfmaaP7
import Derived.Test.YtieangfnjflfmaaP6
import Derived.Test.YtieangfnjflfmaaP3
import Derived.ChangeMaps5
import Derived.ReadAgain
import Derived.ChangeBook
import Derived.Deep.Slices
import Derived.WalkKit
import Derived.ProofKit
import Derived.OpenShut
import Derived.JoinedCond
set_option linter.all false
/-
  The walk of the reference's Tokens. No condition.
-/
namespace Go.Eng
open Go Go.RowKit
def tkE (ts : List Tk) : List (List Value) := ts.map Tk.cs
theorem tkE_length (ts : List Tk) : (tkE ts).length = ts.length := List.length_map _
theorem ChU.len : ∀ {us : List Un} {a z : Nat}, ChU a us z → us.length ≤ z - a
  | [], _, _, _ => Nat.zero_le _
  | u :: us, a, z, h => by
    obtain ⟨h1, h2, h3⟩ := h
    have := ChU.len h3
    have := ChU.le h3
    rw [List.length_cons]; omega
theorem usE_drop (us : List Un) (n : Nat) : usE (us.drop n) = (usE us).drop n := by unfold usE; rw [List.map_drop]
end Go.Eng
namespace Go.Proofs.Ytieangfnjflfmaa
open Go Go.Eng
set_option maxRecDepth 100000
set_option maxHeartbeats 4000000
set_option linter.all false
attribute [local irreducible] WL WC WQ QFun QLoop Does Q1 QRound QAssign Go.Addr.add
attribute [local irreducible] usE tkE unitsL rToks tokens runU
theorem cmx_D23_0 {G G' : Prop} (next : G') (h : Bx G' → G := by intro zzn; (try (refine wcal 0 ?_ (hwl := by intro zm zF zle; have hVF := hV zm zF; ((repeat (refine sp ?_; intros)); exact WQ.q1 rfl)))); (try (refine wcal 1 ?_ (hwl := by intro zm zF zle; have hVF := hV zm zF; ((repeat (refine sp ?_; intros)); exact WQ.q1 rfl)))); (try (refine wcal 2 ?_ (hwl := by intro zm zF zle; have hVF := hV zm zF; ((repeat (refine sp ?_; intros)); exact WQ.q1 rfl)))); (try (refine wcal 3 ?_ (hwl := by intro zm zF zle; have hVF := hV zm zF; ((repeat (refine sp ?_; intros)); exact WQ.q1 rfl)))); (try (refine wcal 4 ?_ (hwl := by intro zm zF zle; have hVF := hV zm zF; ((repeat (refine sp ?_; intros)); exact WQ.q1 rfl)))); (try (refine wcal 5 ?_ (hwl := by intro zm zF zle; have hVF := hV zm zF; ((repeat (refine sp ?_; intros)); exact WQ.q1 rfl)))); (try (refine wcal 6 ?_ (hwl := by intro zm zF zle; have hVF := hV zm zF; ((repeat (refine sp ?_; intros)); exact WQ.q1 rfl)))); (try (refine wcal 7 ?_ (hwl := by intro zm zF zle; have hVF := hV zm zF; ((repeat (refine sp ?_; intros)); exact WQ.q1 rfl)))); (try (refine wcal 8 ?_ (hwl := by intro zm zF zle; have hVF := hV zm zF; ((repeat (refine sp ?_; intros)); exact WQ.q1 rfl)))); (try (refine wcal 9 ?_ (hwl := by intro zm zF zle; have hVF := hV zm zF; ((repeat (refine sp ?_; intros)); exact WQ.q1 rfl)))); (try (refine wcal 10 ?_ (hwl := by intro zm zF zle; have hVF := hV zm zF; ((repeat (refine sp ?_; intros)); exact WQ.q1 rfl)))); (try (refine wcal 11 ?_ (hwl := by intro zm zF zle; have hVF := hV zm zF; ((repeat (refine sp ?_; intros)); exact WQ.q1 rfl)))); (try (refine wcal 12 ?_ (hwl := by intro zm zF zle; have hVF := hV zm zF; ((repeat (refine sp ?_; intros)); exact WQ.q1 rfl)))); (try (refine wcal 13 ?_ (hwl := by intro zm zF zle; have hVF := hV zm zF; ((repeat (refine sp ?_; intros)); exact WQ.q1 rfl)))); (try (refine wcal 14 ?_ (hwl := by intro zm zF zle; have hVF := hV zm zF; ((repeat (refine sp ?_; intros)); exact WQ.q1 rfl)))); (try (refine wcal 15 ?_ (hwl := by intro zm zF zle; have hVF := hV zm zF; ((repeat (refine sp ?_; intros)); exact WQ.q1 rfl)))); (try (refine wcal 16 ?_ (hwl := by intro zm zF zle; have hVF := hV zm zF; ((repeat (refine sp ?_; intros)); exact WQ.q1 rfl)))); (try (refine wcal 17 ?_ (hwl := by intro zm zF zle; have hVF := hV zm zF; ((repeat (refine sp ?_; intros)); exact WQ.q1 rfl)))); (try (refine wcal 18 ?_ (hwl := by intro zm zF zle; have hVF := hV zm zF; ((repeat (refine sp ?_; intros)); exact WQ.q1 rfl)))); (try (refine wcal 19 ?_ (hwl := by intro zm zF zle; have hVF := hV zm zF; ((repeat (refine sp ?_; intros)); exact WQ.q1 rfl)))); (try (refine wcal 20 ?_ (hwl := by intro zm zF zle; have hVF := hV zm zF; ((repeat (refine sp ?_; intros)); exact WQ.q1 rfl)))); (try (refine wcal 21 ?_ (hwl := by intro zm zF zle; have hVF := hV zm zF; ((repeat (refine sp ?_; intros)); exact WQ.q1 rfl)))); (try (refine wcal 22 ?_ (hwl := by intro zm zF zle; have hVF := hV zm zF; ((repeat (refine sp ?_; intros)); exact WQ.q1 rfl)))); (try (refine wcal 23 ?_ (hwl := by intro zm zF zle; have hVF := hV zm zF; ((repeat (refine sp ?_; intros)); exact WQ.q1 rfl)))); (try (refine wcal 24 ?_ (hwl := by intro zm zF zle; have hVF := hV zm zF; ((repeat (refine sp ?_; intros)); exact WQ.q1 rfl)))); (try (refine wcal 25 ?_ (hwl := by intro zm zF zle; have hVF := hV zm zF; ((repeat (refine sp ?_; intros)); exact WQ.q1 rfl)))); (try (refine wcal 26 ?_ (hwl := by intro zm zF zle; have hVF := hV zm zF; ((repeat (refine sp ?_; intros)); exact WQ.q1 rfl)))); (try (refine wcal 27 ?_ (hwl := by intro zm zF zle; have hVF := hV zm zF; ((repeat (refine sp ?_; intros)); exact WQ.q1 rfl)))); (try (refine wcal 28 ?_ (hwl := by intro zm zF zle; have hVF := hV zm zF; ((repeat (refine sp ?_; intros)); exact WQ.q1 rfl)))); (try (refine wcal 29 ?_ (hwl := by intro zm zF zle; have hVF := hV zm zF; ((repeat (refine sp ?_; intros)); exact WQ.q1 rfl)))); (try (refine wcal 30 ?_ (hwl := by intro zm zF zle; have hVF := hV zm zF; ((repeat (refine sp ?_; intros)); exact WQ.q1 rfl)))); (try (refine wcal 31 ?_ (hwl := by intro zm zF zle; have hVF := hV zm zF; ((repeat (refine sp ?_; intros)); exact WQ.q1 rfl)))); (try (refine wcal 32 ?_ (hwl := by intro zm zF zle; have hVF := hV zm zF; ((repeat (refine sp ?_; intros)); exact WQ.q1 rfl)))); (try (refine wcal 33 ?_ (hwl := by intro zm zF zle; have hVF := hV zm zF; ((repeat (refine sp ?_; intros)); exact WQ.q1 rfl)))); (try (refine wcal 34 ?_ (hwl := by intro zm zF zle; have hVF := hV zm zF; ((repeat (refine sp ?_; intros)); exact WQ.q1 rfl)))); (try (refine wcal 35 ?_ (hwl := by intro zm zF zle; have hVF := hV zm zF; ((repeat (refine sp ?_; intros)); exact WQ.q1 rfl)))); (try (refine wcal 36 ?_ (hwl := by intro zm zF zle; have hVF := hV zm zF; ((repeat (refine sp ?_; intros)); exact WQ.q1 rfl)))); (try (refine wcal 37 ?_ (hwl := by intro zm zF zle; have hVF := hV zm zF; ((repeat (refine sp ?_; intros)); exact WQ.q1 rfl)))); (try (refine wcal 38 ?_ (hwl := by intro zm zF zle; have hVF := hV zm zF; ((repeat (refine sp ?_; intros)); exact WQ.q1 rfl)))); (try (refine wcal 39 ?_ (hwl := by intro zm zF zle; have hVF := hV zm zF; ((repeat (refine sp ?_; intros)); exact WQ.q1 rfl)))); (try (refine wcal 40 ?_ (hwl := by intro zm zF zle; have hVF := hV zm zF; ((repeat (refine sp ?_; intros)); exact WQ.q1 rfl)))); (try (refine wcal 41 ?_ (hwl := by intro zm zF zle; have hVF := hV zm zF; ((repeat (refine sp ?_; intros)); exact WQ.q1 rfl)))); exact zzn.out) : G := h ⟨next⟩
theorem ref7Tokens_any (l : List UInt8) (hl : l.length ≤ 4194304) (w0 : World) (m : Mem) (H : SHeap) :
    Does Try.prog 47 #[str l] w0 m H (fun v m' H' => m.le m' ∧ ∃ a cp, v = .slice a (tokens l).length cp ∧ H' = .row a cp 92 3 (tkE (tokens l)) :: H) := by
  refine Does.of_body (args := [str l]) Try.func47 rfl Try.ntmps47 rfl ?_
  have hUl : (unitsL l).length ≤ 4194304 := by have := (units_chain l).len; omega
  refine WC.newRow (T := 92) (sz := 3) ?_
  (try (refine st ?_; intros))
  refine w_callF Try.func64 ?_ (hs := refUnits_any l (by omega) _ _ _)
  rintro v m1 H0 ⟨hm1, ua, uc, rfl, rfl⟩
  refine WL.rowCap (a := ua) (cap := uc) (T := 143) (sz := 5) (es := usE (unitsL l)) zhs ?_
  intro hUc
  rw [usE_length] at hUc
  (try (refine st ?_; intros))
  rw [show ([] : List (List Value)) = tkE [] from by unfold tkE; rfl]
  refine WC.loopH [(4, .slice (ua) (unitsL l).length (uc)), (3, .slice (none) ([]).length (0))] ?_ ?_ (fun j r ds m' H' => ∃ (V : List Un) (D : List Tk) (a : Option Addr) (c : Nat) (ao : Option Addr) (co : Nat), j = V.length ∧ r = [(4, .slice a V.length c), (3, .slice ao D.length co)] ∧ ds = [] ∧ m1 = m' ∧ H' = .row ua uc 143 5 (usE (unitsL l)) :: .row ao co 92 3 (tkE D) :: H ∧ (∀ (mm : Mem) (F : SHeap), RowR w0 mm (.row ua uc 143 5 (usE (unitsL l)) :: F) 5 a (usE V)) ∧ (V.length ≤ c) ∧ (∀ u ∈ V, UOk u) ∧ (D.length + V.length ≤ (unitsL l).length) ∧ (tokens l = D ++ rToks V)) ((unitsL l).length) ⟨unitsL l, [], ua, uc, none, 0, rfl, rfl, rfl, rfl, rfl, fun mm F => RowR.row List.mem_cons_self, hUc, units_ok l, by simp, tokens_rToks l⟩ ?_
  · (repeat (first | exact Env.Sub.nil | refine Env.Sub.cons rfl ?_))
  · exact zpk
  rintro j r ds m' H' ⟨V, D, a, c, ao, co, rfl, rfl, rfl, rfl, rfl, hV, hc, hok, hn, hD⟩
  cases V with
  | nil =>
    rw [rToks_nil, List.append_nil] at hD
    have h0 : ([] : List Un).length = 0 := rfl
    (try (refine st ?_; intros))
    exact q_fin0 (H0 := .row ao co 92 3 (tkE D) :: H) ⟨hm1, ao, co, by rw [hD], by rw [hD]⟩ (hd := zpk)
  | cons u vs =>
    have hVl : (u :: vs).length = vs.length + 1 := rfl
    have hgl : (usE (u :: vs))[0]? = some [.int .i64 (u.k : Int), .int .i64 (u.a : Int), .int .i64 (u.z : Int), .int .i32 (u.r : Int), .bool u.o] := usE_get rfl
    have hEl : (usE (u :: vs)).length = (u :: vs).length := usE_length _
    have hV1 : RowR w0 m1 (.row ua uc 143 5 (usE (unitsL l)) :: .row ao co 92 3 (tkE D) :: H) 5 a (usE (u :: vs)) := hV m1 _
    have hTl := takeN_le u vs
    obtain ⟨N, hN⟩ : ∃ N, N = 1 + takeN u vs := ⟨_, rfl⟩
    obtain ⟨v, hv⟩ : ∃ v, (u :: vs)[takeN u vs]? = some v := ⟨_, List.getElem?_eq_getElem (by rw [hVl]; omega)⟩
    have hgN : (usE (u :: vs))[N - 1]? = some [.int .i64 (v.k : Int), .int .i64 (v.a : Int), .int .i64 (v.z : Int), .int .i32 (v.r : Int), .bool v.o] := usE_get (by rw [show N - 1 = takeN u vs by omega]; exact hv)
    have hD2 : tokens l = (D ++ [⟨(beginK u).1, u.a, v.z⟩]) ++ rToks (vs.drop (takeN u vs)) := by rw [hD, rToks_cons hv]; simp
    have hdr : (u :: vs).drop N = vs.drop (takeN u vs) := by rw [hN, Nat.add_comm]; rfl
    have hsub : ∀ (mm : Mem) (F : SHeap), RowR w0 mm (.row ua uc 143 5 (usE (unitsL l)) :: F) 5 (if c = N then a else a.map (·.add (N * 5))) (usE ((u :: vs).drop N)) := fun mm F => by
      have := (hV mm F).sub (lo := N) (hi := (u :: vs).length) (cap := c) (by rw [usE_length]; omega) (by rw [usE_length]; omega)
      rwa [← hEl, List.take_length, ← usE_drop] at this
    have hlN : (u :: vs).length - N = ((u :: vs).drop N).length := (List.length_drop).symm
    have hTE : ∀ k : Nat, (beginK u).1 = k → tkE D ++ [[.int .i64 (k : Int), .int .i64 (u.a : Int), .int .i64 (v.z : Int)]] = tkE (D ++ [⟨(beginK u).1, u.a, v.z⟩]) := fun k hk => by rw [hk]; unfold tkE; simp [Tk.cs]
    have hDl : D.length + 1 = (D ++ [(⟨(beginK u).1, u.a, v.z⟩ : Tk)]).length := by simp
    have hTl2 := tkE_length D
    have hok2 : ∀ w ∈ (u :: vs).drop N, UOk w := fun w hw => hok w (List.mem_of_mem_drop hw)
    have hovs : ∀ w ∈ vs, UOk w := fun w hw => hok w (List.mem_cons_of_mem _ hw)
    rw [← hdr] at hD2
    have hN1 : 1 ≤ N := by omega
    have hN2 : N ≤ (u :: vs).length := by omega
    refine WC.rSome hV1 (by omega) ?_
    rintro a0 rfl
    by_cases k1 : u.k = 1
    · have hbk : (beginK u).1 = 1 := by simp [beginK, k1]
      rw [takeN_word hovs k1] at hN
      (refine st ?_; intros; rename_i b4)
      refine w_callF Try.func65 ?_ (hs := run_any (us := u :: vs) (J := [39, 8217, 45, 8208]) (k := 1) (by omega) (by omega) (by decide) hV1.more (rowR_blk (T := 21) (fz := (0, 0)) (L := [.int .i32 39, .int .i32 8217, .int .i32 45, .int .i32 8208]) zhs (by unfold jsE; rfl) (by simp [jsE])))
      rintro v2 m9 H9 ⟨rfl, rfl, rfl⟩
      rw [show (u :: vs).drop 1 = vs from rfl, ← hN]
      refine WL.heap (H' := .row ua uc 143 5 (usE (unitsL l)) :: .row ao co 92 3 (tkE D) :: H) zpk ?_
      (try (refine st ?_; intros))
      refine WC.drawE 17 ([.row ua uc 143 5 (usE (unitsL l))]) (.row ao co 92 3 (tkE D) :: H) rfl (by decide +kernel) zpk ?_
      (refine cmx_D23_0 ?_)
      refine WE.act1 16 (by decide +kernel) rfl rfl (fun c h => by cases h) ?_
      (refine st ?_; intros; rename_i b9)
      refine WQ.acted (B := [.blk b9 (.cells [.int .i64 1, .int .i64 (u.a : Int), .int .i64 (v.z : Int)].toArray 92 (0, 0))]) (U := .row ao co 92 3 (tkE D) :: H) rfl (Mem.le.refl _) zpk ?_
      (refine cmx_D23_0 ?_)
      refine WE.done (by decide +kernel) ?_
      (refine st ?_; intros; rename_i a2 cp2)
      have hte : tkE D ++ [[.int .i64 1, .int .i64 (u.a : Int), .int .i64 (v.z : Int)]] = tkE (D ++ [⟨(beginK u).1, u.a, v.z⟩]) := hTE 1 hbk
      rw [show subSl (some a0) c N (u :: vs).length 5 = .slice (if c = N then some a0 else (some a0).map (·.add (N * 5))) ((u :: vs).drop N).length (c - N) from by unfold subSl; rw [hlN], hTl2, hDl, hte]
      refine WQ.next (((u :: vs).drop N).length) ⟨(u :: vs).drop N, D ++ [⟨(beginK u).1, u.a, v.z⟩], (if c = N then some a0 else (some a0).map (·.add (N * 5))), c - N, a2, cp2, rfl, rfl, rfl, rfl, rfl, ?_, ?_, ?_, ?_, ?_⟩ (by omega) zsb zpk
      · exact hsub
      · omega
      · exact hok2
      · rw [← hDl]; omega
      · exact hD2
    by_cases k3 : u.k = 3
    · have hbk : (beginK u).1 = 2 := by simp [beginK, k3]
      rw [takeN_number hovs k3] at hN
      (refine st ?_; intros; rename_i b4)
      refine w_callF Try.func65 ?_ (hs := run_any (us := u :: vs) (J := [44, 46]) (k := 3) (by omega) (by omega) (by decide) hV1.more (rowR_blk (T := 21) (fz := (0, 0)) (L := [.int .i32 44, .int .i32 46]) zhs (by unfold jsE; rfl) (by simp [jsE])))
      rintro v2 m9 H9 ⟨rfl, rfl, rfl⟩
      rw [show (u :: vs).drop 1 = vs from rfl, ← hN]
      refine WL.heap (H' := .row ua uc 143 5 (usE (unitsL l)) :: .row ao co 92 3 (tkE D) :: H) zpk ?_
      (try (refine st ?_; intros))
      refine WC.drawE 17 ([.row ua uc 143 5 (usE (unitsL l))]) (.row ao co 92 3 (tkE D) :: H) rfl (by decide +kernel) zpk ?_
      (refine cmx_D23_0 ?_)
      refine WE.act1 16 (by decide +kernel) rfl rfl (fun c h => by cases h) ?_
      (refine st ?_; intros; rename_i b9)
      refine WQ.acted (B := [.blk b9 (.cells [.int .i64 2, .int .i64 (u.a : Int), .int .i64 (v.z : Int)].toArray 92 (0, 0))]) (U := .row ao co 92 3 (tkE D) :: H) rfl (Mem.le.refl _) zpk ?_
      (refine cmx_D23_0 ?_)
      refine WE.done (by decide +kernel) ?_
      (refine st ?_; intros; rename_i a2 cp2)
      have hte : tkE D ++ [[.int .i64 2, .int .i64 (u.a : Int), .int .i64 (v.z : Int)]] = tkE (D ++ [⟨(beginK u).1, u.a, v.z⟩]) := hTE 2 hbk
      rw [show subSl (some a0) c N (u :: vs).length 5 = .slice (if c = N then some a0 else (some a0).map (·.add (N * 5))) ((u :: vs).drop N).length (c - N) from by unfold subSl; rw [hlN], hTl2, hDl, hte]
      refine WQ.next (((u :: vs).drop N).length) ⟨(u :: vs).drop N, D ++ [⟨(beginK u).1, u.a, v.z⟩], (if c = N then some a0 else (some a0).map (·.add (N * 5))), c - N, a2, cp2, rfl, rfl, rfl, rfl, rfl, ?_, ?_, ?_, ?_, ?_⟩ (by omega) zsb zpk
      · exact hsub
      · omega
      · exact hok2
      · rw [← hDl]; omega
      · exact hD2
    by_cases k5 : u.k = 5
    · have hbk : (beginK u).1 = 3 := by simp [beginK, k5]
      rw [takeN_blank k5] at hN
      (try (refine st ?_; intros))
      refine w_callF Try.func65 ?_ (hs := run_any (us := u :: vs) (J := []) (b := none) (cb := 0) (k := 5) (by omega) (by omega) (by decide) hV1 (by unfold jsE; exact RowR.nil))
      rintro v2 m9 H9 ⟨rfl, rfl, rfl⟩
      rw [show (u :: vs).drop 1 = vs from rfl, ← hN]
      (try (refine st ?_; intros))
      refine WC.drawE 17 ([.row ua uc 143 5 (usE (unitsL l))]) (.row ao co 92 3 (tkE D) :: H) rfl (by decide +kernel) zpk ?_
      (refine cmx_D23_0 ?_)
      refine WE.act1 16 (by decide +kernel) rfl rfl (fun c h => by cases h) ?_
      (refine st ?_; intros; rename_i b9)
      refine WQ.acted (B := [.blk b9 (.cells [.int .i64 3, .int .i64 (u.a : Int), .int .i64 (v.z : Int)].toArray 92 (0, 0))]) (U := .row ao co 92 3 (tkE D) :: H) rfl (Mem.le.refl _) zpk ?_
      (refine cmx_D23_0 ?_)
      refine WE.done (by decide +kernel) ?_
      (refine st ?_; intros; rename_i a2 cp2)
      have hte : tkE D ++ [[.int .i64 3, .int .i64 (u.a : Int), .int .i64 (v.z : Int)]] = tkE (D ++ [⟨(beginK u).1, u.a, v.z⟩]) := hTE 3 hbk
      rw [show subSl (some a0) c N (u :: vs).length 5 = .slice (if c = N then some a0 else (some a0).map (·.add (N * 5))) ((u :: vs).drop N).length (c - N) from by unfold subSl; rw [hlN], hTl2, hDl, hte]
      refine WQ.next (((u :: vs).drop N).length) ⟨(u :: vs).drop N, D ++ [⟨(beginK u).1, u.a, v.z⟩], (if c = N then some a0 else (some a0).map (·.add (N * 5))), c - N, a2, cp2, rfl, rfl, rfl, rfl, rfl, ?_, ?_, ?_, ?_, ?_⟩ (by omega) zsb zpk
      · exact hsub
      · omega
      · exact hok2
      · rw [← hDl]; omega
      · exact hD2
    by_cases k11 : u.k = 11
    · have hbk : (beginK u).1 = 7 := by simp [beginK, k11]
      rw [takeN_broken k11] at hN
      (try (refine st ?_; intros))
      refine w_callF Try.func65 ?_ (hs := run_any (us := u :: vs) (J := []) (b := none) (cb := 0) (k := 11) (by omega) (by omega) (by decide) hV1 (by unfold jsE; exact RowR.nil))
      rintro v2 m9 H9 ⟨rfl, rfl, rfl⟩
      rw [show (u :: vs).drop 1 = vs from rfl, ← hN]
      (try (refine st ?_; intros))
      refine WC.drawE 17 ([.row ua uc 143 5 (usE (unitsL l))]) (.row ao co 92 3 (tkE D) :: H) rfl (by decide +kernel) zpk ?_
      (refine cmx_D23_0 ?_)
      refine WE.act1 16 (by decide +kernel) rfl rfl (fun c h => by cases h) ?_
      (refine st ?_; intros; rename_i b9)
      refine WQ.acted (B := [.blk b9 (.cells [.int .i64 7, .int .i64 (u.a : Int), .int .i64 (v.z : Int)].toArray 92 (0, 0))]) (U := .row ao co 92 3 (tkE D) :: H) rfl (Mem.le.refl _) zpk ?_
      (refine cmx_D23_0 ?_)
      refine WE.done (by decide +kernel) ?_
      (refine st ?_; intros; rename_i a2 cp2)
      have hte : tkE D ++ [[.int .i64 7, .int .i64 (u.a : Int), .int .i64 (v.z : Int)]] = tkE (D ++ [⟨(beginK u).1, u.a, v.z⟩]) := hTE 7 hbk
      rw [show subSl (some a0) c N (u :: vs).length 5 = .slice (if c = N then some a0 else (some a0).map (·.add (N * 5))) ((u :: vs).drop N).length (c - N) from by unfold subSl; rw [hlN], hTl2, hDl, hte]
      refine WQ.next (((u :: vs).drop N).length) ⟨(u :: vs).drop N, D ++ [⟨(beginK u).1, u.a, v.z⟩], (if c = N then some a0 else (some a0).map (·.add (N * 5))), c - N, a2, cp2, rfl, rfl, rfl, rfl, rfl, ?_, ?_, ?_, ?_, ?_⟩ (by omega) zsb zpk
      · exact hsub
      · omega
      · exact hok2
      · rw [← hDl]; omega
      · exact hD2
    have hk0 : u.k ≠ 1 ∧ u.k ≠ 3 ∧ u.k ≠ 5 ∧ u.k ≠ 11 := ⟨k1, k3, k5, k11⟩
    by_cases k4 : u.k = 4
    · have hbk : (beginK u).1 = 4 := by unfold beginK; rw [if_neg k1, if_neg k3, if_neg k5, if_neg k11, if_pos k4]
      by_cases hr : u.r = 13
      · (try (refine st ?_; intros))
        refine w_callF Try.func66 ?_ (hs := is_any (us := u :: vs) (i := 1) (k := 4) (by omega) hV1)
        rintro v2 m9 H9 ⟨rfl, rfl, rfl⟩
        cases hi1 : isU (u :: vs) 1 4 with
        | false =>
          have ht0 : takeN u vs = 0 := takeN_alone hk0 (.inr fun w hw => by
            unfold isU at hi1
            rw [List.getElem?_cons_succ, hw] at hi1
            intro hg
            simp [hg.1] at hi1)
          rw [ht0] at hv hN
          obtain rfl : u = v := Option.some.inj hv
          obtain rfl : N = 1 := hN
          (try (refine st ?_; intros))
          refine WC.drawE 17 ([.row ua uc 143 5 (usE (unitsL l))]) (.row ao co 92 3 (tkE D) :: H) rfl (by decide +kernel) zpk ?_
          (refine cmx_D23_0 ?_)
          refine WE.act1 16 (by decide +kernel) rfl rfl (fun c h => by cases h) ?_
          (refine st ?_; intros; rename_i b9)
          refine WQ.acted (B := [.blk b9 (.cells [.int .i64 4, .int .i64 (u.a : Int), .int .i64 (u.z : Int)].toArray 92 (0, 0))]) (U := .row ao co 92 3 (tkE D) :: H) rfl (Mem.le.refl _) zpk ?_
          (refine cmx_D23_0 ?_)
          refine WE.done (by decide +kernel) ?_
          (refine st ?_; intros; rename_i a2 cp2)
          have hte : tkE D ++ [[.int .i64 4, .int .i64 (u.a : Int), .int .i64 (u.z : Int)]] = tkE (D ++ [⟨(beginK u).1, u.a, u.z⟩]) := hTE 4 hbk
          rw [show subSl (some a0) c 1 (u :: vs).length 5 = .slice (if c = 1 then some a0 else (some a0).map (·.add (1 * 5))) ((u :: vs).drop 1).length (c - 1) from by unfold subSl; rw [hlN], hTl2, hDl, hte]
          refine WQ.next (((u :: vs).drop 1).length) ⟨(u :: vs).drop 1, D ++ [⟨(beginK u).1, u.a, u.z⟩], (if c = 1 then some a0 else (some a0).map (·.add (1 * 5))), c - 1, a2, cp2, rfl, rfl, rfl, rfl, rfl, ?_, ?_, ?_, ?_, ?_⟩ (by omega) zsb zpk
          · exact hsub
          · omega
          · exact hok2
          · rw [← hDl]; omega
          · exact hD2
        | true =>
          obtain ⟨w, hw, hwk⟩ := isU_some hi1
          have hgw := usE_get hw
          have hw1 := (List.getElem?_eq_some_iff.1 hw).1
          by_cases hwr : w.r = 10
          · have ht0 : takeN u vs = 1 := takeN_pause k4 hr (v := w) (by rw [← hw]; rfl) hwk hwr
            rw [ht0] at hv hN
            rw [hv] at hw
            obtain rfl : v = w := Option.some.inj hw
            obtain rfl : N = 2 := hN
            (try (refine st ?_; intros))
            refine WC.drawE 17 ([.row ua uc 143 5 (usE (unitsL l))]) (.row ao co 92 3 (tkE D) :: H) rfl (by decide +kernel) zpk ?_
            (refine cmx_D23_0 ?_)
            refine WE.act1 16 (by decide +kernel) rfl rfl (fun c h => by cases h) ?_
            (refine st ?_; intros; rename_i b9)
            refine WQ.acted (B := [.blk b9 (.cells [.int .i64 4, .int .i64 (u.a : Int), .int .i64 (v.z : Int)].toArray 92 (0, 0))]) (U := .row ao co 92 3 (tkE D) :: H) rfl (Mem.le.refl _) zpk ?_
            (refine cmx_D23_0 ?_)
            refine WE.done (by decide +kernel) ?_
            (refine st ?_; intros; rename_i a2 cp2)
            have hte : tkE D ++ [[.int .i64 4, .int .i64 (u.a : Int), .int .i64 (v.z : Int)]] = tkE (D ++ [⟨(beginK u).1, u.a, v.z⟩]) := hTE 4 hbk
            rw [show subSl (some a0) c 2 (u :: vs).length 5 = .slice (if c = 2 then some a0 else (some a0).map (·.add (2 * 5))) ((u :: vs).drop 2).length (c - 2) from by unfold subSl; rw [hlN], hTl2, hDl, hte]
            refine WQ.next (((u :: vs).drop 2).length) ⟨(u :: vs).drop 2, D ++ [⟨(beginK u).1, u.a, v.z⟩], (if c = 2 then some a0 else (some a0).map (·.add (2 * 5))), c - 2, a2, cp2, rfl, rfl, rfl, rfl, rfl, ?_, ?_, ?_, ?_, ?_⟩ (by omega) zsb zpk
            · exact hsub
            · omega
            · exact hok2
            · rw [← hDl]; omega
            · exact hD2
          · have ht0 : takeN u vs = 0 := takeN_alone hk0 (.inr fun w2 hw2 => by
              rw [show (u :: vs)[1]? = vs[0]? from rfl, hw2] at hw
              cases hw
              exact fun hg => hwr hg.2)
            rw [ht0] at hv hN
            obtain rfl : u = v := Option.some.inj hv
            obtain rfl : N = 1 := hN
            (try (refine st ?_; intros))
            refine WC.drawE 17 ([.row ua uc 143 5 (usE (unitsL l))]) (.row ao co 92 3 (tkE D) :: H) rfl (by decide +kernel) zpk ?_
            (refine cmx_D23_0 ?_)
            refine WE.act1 16 (by decide +kernel) rfl rfl (fun c h => by cases h) ?_
            (refine st ?_; intros; rename_i b9)
            refine WQ.acted (B := [.blk b9 (.cells [.int .i64 4, .int .i64 (u.a : Int), .int .i64 (u.z : Int)].toArray 92 (0, 0))]) (U := .row ao co 92 3 (tkE D) :: H) rfl (Mem.le.refl _) zpk ?_
            (refine cmx_D23_0 ?_)
            refine WE.done (by decide +kernel) ?_
            (refine st ?_; intros; rename_i a2 cp2)
            have hte : tkE D ++ [[.int .i64 4, .int .i64 (u.a : Int), .int .i64 (u.z : Int)]] = tkE (D ++ [⟨(beginK u).1, u.a, u.z⟩]) := hTE 4 hbk
            rw [show subSl (some a0) c 1 (u :: vs).length 5 = .slice (if c = 1 then some a0 else (some a0).map (·.add (1 * 5))) ((u :: vs).drop 1).length (c - 1) from by unfold subSl; rw [hlN], hTl2, hDl, hte]
            refine WQ.next (((u :: vs).drop 1).length) ⟨(u :: vs).drop 1, D ++ [⟨(beginK u).1, u.a, u.z⟩], (if c = 1 then some a0 else (some a0).map (·.add (1 * 5))), c - 1, a2, cp2, rfl, rfl, rfl, rfl, rfl, ?_, ?_, ?_, ?_, ?_⟩ (by omega) zsb zpk
            · exact hsub
            · omega
            · exact hok2
            · rw [← hDl]; omega
            · exact hD2
      · have ht0 : takeN u vs = 0 := takeN_alone hk0 (.inl fun hg => hr hg.2)
        rw [ht0] at hv hN
        obtain rfl : u = v := Option.some.inj hv
        obtain rfl : N = 1 := hN
        (try (refine st ?_; intros))
        refine WC.drawE 17 ([.row ua uc 143 5 (usE (unitsL l))]) (.row ao co 92 3 (tkE D) :: H) rfl (by decide +kernel) zpk ?_
        (refine cmx_D23_0 ?_)
        refine WE.act1 16 (by decide +kernel) rfl rfl (fun c h => by cases h) ?_
        (refine st ?_; intros; rename_i b9)
        refine WQ.acted (B := [.blk b9 (.cells [.int .i64 4, .int .i64 (u.a : Int), .int .i64 (u.z : Int)].toArray 92 (0, 0))]) (U := .row ao co 92 3 (tkE D) :: H) rfl (Mem.le.refl _) zpk ?_
        (refine cmx_D23_0 ?_)
        refine WE.done (by decide +kernel) ?_
        (refine st ?_; intros; rename_i a2 cp2)
        have hte : tkE D ++ [[.int .i64 4, .int .i64 (u.a : Int), .int .i64 (u.z : Int)]] = tkE (D ++ [⟨(beginK u).1, u.a, u.z⟩]) := hTE 4 hbk
        rw [show subSl (some a0) c 1 (u :: vs).length 5 = .slice (if c = 1 then some a0 else (some a0).map (·.add (1 * 5))) ((u :: vs).drop 1).length (c - 1) from by unfold subSl; rw [hlN], hTl2, hDl, hte]
        refine WQ.next (((u :: vs).drop 1).length) ⟨(u :: vs).drop 1, D ++ [⟨(beginK u).1, u.a, u.z⟩], (if c = 1 then some a0 else (some a0).map (·.add (1 * 5))), c - 1, a2, cp2, rfl, rfl, rfl, rfl, rfl, ?_, ?_, ?_, ?_, ?_⟩ (by omega) zsb zpk
        · exact hsub
        · omega
        · exact hok2
        · rw [← hDl]; omega
        · exact hD2
    have ht0 : takeN u vs = 0 := takeN_alone hk0 (.inl fun hg => k4 hg.1)
    rw [ht0] at hv hN
    obtain rfl : u = v := Option.some.inj hv
    obtain rfl : N = 1 := hN
    by_cases k6 : u.k = 6
    · have hbk : (beginK u).1 = 5 := by simp [beginK, k6]
      (try (refine st ?_; intros))
      refine WC.drawE 17 ([.row ua uc 143 5 (usE (unitsL l))]) (.row ao co 92 3 (tkE D) :: H) rfl (by decide +kernel) zpk ?_
      (refine cmx_D23_0 ?_)
      refine WE.act1 16 (by decide +kernel) rfl rfl (fun c h => by cases h) ?_
      (refine st ?_; intros; rename_i b9)
      refine WQ.acted (B := [.blk b9 (.cells [.int .i64 5, .int .i64 (u.a : Int), .int .i64 (u.z : Int)].toArray 92 (0, 0))]) (U := .row ao co 92 3 (tkE D) :: H) rfl (Mem.le.refl _) zpk ?_
      (refine cmx_D23_0 ?_)
      refine WE.done (by decide +kernel) ?_
      (refine st ?_; intros; rename_i a2 cp2)
      have hte : tkE D ++ [[.int .i64 5, .int .i64 (u.a : Int), .int .i64 (u.z : Int)]] = tkE (D ++ [⟨(beginK u).1, u.a, u.z⟩]) := hTE 5 hbk
      rw [show subSl (some a0) c 1 (u :: vs).length 5 = .slice (if c = 1 then some a0 else (some a0).map (·.add (1 * 5))) ((u :: vs).drop 1).length (c - 1) from by unfold subSl; rw [hlN], hTl2, hDl, hte]
      refine WQ.next (((u :: vs).drop 1).length) ⟨(u :: vs).drop 1, D ++ [⟨(beginK u).1, u.a, u.z⟩], (if c = 1 then some a0 else (some a0).map (·.add (1 * 5))), c - 1, a2, cp2, rfl, rfl, rfl, rfl, rfl, ?_, ?_, ?_, ?_, ?_⟩ (by omega) zsb zpk
      · exact hsub
      · omega
      · exact hok2
      · rw [← hDl]; omega
      · exact hD2
    by_cases k7 : u.k = 7
    · have hbk : (beginK u).1 = 5 := by simp [beginK, k7]
      (try (refine st ?_; intros))
      refine WC.drawE 17 ([.row ua uc 143 5 (usE (unitsL l))]) (.row ao co 92 3 (tkE D) :: H) rfl (by decide +kernel) zpk ?_
      (refine cmx_D23_0 ?_)
      refine WE.act1 16 (by decide +kernel) rfl rfl (fun c h => by cases h) ?_
      (refine st ?_; intros; rename_i b9)
      refine WQ.acted (B := [.blk b9 (.cells [.int .i64 5, .int .i64 (u.a : Int), .int .i64 (u.z : Int)].toArray 92 (0, 0))]) (U := .row ao co 92 3 (tkE D) :: H) rfl (Mem.le.refl _) zpk ?_
      (refine cmx_D23_0 ?_)
      refine WE.done (by decide +kernel) ?_
      (refine st ?_; intros; rename_i a2 cp2)
      have hte : tkE D ++ [[.int .i64 5, .int .i64 (u.a : Int), .int .i64 (u.z : Int)]] = tkE (D ++ [⟨(beginK u).1, u.a, u.z⟩]) := hTE 5 hbk
      rw [show subSl (some a0) c 1 (u :: vs).length 5 = .slice (if c = 1 then some a0 else (some a0).map (·.add (1 * 5))) ((u :: vs).drop 1).length (c - 1) from by unfold subSl; rw [hlN], hTl2, hDl, hte]
      refine WQ.next (((u :: vs).drop 1).length) ⟨(u :: vs).drop 1, D ++ [⟨(beginK u).1, u.a, u.z⟩], (if c = 1 then some a0 else (some a0).map (·.add (1 * 5))), c - 1, a2, cp2, rfl, rfl, rfl, rfl, rfl, ?_, ?_, ?_, ?_, ?_⟩ (by omega) zsb zpk
      · exact hsub
      · omega
      · exact hok2
      · rw [← hDl]; omega
      · exact hD2
    by_cases k8 : u.k = 8
    · have hbk : (beginK u).1 = 5 := by simp [beginK, k8]
      (try (refine st ?_; intros))
      refine WC.drawE 17 ([.row ua uc 143 5 (usE (unitsL l))]) (.row ao co 92 3 (tkE D) :: H) rfl (by decide +kernel) zpk ?_
      (refine cmx_D23_0 ?_)
      refine WE.act1 16 (by decide +kernel) rfl rfl (fun c h => by cases h) ?_
      (refine st ?_; intros; rename_i b9)
      refine WQ.acted (B := [.blk b9 (.cells [.int .i64 5, .int .i64 (u.a : Int), .int .i64 (u.z : Int)].toArray 92 (0, 0))]) (U := .row ao co 92 3 (tkE D) :: H) rfl (Mem.le.refl _) zpk ?_
      (refine cmx_D23_0 ?_)
      refine WE.done (by decide +kernel) ?_
      (refine st ?_; intros; rename_i a2 cp2)
      have hte : tkE D ++ [[.int .i64 5, .int .i64 (u.a : Int), .int .i64 (u.z : Int)]] = tkE (D ++ [⟨(beginK u).1, u.a, u.z⟩]) := hTE 5 hbk
      rw [show subSl (some a0) c 1 (u :: vs).length 5 = .slice (if c = 1 then some a0 else (some a0).map (·.add (1 * 5))) ((u :: vs).drop 1).length (c - 1) from by unfold subSl; rw [hlN], hTl2, hDl, hte]
      refine WQ.next (((u :: vs).drop 1).length) ⟨(u :: vs).drop 1, D ++ [⟨(beginK u).1, u.a, u.z⟩], (if c = 1 then some a0 else (some a0).map (·.add (1 * 5))), c - 1, a2, cp2, rfl, rfl, rfl, rfl, rfl, ?_, ?_, ?_, ?_, ?_⟩ (by omega) zsb zpk
      · exact hsub
      · omega
      · exact hok2
      · rw [← hDl]; omega
      · exact hD2
    · have hbk : (beginK u).1 = 6 := by unfold beginK; rw [if_neg k1, if_neg k3, if_neg k5, if_neg k11, if_neg k4, if_neg (by omega)]
      (try (refine st ?_; intros))
      refine WC.drawE 17 ([.row ua uc 143 5 (usE (unitsL l))]) (.row ao co 92 3 (tkE D) :: H) rfl (by decide +kernel) zpk ?_
      (refine cmx_D23_0 ?_)
      refine WE.act1 16 (by decide +kernel) rfl rfl (fun c h => by cases h) ?_
      (refine st ?_; intros; rename_i b9)
      refine WQ.acted (B := [.blk b9 (.cells [.int .i64 6, .int .i64 (u.a : Int), .int .i64 (u.z : Int)].toArray 92 (0, 0))]) (U := .row ao co 92 3 (tkE D) :: H) rfl (Mem.le.refl _) zpk ?_
      (refine cmx_D23_0 ?_)
      refine WE.done (by decide +kernel) ?_
      (refine st ?_; intros; rename_i a2 cp2)
      have hte : tkE D ++ [[.int .i64 6, .int .i64 (u.a : Int), .int .i64 (u.z : Int)]] = tkE (D ++ [⟨(beginK u).1, u.a, u.z⟩]) := hTE 6 hbk
      rw [show subSl (some a0) c 1 (u :: vs).length 5 = .slice (if c = 1 then some a0 else (some a0).map (·.add (1 * 5))) ((u :: vs).drop 1).length (c - 1) from by unfold subSl; rw [hlN], hTl2, hDl, hte]
      refine WQ.next (((u :: vs).drop 1).length) ⟨(u :: vs).drop 1, D ++ [⟨(beginK u).1, u.a, u.z⟩], (if c = 1 then some a0 else (some a0).map (·.add (1 * 5))), c - 1, a2, cp2, rfl, rfl, rfl, rfl, rfl, ?_, ?_, ?_, ?_, ?_⟩ (by omega) zsb zpk
      · exact hsub
      · omega
      · exact hok2
      · rw [← hDl]; omega
      · exact hD2
end Go.Proofs.Ytieangfnjflfmaa

/-
  The walk of the reference's token texts. No condition.
-/
namespace Go.Eng
open Go
theorem tkE_get {ts : List Tk} {i : Nat} {t : Tk} (h : ts[i]? = some t) : (tkE ts)[i]? = some [.int .i64 (t.k : Int), .int .i64 (t.a : Int), .int .i64 (t.z : Int)] := by unfold tkE; rw [List.getElem?_map, h]; rfl
theorem strs_take {A : List Tx} {i : Nat} {x : Tx} (h : A[i]? = some x) : strs (A.take (i + 1)) = strs (A.take i) ++ [[str x]] := by
  unfold strs
  rw [List.take_succ, h]; simp
end Go.Eng
namespace Go.Proofs.Ytieangfnjflfmaa
open Go Go.Eng
set_option maxRecDepth 100000
set_option maxHeartbeats 4000000
set_option linter.all false
attribute [local irreducible] WL WC WQ QFun QLoop Does Q1 QRound QAssign Go.Addr.add
attribute [local irreducible] tkE strs tokens toks
theorem rtoks_any (l : List UInt8) (hl : l.length ≤ 4194304) (w0 : World) (m : Mem) (H : SHeap) :
    Does Try.prog 31 #[str l] w0 m H (fun v m' H' => m.le m' ∧ ∃ a cp, v = .slice a (toks l).length cp ∧ H' = .row a cp 9 1 (strs (toks l)) :: H) := by
  refine Does.of_body (args := [str l]) Try.func31 rfl Try.ntmps31 rfl ?_
  have hkl := toks_length0 l
  have hkl2 := toks_length l
  refine WC.newRow (T := 9) (sz := 1) ?_
  (try (refine st ?_; intros))
  refine w_callF Try.func47 ?_ (hs := ref7Tokens_any l (by omega) _ _ _)
  rintro v m1 H0 ⟨hm1, ta, tc, rfl, rfl⟩
  have htl := tkE_length (tokens l)
  (try (refine st ?_; intros))
  rw [show ([] : List (List Value)) = strs ((toks l).take 0) from by unfold strs; rfl]
  refine WC.loopH [(9, .int .i64 ((0) : Int)), (8, .int .i64 ((tokens l).length : Int)), (7, .slice ta (tokens l).length tc), (3, .slice (none) (0) (0)), (0, str l)] ?_ ?_ (fun j r ds m' H' => ∃ (i : Nat) (a : Option Addr) (cp : Nat), j = (tokens l).length - i ∧ r = [(9, .int .i64 (i : Int)), (8, .int .i64 ((tokens l).length : Int)), (7, .slice ta (tokens l).length tc), (3, .slice a i cp), (0, str l)] ∧ ds = [] ∧ m1 = m' ∧ H' = .row a cp 9 1 (strs ((toks l).take i)) :: .row ta tc 92 3 (tkE (tokens l)) :: H ∧ (i ≤ (tokens l).length)) ((tokens l).length - (0)) ⟨0, none, 0, rfl, rfl, rfl, rfl, rfl, by omega⟩ ?_
  · (repeat (first | exact Env.Sub.nil | refine Env.Sub.cons rfl ?_))
  · exact zpk
  rintro j r ds m' H' ⟨i, a, cp, rfl, rfl, rfl, rfl, rfl, hi⟩
  by_cases hlt : i < (tokens l).length
  · obtain ⟨t, ht⟩ : ∃ t, (tokens l)[i]? = some t := ⟨_, List.getElem?_eq_getElem hlt⟩
    have htz := (tokens_chain l).mem t (List.mem_of_getElem? ht)
    have hgt := tkE_get ht
    have hx : (toks l)[i]? = some ((l.take t.z).drop t.a) := by unfold toks; rw [List.getElem?_map, ht]; rfl
    have hsn := strs_take hx
    have hsl : (strs ((toks l).take i)).length = i := by rw [strs_length, List.length_take]; omega
    generalize strs ((toks l).take i) = SE at *
    generalize tkE (tokens l) = TE at *
    refine WC.rowSome (a := ta) (es := TE) zhs (by omega) ?_
    rintro t0 rfl
    (refine st ?_; intros; rename_i bt b9 a2 cp2)
    rw [hsl, ← hsn]
    refine WQ.next ((tokens l).length - (i + 1)) ⟨i + 1, a2, cp2, rfl, rfl, rfl, rfl, rfl, ?_⟩ (by omega) zsb zpk
    · omega
  · obtain rfl : i = (tokens l).length := by omega
    rw [List.take_of_length_le (by omega), ← hkl]
    (try (refine st ?_; intros))
    exact q_fin0 (H0 := .row a cp 9 1 (strs (toks l)) :: H) ⟨hm1, a, cp, rfl, rfl⟩ (hd := zpk)
end Go.Proofs.Ytieangfnjflfmaa

/-
  The walk of the reference's Match, put together. No condition.
-/
namespace Go.Proofs.Ytieangfnjflfmaa
open Go Go.Eng
set_option maxRecDepth 100000
set_option maxHeartbeats 4000000
set_option linter.all false
attribute [local irreducible] WL WC WQ QFun QLoop Does Q1 QRound QAssign Go.Addr.add
attribute [local irreducible] midL strs headN mid diagL tailP matchL toks
theorem rmatch_any (s t : List UInt8) (hs : s.length ≤ 4194304) (ht : t.length ≤ 4194304) (w0 : World) (m : Mem) (H : SHeap) :
    Does Try.prog 15 #[str s, str t] w0 m H (fun v m' H' => m.le m' ∧ ∃ a cp, v = .slice a (matchL (toks s) (toks t)).length cp ∧ H' = .row a cp 44 2 ((matchL (toks s) (toks t)).map prE) :: H) := by
  refine Does.of_body (args := [str s, str t]) Try.func15 rfl Try.ntmps15 rfl ?_
  have hA0 := toks_length s
  have hB0 := toks_length t
  (try (refine st ?_; intros))
  refine w_callF Try.func31 ?_ (hs := rtoks_any s (by omega) _ _ _)
  rintro v m1 H1 ⟨hm1, aa, ca, rfl, rfl⟩
  (try (refine st ?_; intros))
  refine w_callF Try.func31 ?_ (hs := rtoks_any t (by omega) _ _ _)
  rintro v m2 H1 ⟨hm2, ab, cb, rfl, rfl⟩
  have hm12 := hm1.trans hm2
  have hA : (toks s).length ≤ 4194304 := by omega
  have hB : (toks t).length ≤ 4194304 := by omega
  clear hA0 hB0 hm1 hm2
  generalize toks s = A at *
  generalize toks t = B at *
  refine WL.rowCap (a := aa) (cap := ca) (T := 9) (sz := 1) (es := strs A) zhs ?_
  intro hca
  refine WL.rowCap (a := ab) (cap := cb) (T := 9) (sz := 1) (es := strs B) zhs ?_
  intro hcb
  rw [strs_length] at hca hcb
  have ha : RowR w0 m2 (.row ab cb 9 1 (strs B) :: .row aa ca 9 1 (strs A) :: H) 1 aa (strs A) := RowR.row (T := 9) (cap := ca) zhs
  have hb : RowR w0 m2 (.row ab cb 9 1 (strs B) :: .row aa ca 9 1 (strs A) :: H) 1 ab (strs B) := RowR.row (T := 9) (cap := cb) zhs
  have hdrop : ∀ i w, Sat w0 m2 (i :: .row ab cb 9 1 (strs B) :: .row aa ca 9 1 (strs A) :: H) w → Sat w0 m2 (i :: H) w := fun i => zpk
  generalize Eng.Item.row ab cb 9 1 (strs B) :: Eng.Item.row aa ca 9 1 (strs A) :: H = Y at ha hb hdrop ⊢
  rw [match_eq]
  have hht := tailN_le A B
  have hhl := headN_le A B
  have hTd : tailN A B = headN ((A.drop (headN A B)).reverse) ((B.drop (headN A B)).reverse) := rfl
  have hmA : midA A B = (A.take (A.length - tailN A B)).drop (headN A B) := rfl
  have hmB : midB A B = (B.take (B.length - tailN A B)).drop (headN A B) := rfl
  (try (refine st ?_; intros))
  refine WC.weak zsb zpk (rm_head hA hB ha hb ?_)
  intro oa oc
  generalize headN A B = h at *
  (try (refine st ?_; intros))
  refine WC.weak zsb zpk (rm_tail (H := .row oa oc 44 2 ((diagL 0 0 h).map prE) :: Y) hA hB hhl ha.more hb.more ?_)
  intro t' n q ta tc ht' hn hq
  rw [← ht'] at hTd
  rw [hTd] at hht hmA hmB ⊢
  clear ht' hTd
  have hmAl : (midA A B).length = n - h := by rw [hmA, List.length_drop, List.length_take]; omega
  have hmBl : (midB A B).length = q - h := by rw [hmB, List.length_drop, List.length_take]; omega
  have hsa := ha.sub (lo := h) (hi := n) (cap := ca) (by rw [strs_length]; omega) (by rw [strs_length]; omega)
  have hsb := hb.sub (lo := h) (hi := q) (cap := cb) (by rw [strs_length]; omega) (by rw [strs_length]; omega)
  rw [show A.length - t' = n by omega] at hmA
  rw [show B.length - t' = q by omega] at hmB
  rw [strs_sub, ← hmA] at hsa
  rw [strs_sub, ← hmB] at hsb
  generalize midA A B = MA at *
  generalize midB A B = MB at *
  clear hmA hmB
  have hsl := strs_length A
  have hsl2 := strs_length B
  by_cases hmid : MA.length ≤ 1024 ∧ MB.length ≤ 1024
  · obtain ⟨h1, h2⟩ := hmid
    have hmd : mid MA MB h = (midL MA MB 0 0).map fun p => (h + p.1, h + p.2) := by
      unfold mid
      rw [if_pos ⟨h1, h2⟩]
      exact midL_shift MA MB 0 0 h h
    have hml : (midL MA MB 0 0).length ≤ 1024 := by rw [midL_length]; have := (lcs_le MA MB).1; omega
    have hml2 : (midL MA MB 0 0).length ≤ MA.length := by rw [midL_length]; exact (lcs_le MA MB).1
    have hmb : ∀ p ∈ midL MA MB 0 0, p.1 ≤ 4194304 ∧ p.2 ≤ 4194304 := by
      intro p hp
      have := (midL_ok (a := MA) (b := MB) MA MB 0 0 MA.length MB.length (by simp) (by simp) (Nat.zero_le _) (Nat.zero_le _) (Nat.le_refl _) (Nat.le_refl _)).mem p hp
      omega
    rw [hmd]
    have hPl : (diagL 0 0 h).length = h := diagL_length _ _ _
    (try (refine st ?_; intros))
    refine WC.drawE 11 ([]) (.row ta tc 44 2 ((tailP A.length B.length t').map prE) :: .row oa oc 44 2 ((diagL 0 0 h).map prE) :: Y) rfl (by decide +kernel) zpk ?_
    (refine cm0 ?_)
    refine WE.act1 8 (by decide +kernel) rfl rfl (fun c h => by cases h) ?_
    have e1 : subSl aa ca h n 1 = .slice (if ca = h then aa else aa.map (·.add (h * 1))) MA.length (ca - h) := by unfold subSl; rw [hmAl]
    have e2 : subSl ab cb h q 1 = .slice (if cb = h then ab else ab.map (·.add (h * 1))) MB.length (cb - h) := by unfold subSl; rw [hmBl]
    rw [e1, e2]
    refine w_callF Try.func34 ?_ (hs := longest_any h1 h2 hsa.more.more hsb.more.more)
    rintro v m H9 ⟨rfl, a2, cp2, rfl, rfl⟩
    (try (refine st ?_; intros))
    refine WQ.acted (B := []) (U := .row a2 cp2 44 2 ((midL MA MB 0 0).map prE) :: .row ta tc 44 2 ((tailP A.length B.length t').map prE) :: .row oa oc 44 2 ((diagL 0 0 h).map prE) :: Y) rfl (Mem.le.refl _) zpk ?_
    (refine cm0 ?_)
    refine WE.done (by decide +kernel) ?_
    generalize midL MA MB 0 0 = M at *
    (try (refine st ?_; intros))
    have hoe : (Value.slice oa h oc) = .slice oa (diagL 0 0 h).length oc := by rw [hPl]
    rw [hoe]
    refine WC.weak zsb zpk (rm_mid (P := diagL 0 0 h) (M := M) (h := h) (H := .row ta tc 44 2 ((tailP A.length B.length t').map prE) :: Y) (by omega) hml (by omega) hmb ?_)
    intro a3 c3
    (try (refine st ?_; intros))
    refine WC.weak zsb zpk (rm_back (P := diagL 0 0 h ++ M.map fun p => (h + p.1, h + p.2)) (x := A.length) (y := B.length) (t := t') (H := Y) (by rw [List.length_append, hPl, List.length_map]; omega) (by omega) (by omega) (by omega) ?_)
    intro a4 c4
    (try (refine st ?_; intros))
    exact q_fin0 (H0 := .row a4 c4 44 2 ((diagL 0 0 h ++ (M.map fun p => (h + p.1, h + p.2)) ++ diagL (A.length - t') (B.length - t') t').map prE) :: H) ⟨hm12, a4, c4, congrArg (fun k => Value.slice a4 k c4) (show (diagL 0 0 h ++ M.map fun p => (h + p.1, h + p.2)).length + t' = _ by simp only [List.length_append, diagL_length]), rfl⟩ (hd := fun w h => hdrop _ w h)
  · have hmd : mid MA MB h = [] := by unfold mid; rw [if_neg hmid]
    have hPl : (diagL 0 0 h).length = h := diagL_length _ _ _
    rw [hmd, List.append_nil]
    have hoe : (Value.slice oa h oc) = .slice oa (diagL 0 0 h).length oc := by rw [hPl]
    have hor : ¬ MA.length ≤ 1024 ∨ (MA.length ≤ 1024 ∧ ¬ MB.length ≤ 1024) := by omega
    rcases hor with hor | ⟨hor, hor2⟩
    all_goals
      (try (refine st ?_; intros))
      rw [hoe]
      refine WC.weak zsb zpk (rm_back (P := diagL 0 0 h) (x := A.length) (y := B.length) (t := t') (H := Y) (by omega) (by omega) (by omega) (by omega) ?_)
      intro a4 c4
      (try (refine st ?_; intros))
      exact q_fin0 (H0 := .row a4 c4 44 2 ((diagL 0 0 h ++ diagL (A.length - t') (B.length - t') t').map prE) :: H) ⟨hm12, a4, c4, congrArg (fun k => Value.slice a4 k c4) (show (diagL 0 0 h).length + t' = _ by simp only [List.length_append, diagL_length]), rfl⟩ (hd := fun w h => hdrop _ w h)
end Go.Proofs.Ytieangfnjflfmaa

/-
  The walks of the reference's side and of its maps. No condition.
-/
namespace Go.Proofs.Ytieangfnjflfmaa
open Go Go.Eng
set_option maxRecDepth 100000
set_option maxHeartbeats 4000000
set_option linter.all false
attribute [local irreducible] WL WC WQ QFun QLoop Does Q1 QRound QAssign Go.Addr.add
attribute [local irreducible] kv mapO cfs
theorem sq_D30_1 {G : Prop} (h : G := by (repeat (first | (refine sp ?_; (repeat intro zzc)) | (refine WL.append1 (by':=64) rfl rfl rfl rfl (by (repeat (first | exact Out.here | apply Out.there))) zhs (by exact rfl) (by exact rfl) (by exact rfl) (by exact rfl) (by exact rfl) (by exact rfl) (by first | exact rfl | omega) (by first | omega | (simp; omega)) (by decide) (by exact rfl) ?_; intro zzc zzc) | (refine WL.indexAddrA rfl rfl (by (first | with_reducible exact natz _ | with_reducible exact natz0 | with_reducible exact natz1 | with_reducible exact natz2 | with_reducible exact natz3 | with_reducible exact natz4 | with_reducible exact natz8 | (apply natz_add; (· first | with_reducible exact natz _ | with_reducible exact natz0 | with_reducible exact natz1 | with_reducible exact natz2 | with_reducible exact natz3 | with_reducible exact natz4 | with_reducible exact natz8); (· first | with_reducible exact natz _ | with_reducible exact natz0 | with_reducible exact natz1 | with_reducible exact natz2 | with_reducible exact natz3 | with_reducible exact natz4 | with_reducible exact natz8)) | (apply natz_sub; (· first | with_reducible exact natz _ | with_reducible exact natz0 | with_reducible exact natz1 | with_reducible exact natz2 | with_reducible exact natz3 | with_reducible exact natz4 | with_reducible exact natz8); (· first | with_reducible exact natz _ | with_reducible exact natz0 | with_reducible exact natz1 | with_reducible exact natz2 | with_reducible exact natz3 | with_reducible exact natz4 | with_reducible exact natz8); (· omega)) | exact (Int.toNat_of_nonneg (by omega)).symm)) rfl rfl (by omega) rfl rfl ?_))); exact WQ.q1 rfl) : G := h
theorem cm_D30_1 {G G' : Prop} (next : G') (h : Bx G' → G := by intro zzn; (try (refine wcal 0 ?_ (hwl := by intro zm zF zle; exact sq_D30_1))); (try (refine wcal 1 ?_ (hwl := by intro zm zF zle; exact sq_D30_1))); (try (refine wcal 2 ?_ (hwl := by intro zm zF zle; exact sq_D30_1))); (try (refine wcal 3 ?_ (hwl := by intro zm zF zle; exact sq_D30_1))); (try (refine wcal 4 ?_ (hwl := by intro zm zF zle; exact sq_D30_1))); (try (refine wcal 5 ?_ (hwl := by intro zm zF zle; exact sq_D30_1))); (try (refine wcal 6 ?_ (hwl := by intro zm zF zle; exact sq_D30_1))); (try (refine wcal 7 ?_ (hwl := by intro zm zF zle; exact sq_D30_1))); (try (refine wcal 8 ?_ (hwl := by intro zm zF zle; exact sq_D30_1))); (try (refine wcal 9 ?_ (hwl := by intro zm zF zle; exact sq_D30_1))); (try (refine wcal 10 ?_ (hwl := by intro zm zF zle; exact sq_D30_1))); (try (refine wcal 11 ?_ (hwl := by intro zm zF zle; exact sq_D30_1))); (try (refine wcal 12 ?_ (hwl := by intro zm zF zle; exact sq_D30_1))); (try (refine wcal 13 ?_ (hwl := by intro zm zF zle; exact sq_D30_1))); (try (refine wcal 14 ?_ (hwl := by intro zm zF zle; exact sq_D30_1))); (try (refine wcal 15 ?_ (hwl := by intro zm zF zle; exact sq_D30_1))); (try (refine wcal 16 ?_ (hwl := by intro zm zF zle; exact sq_D30_1))); (try (refine wcal 17 ?_ (hwl := by intro zm zF zle; exact sq_D30_1))); (try (refine wcal 18 ?_ (hwl := by intro zm zF zle; exact sq_D30_1))); (try (refine wcal 19 ?_ (hwl := by intro zm zF zle; exact sq_D30_1))); (try (refine wcal 20 ?_ (hwl := by intro zm zF zle; exact sq_D30_1))); (try (refine wcal 21 ?_ (hwl := by intro zm zF zle; exact sq_D30_1))); (try (refine wcal 22 ?_ (hwl := by intro zm zF zle; exact sq_D30_1))); (try (refine wcal 23 ?_ (hwl := by intro zm zF zle; exact sq_D30_1))); (try (refine wcal 24 ?_ (hwl := by intro zm zF zle; exact sq_D30_1))); (try (refine wcal 25 ?_ (hwl := by intro zm zF zle; exact sq_D30_1))); (try (refine wcal 26 ?_ (hwl := by intro zm zF zle; exact sq_D30_1))); (try (refine wcal 27 ?_ (hwl := by intro zm zF zle; exact sq_D30_1))); (try (refine wcal 28 ?_ (hwl := by intro zm zF zle; exact sq_D30_1))); (try (refine wcal 29 ?_ (hwl := by intro zm zF zle; exact sq_D30_1))); (try (refine wcal 30 ?_ (hwl := by intro zm zF zle; exact sq_D30_1))); (try (refine wcal 31 ?_ (hwl := by intro zm zF zle; exact sq_D30_1))); (try (refine wcal 32 ?_ (hwl := by intro zm zF zle; exact sq_D30_1))); (try (refine wcal 33 ?_ (hwl := by intro zm zF zle; exact sq_D30_1))); (try (refine wcal 34 ?_ (hwl := by intro zm zF zle; exact sq_D30_1))); (try (refine wcal 35 ?_ (hwl := by intro zm zF zle; exact sq_D30_1))); (try (refine wcal 36 ?_ (hwl := by intro zm zF zle; exact sq_D30_1))); (try (refine wcal 37 ?_ (hwl := by intro zm zF zle; exact sq_D30_1))); (try (refine wcal 38 ?_ (hwl := by intro zm zF zle; exact sq_D30_1))); (try (refine wcal 39 ?_ (hwl := by intro zm zF zle; exact sq_D30_1))); (try (refine wcal 40 ?_ (hwl := by intro zm zF zle; exact sq_D30_1))); (try (refine wcal 41 ?_ (hwl := by intro zm zF zle; exact sq_D30_1))); exact zzn.out) : G := h ⟨next⟩
theorem st_D30_1 {G G' : Prop} (next : G') (h : Bx G' → G := by intro zzn; (first | ((refine st ?_; (repeat intro zzc)); (try ((first | (refine WL.append1 (by':=64) rfl rfl rfl rfl (by (repeat (first | exact Out.here | apply Out.there))) zhs (by exact rfl) (by exact rfl) (by exact rfl) (by exact rfl) (by exact rfl) (by exact rfl) (by first | exact rfl | omega) (by first | omega | (simp; omega)) (by decide) (by exact rfl) ?_; intro zzc zzc) | (refine WL.indexAddrA rfl rfl (by (first | with_reducible exact natz _ | with_reducible exact natz0 | with_reducible exact natz1 | with_reducible exact natz2 | with_reducible exact natz3 | with_reducible exact natz4 | with_reducible exact natz8 | (apply natz_add; (· first | with_reducible exact natz _ | with_reducible exact natz0 | with_reducible exact natz1 | with_reducible exact natz2 | with_reducible exact natz3 | with_reducible exact natz4 | with_reducible exact natz8); (· first | with_reducible exact natz _ | with_reducible exact natz0 | with_reducible exact natz1 | with_reducible exact natz2 | with_reducible exact natz3 | with_reducible exact natz4 | with_reducible exact natz8)) | (apply natz_sub; (· first | with_reducible exact natz _ | with_reducible exact natz0 | with_reducible exact natz1 | with_reducible exact natz2 | with_reducible exact natz3 | with_reducible exact natz4 | with_reducible exact natz8); (· first | with_reducible exact natz _ | with_reducible exact natz0 | with_reducible exact natz1 | with_reducible exact natz2 | with_reducible exact natz3 | with_reducible exact natz4 | with_reducible exact natz8); (· omega)) | exact (Int.toNat_of_nonneg (by omega)).symm)) rfl rfl (by omega) rfl rfl ?_) | ((refine iDraw ?_; (first | refine WC.drawAll rfl (by decide +kernel) ?_ | refine WC.draw 1 rfl (by decide +kernel) ?_ | refine WC.draw 2 rfl (by decide +kernel) ?_ | refine WC.draw 3 rfl (by decide +kernel) ?_ | refine WC.draw 4 rfl (by decide +kernel) ?_ | refine WC.draw 5 rfl (by decide +kernel) ?_ | refine WC.draw 6 rfl (by decide +kernel) ?_ | refine WC.draw 7 rfl (by decide +kernel) ?_ | refine WC.draw 8 rfl (by decide +kernel) ?_ | refine WC.draw 9 rfl (by decide +kernel) ?_ | refine WC.draw 10 rfl (by decide +kernel) ?_ | refine WC.draw 11 rfl (by decide +kernel) ?_ | refine WC.draw 12 rfl (by decide +kernel) ?_ | refine WC.draw 13 rfl (by decide +kernel) ?_ | refine WC.draw 14 rfl (by decide +kernel) ?_ | refine WC.draw 15 rfl (by decide +kernel) ?_ | refine WC.draw 16 rfl (by decide +kernel) ?_ | refine WC.draw 17 rfl (by decide +kernel) ?_ | refine WC.draw 18 rfl (by decide +kernel) ?_ | refine WC.draw 19 rfl (by decide +kernel) ?_ | refine WC.draw 20 rfl (by decide +kernel) ?_ | refine WC.draw 21 rfl (by decide +kernel) ?_ | refine WC.draw 22 rfl (by decide +kernel) ?_ | refine WC.draw 23 rfl (by decide +kernel) ?_ | refine WC.draw 24 rfl (by decide +kernel) ?_)); (repeat (refine WD.cons rfl (fun c h => by cases h) sq_D30_1 ?_)); refine WD.nil ?_)); (try (refine st ?_; (repeat intro zzc)))))) | ((first | (refine WL.append1 (by':=64) rfl rfl rfl rfl (by (repeat (first | exact Out.here | apply Out.there))) zhs (by exact rfl) (by exact rfl) (by exact rfl) (by exact rfl) (by exact rfl) (by exact rfl) (by first | exact rfl | omega) (by first | omega | (simp; omega)) (by decide) (by exact rfl) ?_; intro zzc zzc) | (refine WL.indexAddrA rfl rfl (by (first | with_reducible exact natz _ | with_reducible exact natz0 | with_reducible exact natz1 | with_reducible exact natz2 | with_reducible exact natz3 | with_reducible exact natz4 | with_reducible exact natz8 | (apply natz_add; (· first | with_reducible exact natz _ | with_reducible exact natz0 | with_reducible exact natz1 | with_reducible exact natz2 | with_reducible exact natz3 | with_reducible exact natz4 | with_reducible exact natz8); (· first | with_reducible exact natz _ | with_reducible exact natz0 | with_reducible exact natz1 | with_reducible exact natz2 | with_reducible exact natz3 | with_reducible exact natz4 | with_reducible exact natz8)) | (apply natz_sub; (· first | with_reducible exact natz _ | with_reducible exact natz0 | with_reducible exact natz1 | with_reducible exact natz2 | with_reducible exact natz3 | with_reducible exact natz4 | with_reducible exact natz8); (· first | with_reducible exact natz _ | with_reducible exact natz0 | with_reducible exact natz1 | with_reducible exact natz2 | with_reducible exact natz3 | with_reducible exact natz4 | with_reducible exact natz8); (· omega)) | exact (Int.toNat_of_nonneg (by omega)).symm)) rfl rfl (by omega) rfl rfl ?_) | ((refine iDraw ?_; (first | refine WC.drawAll rfl (by decide +kernel) ?_ | refine WC.draw 1 rfl (by decide +kernel) ?_ | refine WC.draw 2 rfl (by decide +kernel) ?_ | refine WC.draw 3 rfl (by decide +kernel) ?_ | refine WC.draw 4 rfl (by decide +kernel) ?_ | refine WC.draw 5 rfl (by decide +kernel) ?_ | refine WC.draw 6 rfl (by decide +kernel) ?_ | refine WC.draw 7 rfl (by decide +kernel) ?_ | refine WC.draw 8 rfl (by decide +kernel) ?_ | refine WC.draw 9 rfl (by decide +kernel) ?_ | refine WC.draw 10 rfl (by decide +kernel) ?_ | refine WC.draw 11 rfl (by decide +kernel) ?_ | refine WC.draw 12 rfl (by decide +kernel) ?_ | refine WC.draw 13 rfl (by decide +kernel) ?_ | refine WC.draw 14 rfl (by decide +kernel) ?_ | refine WC.draw 15 rfl (by decide +kernel) ?_ | refine WC.draw 16 rfl (by decide +kernel) ?_ | refine WC.draw 17 rfl (by decide +kernel) ?_ | refine WC.draw 18 rfl (by decide +kernel) ?_ | refine WC.draw 19 rfl (by decide +kernel) ?_ | refine WC.draw 20 rfl (by decide +kernel) ?_ | refine WC.draw 21 rfl (by decide +kernel) ?_ | refine WC.draw 22 rfl (by decide +kernel) ?_ | refine WC.draw 23 rfl (by decide +kernel) ?_ | refine WC.draw 24 rfl (by decide +kernel) ?_)); (repeat (refine WD.cons rfl (fun c h => by cases h) sq_D30_1 ?_)); refine WD.nil ?_)); (try (refine st ?_; (repeat intro zzc))))); (repeat ((first | (refine WL.append1 (by':=64) rfl rfl rfl rfl (by (repeat (first | exact Out.here | apply Out.there))) zhs (by exact rfl) (by exact rfl) (by exact rfl) (by exact rfl) (by exact rfl) (by exact rfl) (by first | exact rfl | omega) (by first | omega | (simp; omega)) (by decide) (by exact rfl) ?_; intro zzc zzc) | (refine WL.indexAddrA rfl rfl (by (first | with_reducible exact natz _ | with_reducible exact natz0 | with_reducible exact natz1 | with_reducible exact natz2 | with_reducible exact natz3 | with_reducible exact natz4 | with_reducible exact natz8 | (apply natz_add; (· first | with_reducible exact natz _ | with_reducible exact natz0 | with_reducible exact natz1 | with_reducible exact natz2 | with_reducible exact natz3 | with_reducible exact natz4 | with_reducible exact natz8); (· first | with_reducible exact natz _ | with_reducible exact natz0 | with_reducible exact natz1 | with_reducible exact natz2 | with_reducible exact natz3 | with_reducible exact natz4 | with_reducible exact natz8)) | (apply natz_sub; (· first | with_reducible exact natz _ | with_reducible exact natz0 | with_reducible exact natz1 | with_reducible exact natz2 | with_reducible exact natz3 | with_reducible exact natz4 | with_reducible exact natz8); (· first | with_reducible exact natz _ | with_reducible exact natz0 | with_reducible exact natz1 | with_reducible exact natz2 | with_reducible exact natz3 | with_reducible exact natz4 | with_reducible exact natz8); (· omega)) | exact (Int.toNat_of_nonneg (by omega)).symm)) rfl rfl (by omega) rfl rfl ?_) | ((refine iDraw ?_; (first | refine WC.drawAll rfl (by decide +kernel) ?_ | refine WC.draw 1 rfl (by decide +kernel) ?_ | refine WC.draw 2 rfl (by decide +kernel) ?_ | refine WC.draw 3 rfl (by decide +kernel) ?_ | refine WC.draw 4 rfl (by decide +kernel) ?_ | refine WC.draw 5 rfl (by decide +kernel) ?_ | refine WC.draw 6 rfl (by decide +kernel) ?_ | refine WC.draw 7 rfl (by decide +kernel) ?_ | refine WC.draw 8 rfl (by decide +kernel) ?_ | refine WC.draw 9 rfl (by decide +kernel) ?_ | refine WC.draw 10 rfl (by decide +kernel) ?_ | refine WC.draw 11 rfl (by decide +kernel) ?_ | refine WC.draw 12 rfl (by decide +kernel) ?_ | refine WC.draw 13 rfl (by decide +kernel) ?_ | refine WC.draw 14 rfl (by decide +kernel) ?_ | refine WC.draw 15 rfl (by decide +kernel) ?_ | refine WC.draw 16 rfl (by decide +kernel) ?_ | refine WC.draw 17 rfl (by decide +kernel) ?_ | refine WC.draw 18 rfl (by decide +kernel) ?_ | refine WC.draw 19 rfl (by decide +kernel) ?_ | refine WC.draw 20 rfl (by decide +kernel) ?_ | refine WC.draw 21 rfl (by decide +kernel) ?_ | refine WC.draw 22 rfl (by decide +kernel) ?_ | refine WC.draw 23 rfl (by decide +kernel) ?_ | refine WC.draw 24 rfl (by decide +kernel) ?_)); (repeat (refine WD.cons rfl (fun c h => by cases h) sq_D30_1 ?_)); refine WD.nil ?_)); (try (refine st ?_; (repeat intro zzc))))); (repeat revert zzc); exact zzn.out) : G := h ⟨next⟩
theorem rside_any {O old own other : Tx} {L : List Cf} {al : Option Addr} {bw cl : Nat} {w0 : World} {m : Mem} {H : SHeap} (hO : O.length ≤ 1099511627776) (hw : own.length ≤ 4194304) (ho : other.length ≤ 4194304) (hL : L.length ≤ 4194304) :
    Does Try.prog 32 #[.pointer (some ⟨bw, 0, none⟩), str old, str own, str other] w0 m (.blk bw (.cells [str O, .slice al L.length cl].toArray 78 (0, 0)) :: .row al cl 36 5 (cfs L) :: H)
      (fun _ m' H' => m' = m ∧ ∃ al2 cl2, H' = .blk bw (.cells [str (O ++ sideT old own other), .slice al2 (L ++ sideC O.length old own other).length cl2].toArray 78 (0, 0)) :: .row al2 cl2 36 5 (cfs (L ++ sideC O.length old own other)) :: H) := by
  refine Does.of_body (args := [.pointer (some ⟨bw, 0, none⟩), str old, str own, str other]) Try.func32 rfl Try.ntmps32 rfl ?_
  have hcf := cfs_length L
  by_cases h1 : other = old
  · rw [show sideT old own other = own from if_neg (fun g => g.1 h1), show sideC O.length old own other = [] from if_neg (fun g => g.1 h1), List.append_nil]
    (try (refine st_D30_1 ?_; intros))
    exact q_finNorm0 (H0 := .blk bw (.cells [str (O ++ own), .slice al L.length cl].toArray 78 (0, 0)) :: .row al cl 36 5 (cfs L) :: H) ⟨rfl, al, cl, rfl⟩ (hd := zpk)
  by_cases h2 : own = old
  · rw [show sideT old own other = other from if_pos ⟨h1, h2⟩, show sideC O.length old own other = [] from if_neg (fun g => g.2.1 h2), List.append_nil]
    (try (refine st_D30_1 ?_; intros))
    exact q_finNorm0 (H0 := .blk bw (.cells [str (O ++ other), .slice al L.length cl].toArray 78 (0, 0)) :: .row al cl 36 5 (cfs L) :: H) ⟨rfl, al, cl, rfl⟩ (hd := zpk)
  by_cases h3 : own = other
  · rw [show sideT old own other = own from if_neg (fun g => h2 g.2), show sideC O.length old own other = [] from if_neg (fun g => g.2.2 h3), List.append_nil]
    (try (refine st_D30_1 ?_; intros))
    exact q_finNorm0 (H0 := .blk bw (.cells [str (O ++ own), .slice al L.length cl].toArray 78 (0, 0)) :: .row al cl 36 5 (cfs L) :: H) ⟨rfl, al, cl, rfl⟩ (hd := zpk)
  · rw [show sideT old own other = own from if_neg (fun g => h2 g.2), show sideC O.length old own other = [⟨O.length, O.length + own.length, old, own, other⟩] from if_pos ⟨h1, h2, h3⟩]
    have hll : L.length + 1 = (L ++ [(⟨O.length, O.length + own.length, old, own, other⟩ : Cf)]).length := by simp
    have hlc : cfs L ++ [[.int .i64 (O.length : Int), .int .i64 ((O.length : Int) + (own.length : Int)), str old, str own, str other]] = cfs (L ++ [⟨O.length, O.length + own.length, old, own, other⟩]) := by
      unfold cfs
      rw [List.map_append]
      simp [Cf.cs]
    (try (refine st_D30_1 ?_; intros))
    refine WC.drawE 27 ([.blk bw (.cells [str O, .slice al L.length cl].toArray 78 (0, 0))]) (.row al cl 36 5 (cfs L) :: H) rfl (by decide +kernel) zpk ?_
    (refine cm_D30_1 ?_)
    refine WE.act1 23 (by decide +kernel) rfl rfl (fun c h => by cases h) ?_
    (refine st_D30_1 ?_; intros; rename_i b9)
    refine WQ.acted (B := [.blk b9 (.cells [.int .i64 (O.length : Int), .int .i64 ((O.length : Int) + (own.length : Int)), str old, str own, str other].toArray 36 (0, 0))]) (U := .row al cl 36 5 (cfs L) :: H) rfl (Mem.le.refl _) zpk ?_
    (refine cm_D30_1 ?_)
    refine WE.act1 24 (by decide +kernel) rfl rfl (fun c h => by cases h) ?_
    (refine st_D30_1 ?_; intros; rename_i al2 cl2)
    rw [hcf]
    refine WQ.acted (B := []) (U := .row al2 cl2 36 5 (cfs L ++ [[.int .i64 (O.length : Int), .int .i64 ((O.length : Int) + (own.length : Int)), str old, str own, str other]]) :: H) rfl (Mem.le.refl _) zpk ?_
    (refine cm_D30_1 ?_)
    refine WE.done (by decide +kernel) ?_
    (try (refine st_D30_1 ?_; intros))
    rw [hll, hlc]
    exact q_finNorm0 (H0 := .blk bw (.cells [str (O ++ own), .slice al2 (L ++ [(⟨O.length, O.length + own.length, old, own, other⟩ : Cf)]).length cl2].toArray 78 (0, 0)) :: .row al2 cl2 36 5 (cfs (L ++ [⟨O.length, O.length + own.length, old, own, other⟩])) :: H) ⟨rfl, al2, cl2, rfl⟩ (hd := zpk)
theorem rfill_own {X Y : List Tx} {M : List (Nat × Nat)} {a : Option Addr} {cp bm bm2 : Nat} {v0 v2 va vb vc : Value} {w0 : World} {m : Mem} {H : SHeap} {Q : Exit → Act → World → Prop} (hM : PrOk X Y 0 0 M X.length Y.length) (hl : M.length ≤ 4194304) (hX : X.length ≤ 4194304 ∧ Y.length ≤ 4194304)
    (hK : WQ 133 w0 Q (.exit 0) [(11, .map (some bm)), (12, .map (some bm2)), (8, va), (9, vb), (10, vc), (0, v0), (2, v2)] [] m (.blk bm (mapO .i64 (kv M)) :: H)) :
    WC Try.prog none 133 w0 ((loopsIn (Try.f11.body.getD .skip)).getD 0 .skip) Q [(38, .int .i64 0), (37, .int .i64 (M.length : Int)), (36, .slice a M.length cp), (11, .map (some bm)), (12, .map (some bm2)), (8, va), (9, vb), (10, vc), (0, v0), (2, v2)] [] m
      (.blk bm (mapO .i64 []) :: .row a cp 44 2 (M.map prE) :: H) := by
  have hml : (M.map prE).length = M.length := List.length_map _
  rw [show ([] : List (Int × Value)) = kv (M.take 0) from by unfold kv; rfl]
  refine WC.loopH [(38, .int .i64 ((0) : Int)), (37, .int .i64 (M.length : Int)), (36, .slice a M.length cp), (11, .map (some bm)), (12, .map (some bm2)), (8, va), (9, vb), (10, vc), (0, v0), (2, v2)] ?_ ?_ (fun j r ds m' H' => ∃ i, j = M.length - i ∧ r = [(38, .int .i64 (i : Int)), (37, .int .i64 (M.length : Int)), (36, .slice a M.length cp), (11, .map (some bm)), (12, .map (some bm2)), (8, va), (9, vb), (10, vc), (0, v0), (2, v2)] ∧ ds = [] ∧ m = m' ∧ H' = .blk bm (mapO .i64 (kv (M.take i))) :: .row a cp 44 2 (M.map prE) :: H ∧ (i ≤ M.length)) (M.length - (0)) ⟨0, rfl, rfl, rfl, rfl, rfl, by omega⟩ ?_
  · (repeat (first | exact Env.Sub.nil | refine Env.Sub.cons rfl ?_))
  · exact zpk
  rintro j r ds m' H' ⟨i, rfl, rfl, rfl, rfl, rfl, hi⟩
  by_cases hlt : i < M.length
  · obtain ⟨p, hp⟩ : ∃ p, M[i]? = some p := ⟨_, List.getElem?_eq_getElem hlt⟩
    have hgp : (M.map prE)[i]? = some [.int .i64 (p.1 : Int), .int .i64 (p.2 : Int)] := by rw [List.getElem?_map, hp]; rfl
    have hnew : (kv (M.take i)).lookup (p.1 : Int) = none := by
      rw [kv_lookup, hM.fresh (A := M.take i) (p := p) (B := M.drop (i + 1)) (by
        obtain ⟨h1, h2⟩ := List.getElem?_eq_some_iff.1 hp
        conv => lhs; rw [← List.take_append_drop i M, List.drop_eq_getElem_cons h1, h2])]
      rfl
    have hsnoc : kv (M.take i) ++ [((p.1 : Int), Value.int .i64 (p.2 : Int))] = kv (M.take (i + 1)) := by
      unfold kv
      rw [List.take_succ, hp]; simp
    generalize M.map prE = ME at *
    generalize kv (M.take i) = K at *
    refine WC.rowSome zhs (by omega) ?_
    rintro a0 rfl
    (refine st_D30_1 ?_; intros; rename_i bp)
    refine WL.mapNew (q := .i64) (q' := .i64) rfl rfl rfl rfl rfl (by repeat (first | exact Repl.here | apply Repl.there)) hnew ?_
    rw [hsnoc]
    (try (refine st_D30_1 ?_; intros))
    refine WQ.next (M.length - (i + 1)) ⟨i + 1, rfl, rfl, rfl, rfl, rfl, ?_⟩ (by omega) zsb zpk
    · omega
  · rw [List.take_of_length_le (by omega)]
    (try (refine st_D30_1 ?_; intros))
    exact WQ.weak zsb zpk hK
theorem rfill_other {X Y : List Tx} {M : List (Nat × Nat)} {a : Option Addr} {cp bm bm2 : Nat} {v0 v2 va vb vc : Value} {w0 : World} {m : Mem} {H : SHeap} {Q : Exit → Act → World → Prop} (hM : PrOk X Y 0 0 M X.length Y.length) (hl : M.length ≤ 4194304) (hX : X.length ≤ 4194304 ∧ Y.length ≤ 4194304)
    (hK : WQ 133 w0 Q (.exit 2) [(12, .map (some bm)), (11, .map (some bm2)), (8, va), (9, vb), (10, vc), (0, v0), (2, v2)] [] m (.blk bm (mapO .i64 (kv M)) :: H)) :
    WC Try.prog none 133 w0 ((loopsIn (Try.f11.body.getD .skip)).getD 1 .skip) Q [(52, .int .i64 0), (51, .int .i64 (M.length : Int)), (50, .slice a M.length cp), (12, .map (some bm)), (11, .map (some bm2)), (8, va), (9, vb), (10, vc), (0, v0), (2, v2)] [] m
      (.blk bm (mapO .i64 []) :: .row a cp 44 2 (M.map prE) :: H) := by
  have hml : (M.map prE).length = M.length := List.length_map _
  rw [show ([] : List (Int × Value)) = kv (M.take 0) from by unfold kv; rfl]
  refine WC.loopH [(52, .int .i64 ((0) : Int)), (51, .int .i64 (M.length : Int)), (50, .slice a M.length cp), (12, .map (some bm)), (11, .map (some bm2)), (8, va), (9, vb), (10, vc), (0, v0), (2, v2)] ?_ ?_ (fun j r ds m' H' => ∃ i, j = M.length - i ∧ r = [(52, .int .i64 (i : Int)), (51, .int .i64 (M.length : Int)), (50, .slice a M.length cp), (12, .map (some bm)), (11, .map (some bm2)), (8, va), (9, vb), (10, vc), (0, v0), (2, v2)] ∧ ds = [] ∧ m = m' ∧ H' = .blk bm (mapO .i64 (kv (M.take i))) :: .row a cp 44 2 (M.map prE) :: H ∧ (i ≤ M.length)) (M.length - (0)) ⟨0, rfl, rfl, rfl, rfl, rfl, by omega⟩ ?_
  · (repeat (first | exact Env.Sub.nil | refine Env.Sub.cons rfl ?_))
  · exact zpk
  rintro j r ds m' H' ⟨i, rfl, rfl, rfl, rfl, rfl, hi⟩
  by_cases hlt : i < M.length
  · obtain ⟨p, hp⟩ : ∃ p, M[i]? = some p := ⟨_, List.getElem?_eq_getElem hlt⟩
    have hgp : (M.map prE)[i]? = some [.int .i64 (p.1 : Int), .int .i64 (p.2 : Int)] := by rw [List.getElem?_map, hp]; rfl
    have hnew : (kv (M.take i)).lookup (p.1 : Int) = none := by
      rw [kv_lookup, hM.fresh (A := M.take i) (p := p) (B := M.drop (i + 1)) (by
        obtain ⟨h1, h2⟩ := List.getElem?_eq_some_iff.1 hp
        conv => lhs; rw [← List.take_append_drop i M, List.drop_eq_getElem_cons h1, h2])]
      rfl
    have hsnoc : kv (M.take i) ++ [((p.1 : Int), Value.int .i64 (p.2 : Int))] = kv (M.take (i + 1)) := by
      unfold kv
      rw [List.take_succ, hp]; simp
    generalize M.map prE = ME at *
    generalize kv (M.take i) = K at *
    refine WC.rowSome zhs (by omega) ?_
    rintro a0 rfl
    (refine st_D30_1 ?_; intros; rename_i bp)
    refine WL.mapNew (q := .i64) (q' := .i64) rfl rfl rfl rfl rfl (by repeat (first | exact Repl.here | apply Repl.there)) hnew ?_
    rw [hsnoc]
    (try (refine st_D30_1 ?_; intros))
    refine WQ.next (M.length - (i + 1)) ⟨i + 1, rfl, rfl, rfl, rfl, rfl, ?_⟩ (by omega) zsb zpk
    · omega
  · rw [List.take_of_length_le (by omega)]
    (try (refine st_D30_1 ?_; intros))
    exact WQ.weak zsb zpk hK
end Go.Proofs.Ytieangfnjflfmaa

/-
  The walk of the reference's Weave: its loop over the tokens. No condition.
-/
namespace Go.Proofs.Ytieangfnjflfmaa
open Go Go.Eng
set_option maxRecDepth 100000
set_option maxHeartbeats 4000000
set_option linter.all false
attribute [local irreducible] WL WC WQ QFun QLoop Does Q1 QRound QAssign Go.Addr.add
attribute [local irreducible] kv mapO jn strs cfs sideT sideC
theorem rweave_loop {X Y Z : List Tx} {M N : List (Nat × Nat)} {bw bm bm2 cx cy cz : Nat} {ax ay az : Option Addr} {w0 : World} {m : Mem} {H : SHeap} {Q : Exit → Act → World → Prop} {F : Wv}
    (hX : X.length ≤ 65536 ∧ X.flatten.length ≤ 65536 ∧ X.length ≤ cx) (hY : Y.length ≤ 65536 ∧ Y.flatten.length ≤ 65536 ∧ Y.length ≤ cy) (hZ : Z.length ≤ 65536 ∧ Z.flatten.length ≤ 65536 ∧ Z.length ≤ cz) (hM : MSt X Y M 0 0) (hN : MSt X Z N 0 0) (hF : wvGo X Y Z M N X 0 ⟨[], [], 0, 0, 0⟩ = F)
    (hK : ∀ (w : Wv) (al : Option Addr) (cl : Nat), w.side X Y Z X.length Y.length Z.length = F → w.p ≤ X.length → w.q ≤ Y.length → w.r ≤ Z.length → w.out.length ≤ 8589934592 → w.l.length ≤ 65536 →
      WQ 133 w0 Q (.exit 4) [(18, .int .i64 (w.p : Int)), (19, .int .i64 (w.q : Int)), (20, .int .i64 (w.r : Int)), (8, .slice ax X.length cx), (9, .slice ay Y.length cy), (10, .slice az Z.length cz), (17, .pointer (some ⟨bw, 0, none⟩))] [] m (.row ax cx 9 1 (strs X) :: .row ay cy 9 1 (strs Y) :: .row az cz 9 1 (strs Z) :: .blk bw (.cells [str w.out, .slice al w.l.length cl].toArray 78 (0, 0)) :: .row al cl 36 5 (cfs w.l) :: H)) :
    WC Try.prog none 133 w0 ((loopsIn (Try.f11.body.getD .skip)).getD 2 .skip) Q [(64, .int .i64 0), (63, .int .i64 (X.length : Int)), (18, .int .i64 0), (19, .int .i64 0), (20, .int .i64 0), (11, .map (some bm)), (12, .map (some bm2)), (8, .slice ax X.length cx), (9, .slice ay Y.length cy), (10, .slice az Z.length cz), (17, .pointer (some ⟨bw, 0, none⟩))] [] m
      (.row ax cx 9 1 (strs X) :: .row ay cy 9 1 (strs Y) :: .row az cz 9 1 (strs Z) :: .blk bw (.cells [str [], .slice none 0 0].toArray 78 (0, 0)) :: .row none 0 36 5 (cfs []) :: .blk bm (mapO .i64 (kv M)) :: .blk bm2 (mapO .i64 (kv N)) :: H) := by
  have hXs : (strs X).length = X.length := by simp [strs]
  refine WC.loopH [(64, .int .i64 ((0) : Int)), (63, .int .i64 (X.length : Int)), (18, .int .i64 (((⟨[], [], 0, 0, 0⟩ : Wv)).p : Int)), (19, .int .i64 (((⟨[], [], 0, 0, 0⟩ : Wv)).q : Int)), (20, .int .i64 (((⟨[], [], 0, 0, 0⟩ : Wv)).r : Int)), (11, .map (some bm)), (12, .map (some bm2)), (8, .slice ax X.length cx), (9, .slice ay Y.length cy), (10, .slice az Z.length cz), (17, .pointer (some ⟨bw, 0, none⟩))] ?_ ?_ (fun j r ds m' H' => ∃ (i : Nat) (w : Wv) (al : Option Addr) (cl : Nat), j = X.length - i ∧ r = [(64, .int .i64 (i : Int)), (63, .int .i64 (X.length : Int)), (18, .int .i64 (w.p : Int)), (19, .int .i64 (w.q : Int)), (20, .int .i64 (w.r : Int)), (11, .map (some bm)), (12, .map (some bm2)), (8, .slice ax X.length cx), (9, .slice ay Y.length cy), (10, .slice az Z.length cz), (17, .pointer (some ⟨bw, 0, none⟩))] ∧ ds = [] ∧ m = m' ∧ H' = .row ax cx 9 1 (strs X) :: .row ay cy 9 1 (strs Y) :: .row az cz 9 1 (strs Z) :: .blk bw (.cells [str w.out, .slice al w.l.length cl].toArray 78 (0, 0)) :: .row al cl 36 5 (cfs w.l) :: .blk bm (mapO .i64 (kv M)) :: .blk bm2 (mapO .i64 (kv N)) :: H ∧ (i ≤ X.length) ∧ (wvGo X Y Z M N (X.drop i) i w = F) ∧ (MSt X Y M i w.q) ∧ (MSt X Z N i w.r) ∧ (w.p ≤ i) ∧ (w.out.length ≤ i * 131072) ∧ (w.l.length ≤ i)) (X.length - (0)) ⟨0, (⟨[], [], 0, 0, 0⟩ : Wv), none, 0, rfl, rfl, rfl, rfl, rfl, by omega, hF, hM, hN, Nat.le_refl _, Nat.zero_le _, Nat.zero_le _⟩ ?_
  · (repeat (first | exact Env.Sub.nil | refine Env.Sub.cons rfl ?_))
  · exact zpk
  rintro j r ds m' H' ⟨i, w, al, cl, rfl, rfl, rfl, rfl, rfl, hi, hgo, hM, hN, hp, hout, hL⟩
  by_cases hlt : i < X.length
  · obtain ⟨t, ht⟩ : ∃ t, X[i]? = some t := ⟨_, List.getElem?_eq_getElem hlt⟩
    have hgt := strs_get ht
    have htl : t.length ≤ 65536 := by have := mem_le_flat (List.mem_of_getElem? ht); omega
    rw [drop_get ht] at hgo
    obtain ⟨hM1, hM2⟩ := hM.next hlt
    obtain ⟨hN1, hN2⟩ := hN.next hlt
    have hkM := kv_lookup i M
    have hkN := kv_lookup i N
    generalize hKM : kv M = KM at *
    generalize hKN : kv N = KN at *
    generalize hSX : strs X = SX at *
    refine WC.rowSome (a := ax) (es := SX) zhs (by omega) ?_
    rintro a0 rfl
    rcases hM2 with hM2 | ⟨p, hM2, hqp, hpY, ⟨x, hx1, hx2⟩, hM3⟩
    · rw [hM2] at hkM
      rw [wvGo_skip (.inl hM2)] at hgo
      rcases hN2 with hN2 | ⟨q, hN2, _⟩
      all_goals
        rw [hN2] at hkN
        (try (refine st ?_; intros))
        refine WL.lookOk (q := .i64) (q' := .i64) (z := .int .i64 0) rfl rfl zhs rfl rfl (run_zero rfl) rfl ?_
        rw [hkM]
        simp only [Option.map_none, Option.map_some, Option.getD_none, Option.getD_some, Option.isSome_none, Option.isSome_some]
        (try (refine st ?_; intros))
        refine WL.lookOk (q := .i64) (q' := .i64) (z := .int .i64 0) rfl rfl zhs rfl rfl (run_zero rfl) rfl ?_
        rw [hkN]
        simp only [Option.map_none, Option.map_some, Option.getD_none, Option.getD_some, Option.isSome_none, Option.isSome_some]
        (try (refine st ?_; intros))
        subst hKM hKN hSX
        refine WQ.next (X.length - (i + 1)) ⟨i + 1, w, al, cl, rfl, rfl, rfl, rfl, rfl, ?_, ?_, ?_, ?_, ?_, ?_, ?_⟩ (by omega) zsb zpk
        · omega
        · exact hgo
        · exact hM1
        · exact hN1
        · omega
        · exact Nat.le_trans hout (Nat.mul_le_mul_right _ (Nat.le_succ i))
        · omega
    · rw [hM2] at hkM
      rcases hN2 with hN2 | ⟨q, hN2, hrq, hqZ, ⟨y, hy1, hy2⟩, hN3⟩
      · rw [wvGo_skip (.inr hN2)] at hgo
        rw [hN2] at hkN
        (try (refine st ?_; intros))
        refine WL.lookOk (q := .i64) (q' := .i64) (z := .int .i64 0) rfl rfl zhs rfl rfl (run_zero rfl) rfl ?_
        rw [hkM]
        simp only [Option.map_none, Option.map_some, Option.getD_none, Option.getD_some, Option.isSome_none, Option.isSome_some]
        (try (refine st ?_; intros))
        refine WL.lookOk (q := .i64) (q' := .i64) (z := .int .i64 0) rfl rfl zhs rfl rfl (run_zero rfl) rfl ?_
        rw [hkN]
        simp only [Option.map_none, Option.map_some, Option.getD_none, Option.getD_some, Option.isSome_none, Option.isSome_some]
        (try (refine st ?_; intros))
        subst hKM hKN hSX
        refine WQ.next (X.length - (i + 1)) ⟨i + 1, w, al, cl, rfl, rfl, rfl, rfl, rfl, ?_, ?_, ?_, ?_, ?_, ?_, ?_⟩ (by omega) zsb zpk
        · omega
        · exact hgo
        · exact hM1
        · exact hN1
        · omega
        · exact Nat.le_trans hout (Nat.mul_le_mul_right _ (Nat.le_succ i))
        · omega
      · rw [wvGo_both hM2 hN2] at hgo
        rw [hN2] at hkN
        (try (refine st ?_; intros))
        refine WL.lookOk (q := .i64) (q' := .i64) (z := .int .i64 0) rfl rfl zhs rfl rfl (run_zero rfl) rfl ?_
        rw [hkM]
        simp only [Option.map_none, Option.map_some, Option.getD_none, Option.getD_some, Option.isSome_none, Option.isSome_some]
        (try (refine st ?_; intros))
        refine WL.lookOk (q := .i64) (q' := .i64) (z := .int .i64 0) rfl rfl zhs rfl rfl (run_zero rfl) rfl ?_
        rw [hkN]
        simp only [Option.map_none, Option.map_some, Option.getD_none, Option.getD_some, Option.isSome_none, Option.isSome_some]
        (try (refine st ?_; intros))
        have hout2 : w.out.length ≤ 8589934592 := Nat.le_trans hout (Nat.le_trans (Nat.mul_le_mul_right _ (Nat.le_of_lt (Nat.lt_of_lt_of_le hlt hX.1))) (by decide))
        have h1 := sideT_le (jn X w.p i) (jn Y w.q p) (jn Z w.r q)
        have h2 := jn_le Y w.q p
        have h3 := jn_le Z w.r q
        have h4 := sideC_le w.out.length (jn X w.p i) (jn Y w.q p) (jn Z w.r q)
        have hside : w.side X Y Z i p q = ⟨w.out ++ sideT (jn X w.p i) (jn Y w.q p) (jn Z w.r q), w.l ++ sideC w.out.length (jn X w.p i) (jn Y w.q p) (jn Z w.r q), i + 1, p + 1, q + 1⟩ := rfl
        subst hKM hKN hSX
        refine WC.drawE 15 ([.row (some a0) cx 9 1 (strs X), .row ay cy 9 1 (strs Y), .row az cz 9 1 (strs Z)]) (.blk bw (.cells [str w.out, .slice al w.l.length cl].toArray 78 (0, 0)) :: .row al cl 36 5 (cfs w.l) :: .blk bm (mapO .i64 (kv M)) :: .blk bm2 (mapO .i64 (kv N)) :: H) rfl (by decide +kernel) zpk ?_
        (refine cm0 ?_)
        (refine WE.calm 4 (by decide +kernel) rfl rfl (by decide +kernel) rfl (fun c h => by cases h) (by intro zm zF zle; refine w_callF Try.func27 ?_ (hs := joinSub_any (l := X) zhs ⟨hp, by omega⟩ (by omega) (by omega)); rintro _ _ _ ⟨rfl, rfl, rfl⟩; ((repeat (refine sp ?_; intros)); exact WQ.q1 rfl)) ?_)
        (refine WE.calm 9 (by decide +kernel) rfl rfl (by decide +kernel) rfl (fun c h => by cases h) (by intro zm zF zle; refine w_callF Try.func27 ?_ (hs := joinSub_any (l := Y) zhs ⟨hqp, by omega⟩ (by omega) (by omega)); rintro _ _ _ ⟨rfl, rfl, rfl⟩; ((repeat (refine sp ?_; intros)); exact WQ.q1 rfl)) ?_)
        (refine WE.calm 14 (by decide +kernel) rfl rfl (by decide +kernel) rfl (fun c h => by cases h) (by intro zm zF zle; refine w_callF Try.func27 ?_ (hs := joinSub_any (l := Z) zhs ⟨hrq, by omega⟩ (by omega) (by omega)); rintro _ _ _ ⟨rfl, rfl, rfl⟩; ((repeat (refine sp ?_; intros)); exact WQ.q1 rfl)) ?_)
        refine WE.done (by decide +kernel) ?_
        simp only [List.cons_append, List.nil_append]
        generalize jn X w.p i = tO at *
        generalize jn Y w.q p = tA at *
        generalize jn Z w.r q = tC at *
        refine WL.heap (H' := .blk bw (.cells [str w.out, .slice al w.l.length cl].toArray 78 (0, 0)) :: .row al cl 36 5 (cfs w.l) :: (.row (some a0) cx 9 1 (strs X) :: .row ay cy 9 1 (strs Y) :: .row az cz 9 1 (strs Z) :: .blk bm (mapO .i64 (kv M)) :: .blk bm2 (mapO .i64 (kv N)) :: H)) zpk ?_
        refine w_callF Try.func32 ?_ (hs := rside_any (O := w.out) (L := w.l) (old := tO) (own := tA) (other := tC) (by omega) (by omega) (by omega) (by omega))
        rintro v m9 H9 ⟨rfl, al2, cl2, rfl⟩
        obtain ⟨w2, hw2⟩ : ∃ w2, w2 = w.side X Y Z i p q := ⟨_, rfl⟩
        have e1 : w2.out = w.out ++ sideT tO tA tC := by rw [hw2, hside]
        have e2 : w2.l = w.l ++ sideC w.out.length tO tA tC := by rw [hw2, hside]
        have e3 : w2.p = i + 1 := by rw [hw2, hside]
        have e4 : w2.q = p + 1 := by rw [hw2, hside]
        have e5 : w2.r = q + 1 := by rw [hw2, hside]
        rw [← hw2] at hgo
        rw [← e1, ← e2]
        have l1 := congrArg List.length e1
        have l2 := congrArg List.length e2
        rw [List.length_append] at l1 l2
        clear hw2 hside
        obtain ⟨w3, hw3⟩ : ∃ w3, w3 = w2.add t := ⟨_, rfl⟩
        have f1 : w3.out = w2.out ++ t := by rw [hw3]; rfl
        have f2 : w3.l = w2.l := by rw [hw3]; rfl
        have f3 : w3.p = i + 1 := by rw [hw3, ← e3]; rfl
        have f4 : w3.q = p + 1 := by rw [hw3, ← e4]; rfl
        have f5 : w3.r = q + 1 := by rw [hw3, ← e5]; rfl
        have f6 : w3.out.length = w2.out.length + t.length := by rw [f1, List.length_append]
        rw [← hw3] at hgo
        (try (refine st ?_; intros))
        rw [← f1, ← f2, show (i : Int) + 1 = ((i + 1 : Nat) : Int) by omega, show (p : Int) + 1 = ((p + 1 : Nat) : Int) by omega, show (q : Int) + 1 = ((q + 1 : Nat) : Int) by omega]
        refine WQ.next (X.length - (i + 1)) ⟨i + 1, (⟨w3.out, w3.l, i + 1, p + 1, q + 1⟩ : Wv), al2, cl2, rfl, rfl, rfl, rfl, rfl, ?_, ?_, ?_, ?_, ?_, ?_, ?_⟩ (by omega) zsb zpk
        · omega
        · have he : (⟨w3.out, w3.l, i + 1, p + 1, q + 1⟩ : Wv) = w3 := by rw [← f3, ← f4, ← f5]
          rw [he]; exact hgo
        · exact hM3
        · exact hN3
        · exact Nat.le_refl _
        · show w3.out.length ≤ _
          rw [Nat.succ_mul]
          generalize i * 131072 = I at *
          omega
        · show w3.l.length ≤ _
          rw [f2]; omega
  · rw [List.drop_of_length_le (by omega)] at hgo
    have hfin := hK w al cl hgo (by omega) hM.le hN.le (Nat.le_trans hout (Nat.le_trans (Nat.mul_le_mul_right _ (by omega : i ≤ 65536)) (by decide))) (by omega)
    (try (refine st ?_; intros))
    exact WQ.weak zsb zpk hfin
end Go.Proofs.Ytieangfnjflfmaa

/-
  The walk of the reference's Weave. No condition.
-/
namespace Go.Proofs.Ytieangfnjflfmaa
open Go Go.Eng
set_option maxRecDepth 100000
set_option maxHeartbeats 4000000
set_option linter.all false
attribute [local irreducible] WL WC WQ QFun QLoop Does Q1 QRound QAssign Go.Addr.add
attribute [local irreducible] kv mapO jn strs sideT sideC weaveL wvGo matchL toks
theorem sq_D32_1 {G : Prop} (h : G := by (repeat (first | (refine sp ?_; (repeat intro zzc)) | (refine WL.makeMap .i64 rfl ?_; intro zzc))); exact WQ.q1 rfl) : G := h
theorem cm_D32_1 {G G' : Prop} (next : G') (h : Bx G' → G := by intro zzn; (try (refine wcal 0 ?_ (hwl := by intro zm zF zle; exact sq_D32_1))); (try (refine wcal 1 ?_ (hwl := by intro zm zF zle; exact sq_D32_1))); (try (refine wcal 2 ?_ (hwl := by intro zm zF zle; exact sq_D32_1))); (try (refine wcal 3 ?_ (hwl := by intro zm zF zle; exact sq_D32_1))); (try (refine wcal 4 ?_ (hwl := by intro zm zF zle; exact sq_D32_1))); (try (refine wcal 5 ?_ (hwl := by intro zm zF zle; exact sq_D32_1))); (try (refine wcal 6 ?_ (hwl := by intro zm zF zle; exact sq_D32_1))); (try (refine wcal 7 ?_ (hwl := by intro zm zF zle; exact sq_D32_1))); (try (refine wcal 8 ?_ (hwl := by intro zm zF zle; exact sq_D32_1))); (try (refine wcal 9 ?_ (hwl := by intro zm zF zle; exact sq_D32_1))); (try (refine wcal 10 ?_ (hwl := by intro zm zF zle; exact sq_D32_1))); (try (refine wcal 11 ?_ (hwl := by intro zm zF zle; exact sq_D32_1))); (try (refine wcal 12 ?_ (hwl := by intro zm zF zle; exact sq_D32_1))); (try (refine wcal 13 ?_ (hwl := by intro zm zF zle; exact sq_D32_1))); (try (refine wcal 14 ?_ (hwl := by intro zm zF zle; exact sq_D32_1))); (try (refine wcal 15 ?_ (hwl := by intro zm zF zle; exact sq_D32_1))); (try (refine wcal 16 ?_ (hwl := by intro zm zF zle; exact sq_D32_1))); (try (refine wcal 17 ?_ (hwl := by intro zm zF zle; exact sq_D32_1))); (try (refine wcal 18 ?_ (hwl := by intro zm zF zle; exact sq_D32_1))); (try (refine wcal 19 ?_ (hwl := by intro zm zF zle; exact sq_D32_1))); (try (refine wcal 20 ?_ (hwl := by intro zm zF zle; exact sq_D32_1))); (try (refine wcal 21 ?_ (hwl := by intro zm zF zle; exact sq_D32_1))); (try (refine wcal 22 ?_ (hwl := by intro zm zF zle; exact sq_D32_1))); (try (refine wcal 23 ?_ (hwl := by intro zm zF zle; exact sq_D32_1))); (try (refine wcal 24 ?_ (hwl := by intro zm zF zle; exact sq_D32_1))); (try (refine wcal 25 ?_ (hwl := by intro zm zF zle; exact sq_D32_1))); (try (refine wcal 26 ?_ (hwl := by intro zm zF zle; exact sq_D32_1))); (try (refine wcal 27 ?_ (hwl := by intro zm zF zle; exact sq_D32_1))); (try (refine wcal 28 ?_ (hwl := by intro zm zF zle; exact sq_D32_1))); (try (refine wcal 29 ?_ (hwl := by intro zm zF zle; exact sq_D32_1))); (try (refine wcal 30 ?_ (hwl := by intro zm zF zle; exact sq_D32_1))); (try (refine wcal 31 ?_ (hwl := by intro zm zF zle; exact sq_D32_1))); (try (refine wcal 32 ?_ (hwl := by intro zm zF zle; exact sq_D32_1))); (try (refine wcal 33 ?_ (hwl := by intro zm zF zle; exact sq_D32_1))); (try (refine wcal 34 ?_ (hwl := by intro zm zF zle; exact sq_D32_1))); (try (refine wcal 35 ?_ (hwl := by intro zm zF zle; exact sq_D32_1))); (try (refine wcal 36 ?_ (hwl := by intro zm zF zle; exact sq_D32_1))); (try (refine wcal 37 ?_ (hwl := by intro zm zF zle; exact sq_D32_1))); (try (refine wcal 38 ?_ (hwl := by intro zm zF zle; exact sq_D32_1))); (try (refine wcal 39 ?_ (hwl := by intro zm zF zle; exact sq_D32_1))); (try (refine wcal 40 ?_ (hwl := by intro zm zF zle; exact sq_D32_1))); (try (refine wcal 41 ?_ (hwl := by intro zm zF zle; exact sq_D32_1))); exact zzn.out) : G := h ⟨next⟩
theorem st_D32_1 {G G' : Prop} (next : G') (h : Bx G' → G := by intro zzn; (first | ((refine st ?_; (repeat intro zzc)); (try ((first | (refine WL.makeMap .i64 rfl ?_; intro zzc) | ((refine iDraw ?_; (first | refine WC.drawAll rfl (by decide +kernel) ?_ | refine WC.draw 1 rfl (by decide +kernel) ?_ | refine WC.draw 2 rfl (by decide +kernel) ?_ | refine WC.draw 3 rfl (by decide +kernel) ?_ | refine WC.draw 4 rfl (by decide +kernel) ?_ | refine WC.draw 5 rfl (by decide +kernel) ?_ | refine WC.draw 6 rfl (by decide +kernel) ?_ | refine WC.draw 7 rfl (by decide +kernel) ?_ | refine WC.draw 8 rfl (by decide +kernel) ?_ | refine WC.draw 9 rfl (by decide +kernel) ?_ | refine WC.draw 10 rfl (by decide +kernel) ?_ | refine WC.draw 11 rfl (by decide +kernel) ?_ | refine WC.draw 12 rfl (by decide +kernel) ?_ | refine WC.draw 13 rfl (by decide +kernel) ?_ | refine WC.draw 14 rfl (by decide +kernel) ?_ | refine WC.draw 15 rfl (by decide +kernel) ?_ | refine WC.draw 16 rfl (by decide +kernel) ?_ | refine WC.draw 17 rfl (by decide +kernel) ?_ | refine WC.draw 18 rfl (by decide +kernel) ?_ | refine WC.draw 19 rfl (by decide +kernel) ?_ | refine WC.draw 20 rfl (by decide +kernel) ?_ | refine WC.draw 21 rfl (by decide +kernel) ?_ | refine WC.draw 22 rfl (by decide +kernel) ?_ | refine WC.draw 23 rfl (by decide +kernel) ?_ | refine WC.draw 24 rfl (by decide +kernel) ?_)); (repeat (refine WD.cons rfl (fun c h => by cases h) sq_D32_1 ?_)); refine WD.nil ?_)); (try (refine st ?_; (repeat intro zzc)))))) | ((first | (refine WL.makeMap .i64 rfl ?_; intro zzc) | ((refine iDraw ?_; (first | refine WC.drawAll rfl (by decide +kernel) ?_ | refine WC.draw 1 rfl (by decide +kernel) ?_ | refine WC.draw 2 rfl (by decide +kernel) ?_ | refine WC.draw 3 rfl (by decide +kernel) ?_ | refine WC.draw 4 rfl (by decide +kernel) ?_ | refine WC.draw 5 rfl (by decide +kernel) ?_ | refine WC.draw 6 rfl (by decide +kernel) ?_ | refine WC.draw 7 rfl (by decide +kernel) ?_ | refine WC.draw 8 rfl (by decide +kernel) ?_ | refine WC.draw 9 rfl (by decide +kernel) ?_ | refine WC.draw 10 rfl (by decide +kernel) ?_ | refine WC.draw 11 rfl (by decide +kernel) ?_ | refine WC.draw 12 rfl (by decide +kernel) ?_ | refine WC.draw 13 rfl (by decide +kernel) ?_ | refine WC.draw 14 rfl (by decide +kernel) ?_ | refine WC.draw 15 rfl (by decide +kernel) ?_ | refine WC.draw 16 rfl (by decide +kernel) ?_ | refine WC.draw 17 rfl (by decide +kernel) ?_ | refine WC.draw 18 rfl (by decide +kernel) ?_ | refine WC.draw 19 rfl (by decide +kernel) ?_ | refine WC.draw 20 rfl (by decide +kernel) ?_ | refine WC.draw 21 rfl (by decide +kernel) ?_ | refine WC.draw 22 rfl (by decide +kernel) ?_ | refine WC.draw 23 rfl (by decide +kernel) ?_ | refine WC.draw 24 rfl (by decide +kernel) ?_)); (repeat (refine WD.cons rfl (fun c h => by cases h) sq_D32_1 ?_)); refine WD.nil ?_)); (try (refine st ?_; (repeat intro zzc))))); (repeat ((first | (refine WL.makeMap .i64 rfl ?_; intro zzc) | ((refine iDraw ?_; (first | refine WC.drawAll rfl (by decide +kernel) ?_ | refine WC.draw 1 rfl (by decide +kernel) ?_ | refine WC.draw 2 rfl (by decide +kernel) ?_ | refine WC.draw 3 rfl (by decide +kernel) ?_ | refine WC.draw 4 rfl (by decide +kernel) ?_ | refine WC.draw 5 rfl (by decide +kernel) ?_ | refine WC.draw 6 rfl (by decide +kernel) ?_ | refine WC.draw 7 rfl (by decide +kernel) ?_ | refine WC.draw 8 rfl (by decide +kernel) ?_ | refine WC.draw 9 rfl (by decide +kernel) ?_ | refine WC.draw 10 rfl (by decide +kernel) ?_ | refine WC.draw 11 rfl (by decide +kernel) ?_ | refine WC.draw 12 rfl (by decide +kernel) ?_ | refine WC.draw 13 rfl (by decide +kernel) ?_ | refine WC.draw 14 rfl (by decide +kernel) ?_ | refine WC.draw 15 rfl (by decide +kernel) ?_ | refine WC.draw 16 rfl (by decide +kernel) ?_ | refine WC.draw 17 rfl (by decide +kernel) ?_ | refine WC.draw 18 rfl (by decide +kernel) ?_ | refine WC.draw 19 rfl (by decide +kernel) ?_ | refine WC.draw 20 rfl (by decide +kernel) ?_ | refine WC.draw 21 rfl (by decide +kernel) ?_ | refine WC.draw 22 rfl (by decide +kernel) ?_ | refine WC.draw 23 rfl (by decide +kernel) ?_ | refine WC.draw 24 rfl (by decide +kernel) ?_)); (repeat (refine WD.cons rfl (fun c h => by cases h) sq_D32_1 ?_)); refine WD.nil ?_)); (try (refine st ?_; (repeat intro zzc))))); (repeat revert zzc); exact zzn.out) : G := h ⟨next⟩
theorem rweave_any (s t u : Tx) (hls : s.length ≤ 65536) (hlt : t.length ≤ 65536) (hlu : u.length ≤ 65536) (w0 : World) (m : Mem) (H : SHeap) :
    Does Try.prog 11 #[str s, str t, str u] w0 m H (fun v m' H' => m.le m' ∧ ∃ al cl, v = .tuple #[str (weaveL s t u).out, .slice al (weaveL s t u).l.length cl] ∧ H' = .row al cl 36 5 (cfs (weaveL s t u).l) :: H) := by
  refine Does.of_body (args := [str s, str t, str u]) Try.func11 rfl Try.ntmps11 rfl ?_
  (try (refine st_D32_1 ?_; intros))
  refine w_callF Try.func31 ?_ (hs := rtoks_any s (by omega) _ _ _)
  rintro v m1 H1 ⟨hle1, ax, cx, rfl, rfl⟩
  (try (refine st_D32_1 ?_; intros))
  refine w_callF Try.func31 ?_ (hs := rtoks_any t (by omega) _ _ _)
  rintro v m2 H1 ⟨hle2, ay, cy, rfl, rfl⟩
  (try (refine st_D32_1 ?_; intros))
  refine w_callF Try.func31 ?_ (hs := rtoks_any u (by omega) _ _ _)
  rintro v m3 H1 ⟨hle3, az, cz, rfl, rfl⟩
  have hXl := toks_length s
  have hYl := toks_length t
  have hZl := toks_length u
  have hXf := congrArg List.length (toks_join s)
  have hYf := congrArg List.length (toks_join t)
  have hZf := congrArg List.length (toks_join u)
  have hW : wvGo (toks s) (toks t) (toks u) (matchL (toks s) (toks t)) (matchL (toks s) (toks u)) (toks s) 0 ⟨[], [], 0, 0, 0⟩ = weaveL s t u := by unfold weaveL; rfl
  refine WL.rowCap (a := ax) (cap := cx) (T := 9) (sz := 1) (es := strs (toks s)) zhs ?_
  intro hcx
  refine WL.rowCap (a := ay) (cap := cy) (T := 9) (sz := 1) (es := strs (toks t)) zhs ?_
  intro hcy
  refine WL.rowCap (a := az) (cap := cz) (T := 9) (sz := 1) (es := strs (toks u)) zhs ?_
  intro hcz
  rw [strs_length] at hcx hcy hcz
  (refine st_D32_1 ?_; intros; rename_i bm bm2)
  refine w_callF Try.func15 ?_ (hs := rmatch_any s t (by omega) (by omega) _ _ _)
  rintro v m4 H9 ⟨hle4, a1, c1, rfl, rfl⟩
  have hM := match_ok (toks s) (toks t)
  have hMl := hM.len
  (try (refine st_D32_1 ?_; intros))
  generalize hX : toks s = X at *
  generalize hY : toks t = Y at *
  generalize hZ : toks u = Z at *
  refine WC.weak zsb zpk (rfill_own (bm := bm) (bm2 := bm2) (H := .row ax cx 9 1 (strs X) :: .row ay cy 9 1 (strs Y) :: .row az cz 9 1 (strs Z) :: .blk bm2 (mapO .i64 []) :: H) hM (by omega) ⟨by omega, by omega⟩ ?_)
  (try (refine st_D32_1 ?_; intros))
  refine w_callF Try.func15 ?_ (hs := rmatch_any s u (by omega) (by omega) _ _ _)
  rintro v m5 H9 ⟨hle5, a2, c2, rfl, rfl⟩
  rw [hX, hZ]
  have hN := match_ok X Z
  have hNl := hN.len
  (try (refine st_D32_1 ?_; intros))
  refine WC.weak zsb zpk (rfill_other (bm := bm2) (bm2 := bm) (H := .row ax cx 9 1 (strs X) :: .row ay cy 9 1 (strs Y) :: .row az cz 9 1 (strs Z) :: .blk bm (mapO .i64 (kv (matchL X Y))) :: H) hN (by omega) ⟨by omega, by omega⟩ ?_)
  (refine st_D32_1 ?_; intros; rename_i bw)
  refine WC.newRow (T := 36) (sz := 5) ?_
  refine WC.weak zsb zpk (rweave_loop (X := X) (Y := Y) (Z := Z) (M := matchL X Y) (N := matchL X Z) (F := weaveL s t u) (bw := bw) (bm := bm) (bm2 := bm2) (H := H) ⟨by omega, by omega, hcx⟩ ⟨by omega, by omega, hcy⟩ ⟨by omega, by omega, hcz⟩ MSt.start MSt.start hW ?_)
  intro w al cl hF hp hq hr hout hL
  have h2 := jn_le Y w.q Y.length
  have h3 := jn_le Z w.r Z.length
  have hFo : (weaveL s t u).out = w.out ++ sideT (jn X w.p X.length) (jn Y w.q Y.length) (jn Z w.r Z.length) := by rw [← hF]; rfl
  have hFl : (weaveL s t u).l = w.l ++ sideC w.out.length (jn X w.p X.length) (jn Y w.q Y.length) (jn Z w.r Z.length) := by rw [← hF]; rfl
  have hle := hle1.trans (hle2.trans (hle3.trans (hle4.trans hle5)))
  (try (refine st_D32_1 ?_; intros))
  refine WC.drawE 12 ([.row ax cx 9 1 (strs X), .row ay cy 9 1 (strs Y), .row az cz 9 1 (strs Z)]) (.blk bw (.cells [str w.out, .slice al w.l.length cl].toArray 78 (0, 0)) :: .row al cl 36 5 (cfs w.l) :: H) rfl (by decide +kernel) zpk ?_
  (refine cm_D32_1 ?_)
  (refine WE.calm 3 (by decide +kernel) rfl rfl (by decide +kernel) rfl (fun c h => by cases h) (by intro zm zF zle; refine w_callF Try.func27 ?_ (hs := joinSub_any (l := X) zhs ⟨hp, Nat.le_refl _⟩ (by omega) (by omega)); rintro _ _ _ ⟨rfl, rfl, rfl⟩; exact sq_D32_1) ?_)
  (refine WE.calm 7 (by decide +kernel) rfl rfl (by decide +kernel) rfl (fun c h => by cases h) (by intro zm zF zle; refine w_callF Try.func27 ?_ (hs := joinSub_any (l := Y) zhs ⟨hq, Nat.le_refl _⟩ (by omega) (by omega)); rintro _ _ _ ⟨rfl, rfl, rfl⟩; exact sq_D32_1) ?_)
  (refine WE.calm 11 (by decide +kernel) rfl rfl (by decide +kernel) rfl (fun c h => by cases h) (by intro zm zF zle; refine w_callF Try.func27 ?_ (hs := joinSub_any (l := Z) zhs ⟨hr, Nat.le_refl _⟩ (by omega) (by omega)); rintro _ _ _ ⟨rfl, rfl, rfl⟩; exact sq_D32_1) ?_)
  refine WE.done (by decide +kernel) ?_
  simp only [List.cons_append, List.nil_append]
  generalize jn X w.p X.length = tO at *
  generalize jn Y w.q Y.length = tA at *
  generalize jn Z w.r Z.length = tC at *
  refine WL.heap (H' := .blk bw (.cells [str w.out, .slice al w.l.length cl].toArray 78 (0, 0)) :: .row al cl 36 5 (cfs w.l) :: H) zpk ?_
  refine w_callF Try.func32 ?_ (hs := rside_any (O := w.out) (L := w.l) (old := tO) (own := tA) (other := tC) (by omega) (by omega) (by omega) (by omega))
  rintro v m9 H9 ⟨rfl, al2, cl2, rfl⟩
  rw [← hFo, ← hFl]
  (try (refine st_D32_1 ?_; intros))
  exact q_fin0 (H0 := .row al2 cl2 36 5 (cfs (weaveL s t u).l) :: H) ⟨hle, al2, cl2, rfl, rfl⟩ (hd := zpk)
end Go.Proofs.Ytieangfnjflfmaa

/-
  What is woven: sides that are the base's, sides that are the same, turned about, spans. No condition.
-/
namespace Go.Eng
open Go
/-- where a match stands at a place (plain) -/
def MS (X Y : List Tx) (M : List (Nat × Nat)) (i k : Nat) : Prop := ∃ l2, PrOk X Y i k l2 X.length Y.length ∧ ∀ j, i ≤ j → M.lookup j = l2.lookup j
theorem MS.start {X Y : List Tx} : MS X Y (matchL X Y) 0 0 := ⟨_, match_ok X Y, fun _ _ => rfl⟩
theorem MS.le {X Y : List Tx} {M : List (Nat × Nat)} {i k : Nat} (h : MS X Y M i k) : k ≤ Y.length := by
  obtain ⟨l2, h1, _⟩ := h
  exact h1.le.2
theorem MS.next {X Y : List Tx} {M : List (Nat × Nat)} {i k : Nat} (h : MS X Y M i k) (hi : i < X.length) :
    MS X Y M (i + 1) k ∧ ∀ p, M.lookup i = some p → k ≤ p ∧ p < Y.length ∧ (∃ x, X[i]? = some x ∧ Y[p]? = some x) ∧ MS X Y M (i + 1) (p + 1) := by
  obtain ⟨l2, h1, h2⟩ := h
  rcases h1.next hi with ⟨g1, g2⟩ | ⟨p, l3, g1, g2, g3, g4, g5, g6⟩
  · refine ⟨⟨l2, g2, fun j hj => h2 j (by omega)⟩, fun p hp => ?_⟩
    rw [h2 i (Nat.le_refl _), g1] at hp; cases hp
  · have e : ∀ j, i + 1 ≤ j → M.lookup j = l3.lookup j := fun j hj => by rw [h2 j (by omega)]; exact g6 j (by omega)
    refine ⟨⟨l3, g5.low (Nat.le_refl _) (by omega), e⟩, fun p' hp => ?_⟩
    rw [h2 i (Nat.le_refl _), g1] at hp
    cases hp
    exact ⟨g2, g3, g4, l3, g5, e⟩
/-- what the loop keeps -/
theorem wv_ind {X Y Z : List Tx} {M N : List (Nat × Nat)} (I : Nat → Wv → Prop)
    (hstep : ∀ i w t p q, i < X.length → X[i]? = some t → I i w → w.p ≤ i → MS X Y M i w.q → MS X Z N i w.r → M.lookup i = some p → N.lookup i = some q → w.q ≤ p → p < Y.length → w.r ≤ q → q < Z.length → Y[p]? = some t → Z[q]? = some t → I (i + 1) ((w.side X Y Z i p q).add t))
    (hskip : ∀ i w, i < X.length → I i w → I (i + 1) w) :
    ∀ (ts : List Tx) (i : Nat) (w : Wv), ts = X.drop i → i ≤ X.length → I i w → w.p ≤ i → MS X Y M i w.q → MS X Z N i w.r →
      ∃ w', wvGo X Y Z M N ts i w = w'.side X Y Z X.length Y.length Z.length ∧ I X.length w' ∧ w'.p ≤ X.length ∧ w'.q ≤ Y.length ∧ w'.r ≤ Z.length
  | [], i, w, e, hi, hI, hp, hM, hN => by
    have hl := congrArg List.length e
    rw [List.length_nil, List.length_drop] at hl
    obtain rfl : i = X.length := by omega
    exact ⟨w, rfl, hI, hp, hM.le, hN.le⟩
  | t :: ts, i, w, e, hi, hI, hp, hM, hN => by
    have hl := congrArg List.length e
    rw [List.length_cons, List.length_drop] at hl
    have hlt : i < X.length := by omega
    have ht : X[i]? = some t := by
      have := congrArg (·[0]?) e
      simpa [List.getElem?_drop] using this.symm
    have hts : ts = X.drop (i + 1) := by rw [← List.drop_drop, ← e]; rfl
    obtain ⟨hM1, hM2⟩ := hM.next hlt
    obtain ⟨hN1, hN2⟩ := hN.next hlt
    have skip : ∃ w', wvGo X Y Z M N ts (i + 1) w = w'.side X Y Z X.length Y.length Z.length ∧ I X.length w' ∧ w'.p ≤ X.length ∧ w'.q ≤ Y.length ∧ w'.r ≤ Z.length :=
      wv_ind I hstep hskip ts (i + 1) w hts hlt (hskip i w hlt hI) (by omega) hM1 hN1
    rw [wvGo]
    cases hm : M.lookup i with
    | none => simpa using skip
    | some p =>
      cases hn : N.lookup i with
      | none => simpa using skip
      | some q =>
        obtain ⟨a1, a2, ⟨x, a3, a4⟩, a5⟩ := hM2 p hm
        obtain ⟨b1, b2, ⟨y, b3, b4⟩, b5⟩ := hN2 q hn
        rw [ht] at a3 b3
        cases a3; cases b3
        exact wv_ind I hstep hskip ts (i + 1) _ hts hlt (hstep i w t p q hlt ht hI hp hM hN hm hn a1 a2 b1 b2 a4 b4) (Nat.le_refl _) a5 b5
theorem jn_grow {l : List Tx} {r k : Nat} {t : Tx} (h1 : r ≤ k) (h : l[k]? = some t) : jn l 0 r ++ jn l r k ++ t = jn l 0 (k + 1) := by
  rw [jn_app (Nat.zero_le _) h1, ← jn_one h, jn_app (Nat.zero_le _) (Nat.le_succ _)]
end Go.Eng

/-
  What is woven: turned about; spans; how long it is. No condition.
-/
namespace Go.Eng
open Go
/-- conflicts turned about -/
def SwOk : List Cf → List Cf → Prop
  | [], [] => True
  | c :: l, d :: k => (c.b = d.b ∧ c.i = d.f ∧ c.f = d.i ∧ c.i ≠ c.f) ∧ SwOk l k
  | _, _ => False
theorem SwOk.app : ∀ {l k l2 k2 : List Cf}, SwOk l k → SwOk l2 k2 → SwOk (l ++ l2) (k ++ k2)
  | [], [], _, _, _, h => h
  | [], _ :: _, _, _, h, _ => h.elim
  | _ :: _, [], _, _, h, _ => h.elim
  | _ :: l, _ :: k, _, _, ⟨h1, h2⟩, h => ⟨h1, SwOk.app h2 h⟩
theorem SwOk.length : ∀ {l k : List Cf}, SwOk l k → l.length = k.length
  | [], [], _ => rfl
  | [], _ :: _, h => h.elim
  | _ :: _, [], h => h.elim
  | _ :: l, _ :: k, ⟨_, h2⟩ => by rw [List.length_cons, List.length_cons, SwOk.length h2]
theorem SwOk.get : ∀ {l k : List Cf} {i : Nat} {c d : Cf}, SwOk l k → l[i]? = some c → k[i]? = some d → c.b = d.b ∧ c.i = d.f ∧ c.f = d.i ∧ c.i ≠ c.f
  | [], _, i, c, d, _, h, _ => by simp at h
  | _ :: _, [], i, c, d, h, _, _ => h.elim
  | a :: l, b :: k, 0, c, d, ⟨h1, _⟩, hc, hd => by cases hc; cases hd; exact h1
  | a :: l, b :: k, i + 1, c, d, ⟨_, h2⟩, hc, hd => SwOk.get h2 (by simpa using hc) (by simpa using hd)
theorem sideC_turn (o o' : Nat) (old a c : Tx) : SwOk (sideC o old a c) (sideC o' old c a) := by
  unfold sideC
  by_cases h : c ≠ old ∧ a ≠ old ∧ a ≠ c
  · rw [if_pos h, if_pos ⟨h.2.1, h.1, fun g => h.2.2 g.symm⟩]
    exact ⟨⟨rfl, rfl, rfl, h.2.2⟩, trivial⟩
  · rw [if_neg h, if_neg (fun g => h ⟨g.2.1, g.1, fun e => g.2.2 e.symm⟩)]
    trivial
theorem sideT_turn {o : Nat} {old a c : Tx} (h : sideC o old a c = []) : sideT old a c = sideT old c a := by
  unfold sideC at h
  unfold sideT
  by_cases h1 : c = old
  · by_cases h2 : a = old
    · rw [if_neg (fun g => g.1 h1), if_neg (fun g => g.1 h2), h1, h2]
    · rw [if_neg (fun g => g.1 h1), if_pos ⟨h2, h1⟩]
  · by_cases h2 : a = old
    · rw [if_pos ⟨h1, h2⟩, if_neg (fun g => g.1 h2)]
    · by_cases h3 : a = c
      · rw [if_neg (fun g => h2 g.2), if_neg (fun g => h1 g.2), h3]
      · rw [if_pos ⟨h1, h2, h3⟩] at h; cases h
def WR (w w' : Wv) : Prop := w.p = w'.p ∧ w.q = w'.r ∧ w.r = w'.q ∧ SwOk w.l w'.l ∧ (w.l = [] → w.out = w'.out)
theorem WR.side {X Y Z : List Tx} {w w' : Wv} {n k1 k2 : Nat} (h : WR w w') : WR (w.side X Y Z n k1 k2) (w'.side X Z Y n k2 k1) := by
  obtain ⟨h1, h2, h3, h4, h5⟩ := h
  refine ⟨rfl, rfl, rfl, ?_, ?_⟩
  · show SwOk (w.l ++ sideC w.out.length (jn X w.p n) (jn Y w.q k1) (jn Z w.r k2)) (w'.l ++ sideC w'.out.length (jn X w'.p n) (jn Z w'.q k2) (jn Y w'.r k1))
    rw [h1, h2, h3]
    exact h4.app (sideC_turn _ _ _ _ _)
  · intro he
    have he2 : w.l ++ sideC w.out.length (jn X w.p n) (jn Y w.q k1) (jn Z w.r k2) = [] := he
    obtain ⟨g1, g2⟩ := List.append_eq_nil_iff.1 he2
    show w.out ++ sideT (jn X w.p n) (jn Y w.q k1) (jn Z w.r k2) = w'.out ++ sideT (jn X w'.p n) (jn Z w'.q k2) (jn Y w'.r k1)
    rw [h5 g1, sideT_turn g2, h1, h2, h3]
theorem WR.add {w w' : Wv} {t : Tx} (h : WR w w') : WR (w.add t) (w'.add t) := by
  obtain ⟨h1, h2, h3, h4, h5⟩ := h
  exact ⟨h1, h2, h3, h4, fun he => by show w.out ++ t = w'.out ++ t; rw [h5 he]⟩
theorem WR.go {X Y Z : List Tx} {M N : List (Nat × Nat)} : ∀ (ts : List Tx) (i : Nat) (w w' : Wv), WR w w' → WR (wvGo X Y Z M N ts i w) (wvGo X Z Y N M ts i w')
  | [], _, w, w', h => h.side
  | t :: ts, i, w, w', h => by
    rw [wvGo, wvGo]
    cases hm : M.lookup i with
    | none => cases hn : N.lookup i <;> simpa using WR.go ts (i + 1) w w' h
    | some p =>
      cases hn : N.lookup i with
      | none => simpa using WR.go ts (i + 1) w w' h
      | some q => exact WR.go ts (i + 1) _ _ h.side.add
/-- spans follow one another, and hold what the one side gave -/
def SpOk (out : Tx) : Nat → List Cf → Prop
  | at_, [] => at_ ≤ out.length
  | at_, c :: l => at_ ≤ c.a ∧ c.a ≤ c.z ∧ c.z ≤ out.length ∧ (out.take c.z).drop c.a = c.i ∧ SpOk out c.z l
theorem SpOk.grow {out x : Tx} : ∀ {l : List Cf} {k : Nat}, SpOk out k l → SpOk (out ++ x) k l
  | [], k, h => by show k ≤ (out ++ x).length; rw [List.length_append]; exact Nat.le_trans h (Nat.le_add_right _ _)
  | c :: l, k, ⟨h1, h2, h3, h4, h5⟩ => ⟨h1, h2, by rw [List.length_append]; omega, by rw [List.take_append_of_le_length h3]; exact h4, h5.grow⟩
theorem SpOk.snoc {out a b f : Tx} : ∀ {l : List Cf} {k : Nat}, SpOk out k l → SpOk (out ++ a) k (l ++ [⟨out.length, out.length + a.length, b, a, f⟩])
  | [], k, h => by
    refine ⟨h, Nat.le_add_right _ _, by rw [List.length_append]; exact Nat.le_refl _, ?_, by show _ ≤ (out ++ a).length; rw [List.length_append]; exact Nat.le_refl _⟩
    show ((out ++ a).take (out.length + a.length)).drop out.length = a
    rw [List.take_of_length_le (by rw [List.length_append]; exact Nat.le_refl _), List.drop_left]
  | c :: l, k, ⟨h1, h2, h3, h4, h5⟩ => ⟨h1, h2, by rw [List.length_append]; omega, by rw [List.take_append_of_le_length h3]; exact h4, h5.snoc⟩
theorem SpOk.side {out old a c : Tx} {l : List Cf} {k : Nat} (h : SpOk out k l) : SpOk (out ++ sideT old a c) k (l ++ sideC out.length old a c) := by
  unfold sideC
  split
  · next g =>
    rw [show sideT old a c = a from if_neg (fun e => g.2.1 e.2)]
    exact h.snoc
  · rw [List.append_nil]; exact h.grow
theorem sideT_sum (o a c : Tx) : (sideT o a c).length ≤ a.length + c.length := by
  unfold sideT
  split <;> omega
theorem weave_len (s t u : Tx) : (weaveL s t u).out.length ≤ t.length + u.length := by
  obtain ⟨w, h1, h2, h5, h6, h7⟩ := wv_ind (X := toks s) (Y := toks t) (Z := toks u) (M := matchL (toks s) (toks t)) (N := matchL (toks s) (toks u)) (fun _ w => w.out.length ≤ (jn (toks t) 0 w.q).length + (jn (toks u) 0 w.r).length)
    (by
      intro i w x p q hi ht hI hp hM hN hm hn a1 a2 b1 b2 a4 b4
      show (w.out ++ sideT (jn (toks s) w.p i) (jn (toks t) w.q p) (jn (toks u) w.r q) ++ x).length ≤ (jn (toks t) 0 (p + 1)).length + (jn (toks u) 0 (q + 1)).length
      have := sideT_sum (jn (toks s) w.p i) (jn (toks t) w.q p) (jn (toks u) w.r q)
      rw [← jn_grow a1 a4, ← jn_grow b1 b4]
      simp only [List.length_append]
      omega)
    (fun _ _ _ h => h) (toks s) 0 ⟨[], [], 0, 0, 0⟩ rfl (Nat.zero_le _) (Nat.zero_le _) (Nat.le_refl _) MS.start MS.start
  unfold weaveL
  rw [h1]
  show (w.out ++ sideT (jn (toks s) w.p (toks s).length) (jn (toks t) w.q (toks t).length) (jn (toks u) w.r (toks u).length)).length ≤ _
  have := sideT_sum (jn (toks s) w.p (toks s).length) (jn (toks t) w.q (toks t).length) (jn (toks u) w.r (toks u).length)
  have e1 := congrArg List.length (jn_app (l := toks t) (Nat.zero_le _) h6)
  have e2 := congrArg List.length (jn_app (l := toks u) (Nat.zero_le _) h7)
  rw [jn_all, toks_join, List.length_append] at e1 e2
  rw [List.length_append]
  omega
end Go.Eng

/-
  The walk of the law DraftWoven. No condition.
-/
namespace Go.Eng
open Go
theorem weave_count (s t u : Tx) : (weaveL s t u).l.length ≤ s.length + 1 := by
  obtain ⟨w, h1, h2, _⟩ := wv_ind (X := toks s) (Y := toks t) (Z := toks u) (M := matchL (toks s) (toks t)) (N := matchL (toks s) (toks u)) (fun i w => w.l.length ≤ i)
    (by
      intro i w x p q hi ht hI _ _ _ _ _ _ _ _ _ _ _
      show (w.l ++ sideC w.out.length (jn (toks s) w.p i) (jn (toks t) w.q p) (jn (toks u) w.r q)).length ≤ i + 1
      have := sideC_le w.out.length (jn (toks s) w.p i) (jn (toks t) w.q p) (jn (toks u) w.r q)
      rw [List.length_append]; omega)
    (fun i w _ h => Nat.le_succ_of_le h) (toks s) 0 ⟨[], [], 0, 0, 0⟩ rfl (Nat.zero_le _) (Nat.zero_le _) (Nat.le_refl _) MS.start MS.start
  unfold weaveL
  rw [h1]
  show (w.l ++ sideC w.out.length (jn (toks s) w.p (toks s).length) (jn (toks t) w.q (toks t).length) (jn (toks u) w.r (toks u).length)).length ≤ _
  have := sideC_le w.out.length (jn (toks s) w.p (toks s).length) (jn (toks t) w.q (toks t).length) (jn (toks u) w.r (toks u).length)
  have h3 := toks_length s
  rw [List.length_append]; omega
end Go.Eng
namespace Go.Proofs.Ytieangfnjflfmaa
open Go Go.Eng
set_option maxRecDepth 100000
set_option maxHeartbeats 4000000
set_option linter.all false
attribute [local irreducible] WL WC WQ QFun QLoop Does Q1 QRound QAssign Go.Addr.add
attribute [local irreducible] weaveL cfs
end Go.Proofs.Ytieangfnjflfmaa

/-
  The walk of the law DraftWeaves. No condition.
-/
namespace Go.Eng
theorem bytes_self (x : ByteArray) : (x == x) = true := by
  obtain ⟨d⟩ := x
  show (d == d) = true
  simp
end Go.Eng
namespace Go.Proofs.Ytieangfnjflfmaa
open Go Go.Eng
set_option maxRecDepth 100000
set_option maxHeartbeats 4000000
set_option linter.all false
attribute [local irreducible] WL WC WQ QFun QLoop Does Q1 QRound QAssign Go.Addr.add
theorem eq_cf (c : Cf) : eqB Try.prog 8 36 (.agg #[.int .i64 (c.a : Int), .int .i64 (c.z : Int), str c.b, str c.i, str c.f]) (.agg #[.int .i64 (c.a : Int), .int .i64 (c.z : Int), str c.b, str c.i, str c.f]) = some true := by
  obtain ⟨a, z, b, i, f⟩ := c
  have h : ∀ (a z : Int) (b i f : ByteArray), eqB Try.prog 8 36 (.agg #[.int .i64 a, .int .i64 z, .string b, .string i, .string f]) (.agg #[.int .i64 a, .int .i64 z, .string b, .string i, .string f]) = some ((a == a && (z == z && true)) && (b == b && (i == i && (f == f && true)))) := fun a z b i f => by kernel_rfl
  rw [h]
  simp [bytes_self]
attribute [local irreducible] cfs
theorem sq_D33_1 {G : Prop} (h : G := by (repeat (first | (refine sp ?_; (repeat intro zzc)) | (refine iB_eql rfl ?_; refine w_eqlV ?_ (he := eq_cf _)) | (refine iB_neq rfl ?_; refine w_neqV ?_ (he := eq_cf _)))); exact WQ.q1 rfl) : G := h
theorem st_D33_1 {G G' : Prop} (next : G') (h : Bx G' → G := by intro zzn; (first | ((refine st ?_; (repeat intro zzc)); (try ((first | (refine iB_eql rfl ?_; refine w_eqlV ?_ (he := eq_cf _)) | (refine iB_neq rfl ?_; refine w_neqV ?_ (he := eq_cf _)) | ((refine iDraw ?_; (first | refine WC.drawAll rfl (by decide +kernel) ?_ | refine WC.draw 1 rfl (by decide +kernel) ?_ | refine WC.draw 2 rfl (by decide +kernel) ?_ | refine WC.draw 3 rfl (by decide +kernel) ?_ | refine WC.draw 4 rfl (by decide +kernel) ?_ | refine WC.draw 5 rfl (by decide +kernel) ?_ | refine WC.draw 6 rfl (by decide +kernel) ?_ | refine WC.draw 7 rfl (by decide +kernel) ?_ | refine WC.draw 8 rfl (by decide +kernel) ?_ | refine WC.draw 9 rfl (by decide +kernel) ?_ | refine WC.draw 10 rfl (by decide +kernel) ?_ | refine WC.draw 11 rfl (by decide +kernel) ?_ | refine WC.draw 12 rfl (by decide +kernel) ?_ | refine WC.draw 13 rfl (by decide +kernel) ?_ | refine WC.draw 14 rfl (by decide +kernel) ?_ | refine WC.draw 15 rfl (by decide +kernel) ?_ | refine WC.draw 16 rfl (by decide +kernel) ?_ | refine WC.draw 17 rfl (by decide +kernel) ?_ | refine WC.draw 18 rfl (by decide +kernel) ?_ | refine WC.draw 19 rfl (by decide +kernel) ?_ | refine WC.draw 20 rfl (by decide +kernel) ?_ | refine WC.draw 21 rfl (by decide +kernel) ?_ | refine WC.draw 22 rfl (by decide +kernel) ?_ | refine WC.draw 23 rfl (by decide +kernel) ?_ | refine WC.draw 24 rfl (by decide +kernel) ?_)); (repeat (refine WD.cons rfl (fun c h => by cases h) sq_D33_1 ?_)); refine WD.nil ?_)); (try (refine st ?_; (repeat intro zzc)))))) | ((first | (refine iB_eql rfl ?_; refine w_eqlV ?_ (he := eq_cf _)) | (refine iB_neq rfl ?_; refine w_neqV ?_ (he := eq_cf _)) | ((refine iDraw ?_; (first | refine WC.drawAll rfl (by decide +kernel) ?_ | refine WC.draw 1 rfl (by decide +kernel) ?_ | refine WC.draw 2 rfl (by decide +kernel) ?_ | refine WC.draw 3 rfl (by decide +kernel) ?_ | refine WC.draw 4 rfl (by decide +kernel) ?_ | refine WC.draw 5 rfl (by decide +kernel) ?_ | refine WC.draw 6 rfl (by decide +kernel) ?_ | refine WC.draw 7 rfl (by decide +kernel) ?_ | refine WC.draw 8 rfl (by decide +kernel) ?_ | refine WC.draw 9 rfl (by decide +kernel) ?_ | refine WC.draw 10 rfl (by decide +kernel) ?_ | refine WC.draw 11 rfl (by decide +kernel) ?_ | refine WC.draw 12 rfl (by decide +kernel) ?_ | refine WC.draw 13 rfl (by decide +kernel) ?_ | refine WC.draw 14 rfl (by decide +kernel) ?_ | refine WC.draw 15 rfl (by decide +kernel) ?_ | refine WC.draw 16 rfl (by decide +kernel) ?_ | refine WC.draw 17 rfl (by decide +kernel) ?_ | refine WC.draw 18 rfl (by decide +kernel) ?_ | refine WC.draw 19 rfl (by decide +kernel) ?_ | refine WC.draw 20 rfl (by decide +kernel) ?_ | refine WC.draw 21 rfl (by decide +kernel) ?_ | refine WC.draw 22 rfl (by decide +kernel) ?_ | refine WC.draw 23 rfl (by decide +kernel) ?_ | refine WC.draw 24 rfl (by decide +kernel) ?_)); (repeat (refine WD.cons rfl (fun c h => by cases h) sq_D33_1 ?_)); refine WD.nil ?_)); (try (refine st ?_; (repeat intro zzc))))); (repeat ((first | (refine iB_eql rfl ?_; refine w_eqlV ?_ (he := eq_cf _)) | (refine iB_neq rfl ?_; refine w_neqV ?_ (he := eq_cf _)) | ((refine iDraw ?_; (first | refine WC.drawAll rfl (by decide +kernel) ?_ | refine WC.draw 1 rfl (by decide +kernel) ?_ | refine WC.draw 2 rfl (by decide +kernel) ?_ | refine WC.draw 3 rfl (by decide +kernel) ?_ | refine WC.draw 4 rfl (by decide +kernel) ?_ | refine WC.draw 5 rfl (by decide +kernel) ?_ | refine WC.draw 6 rfl (by decide +kernel) ?_ | refine WC.draw 7 rfl (by decide +kernel) ?_ | refine WC.draw 8 rfl (by decide +kernel) ?_ | refine WC.draw 9 rfl (by decide +kernel) ?_ | refine WC.draw 10 rfl (by decide +kernel) ?_ | refine WC.draw 11 rfl (by decide +kernel) ?_ | refine WC.draw 12 rfl (by decide +kernel) ?_ | refine WC.draw 13 rfl (by decide +kernel) ?_ | refine WC.draw 14 rfl (by decide +kernel) ?_ | refine WC.draw 15 rfl (by decide +kernel) ?_ | refine WC.draw 16 rfl (by decide +kernel) ?_ | refine WC.draw 17 rfl (by decide +kernel) ?_ | refine WC.draw 18 rfl (by decide +kernel) ?_ | refine WC.draw 19 rfl (by decide +kernel) ?_ | refine WC.draw 20 rfl (by decide +kernel) ?_ | refine WC.draw 21 rfl (by decide +kernel) ?_ | refine WC.draw 22 rfl (by decide +kernel) ?_ | refine WC.draw 23 rfl (by decide +kernel) ?_ | refine WC.draw 24 rfl (by decide +kernel) ?_)); (repeat (refine WD.cons rfl (fun c h => by cases h) sq_D33_1 ?_)); refine WD.nil ?_)); (try (refine st ?_; (repeat intro zzc))))); (repeat revert zzc); exact zzn.out) : G := h ⟨next⟩
theorem conflicts_same {L : List Cf} {a b : Option Addr} {ca cb : Nat} {w0 : World} {m : Mem} {H : SHeap} (hl : L.length ≤ 4194304) (ha : RowR w0 m H 5 a (cfs L)) (hb : RowR w0 m H 5 b (cfs L)) :
    Does Try.prog 12 #[.slice a L.length ca, .slice b L.length cb] w0 m H (Gives (.bool true) m H) := by
  refine Does.of_body (args := [.slice a L.length ca, .slice b L.length cb]) Try.func12 rfl Try.ntmps12 rfl ?_
  have hll := cfs_length L
  (try (refine st_D33_1 ?_; intros))
  refine WC.loopH [(13, .int .i64 ((0) : Int)), (12, .int .i64 (L.length : Int)), (0, .slice a L.length ca), (1, .slice b L.length cb)] ?_ ?_ (fun j r ds m' H' => ∃ i, j = L.length - i ∧ r = [(13, .int .i64 (i : Int)), (12, .int .i64 (L.length : Int)), (0, .slice a L.length ca), (1, .slice b L.length cb)] ∧ ds = [] ∧ m = m' ∧ H' = H ∧ (i ≤ L.length)) (L.length - (0)) ⟨0, rfl, rfl, rfl, rfl, rfl, Nat.zero_le _⟩ ?_
  · (repeat (first | exact Env.Sub.nil | refine Env.Sub.cons rfl ?_))
  · exact zpk
  rintro j r ds m' H' ⟨i, rfl, rfl, rfl, rfl, rfl, hi⟩
  by_cases hlt : i < L.length
  · obtain ⟨c, hc⟩ : ∃ c, L[i]? = some c := ⟨_, List.getElem?_eq_getElem hlt⟩
    have hgc : (cfs L)[i]? = some [.int .i64 (c.a : Int), .int .i64 (c.z : Int), str c.b, str c.i, str c.f] := by unfold cfs; rw [List.getElem?_map, hc]; rfl
    generalize cfs L = E at *
    refine WC.rSome ha (by omega) ?_
    rintro a0 rfl
    refine WC.rSome hb (by omega) ?_
    rintro b0 rfl
    (try (refine st_D33_1 ?_; intros))
    refine WQ.next (L.length - (i + 1)) ⟨i + 1, rfl, rfl, rfl, rfl, rfl, ?_⟩ (by omega) zsb zpk
    · omega
  · generalize H' = H at *
    (try (refine st_D33_1 ?_; intros))
    exact q_fin0 (H0 := H) (Gives.mk rfl) (hd := zpk)
theorem lcut_any (s : List UInt8) (hs : s.length ≤ 4194304) (w0 : World) (m : Mem) (H : SHeap) : Does Try.prog 10 #[str s] w0 m H (Gives (str (s.take 3000)) m H) := by
  refine Does.of_body (args := [str s]) Try.func10 rfl Try.ntmps10 rfl ?_
  by_cases h : 3000 < s.length
  · (try (refine st_D33_1 ?_; intros))
    exact q_fin0 (H0 := H) (Gives.mk rfl) (hd := zpk)
  · (try (refine st_D33_1 ?_; intros))
    exact q_fin0 (H0 := H) (Gives.mk (by rw [List.take_of_length_le (by omega)])) (hd := zpk)
theorem llong_any (s : List UInt8) (hs : s.length ≤ 65536) (w0 : World) (m : Mem) (H : SHeap) : Does Try.prog 9 #[str s] w0 m H (Tells (.bool (dcd (3000 < s.length ∧ 60 < (toks s).length))) m H) := by
  refine Does.of_body (args := [str s]) Try.func9 rfl Try.ntmps9 rfl ?_
  have htl := toks_length s
  by_cases h : 3000 < s.length
  · (try (refine st_D33_1 ?_; intros))
    refine w_callF Try.func31 ?_ (hs := rtoks_any s (by omega) _ _ _)
    rintro v m1 H1 ⟨hle1, a, c, rfl, rfl⟩
    (try (refine st_D33_1 ?_; intros))
    have he : dcd (60 < ((toks s).length : Int)) = dcd (3000 < s.length ∧ 60 < (toks s).length) := dcd_cong (by omega)
    rw [← he]
    exact q_fin0 (H0 := H) (Tells.mk hle1 rfl) (hd := zpk)
  · (try (refine st_D33_1 ?_; intros))
    exact q_fin0 (H0 := H) (Tells.mk (Mem.le.refl _) (congrArg Value.bool (by rw [dcd_false (fun g => h g.1)]))) (hd := zpk)
end Go.Proofs.Ytieangfnjflfmaa

/-
  The walk of the law DraftWeaves, whole. No condition.
-/
namespace Go.Proofs.Ytieangfnjflfmaa
open Go Go.Eng
set_option maxRecDepth 100000
set_option maxHeartbeats 4000000
set_option linter.all false
attribute [local irreducible] WL WC WQ QFun QLoop Does Q1 QRound QAssign Go.Addr.add
attribute [local irreducible] cfs wres weaveL toks
theorem draftWeaves_any (s t u : Tx) (hs : s.length ≤ 9223372036854775807) (ht : t.length ≤ 9223372036854775807) (hu : u.length ≤ 9223372036854775807) (w0 : World) (m : Mem) (H : SHeap) :
    Does Try.prog 3 #[str s, str t, str u] w0 m H (fun v m' _ => v = .bool true ∧ m.le m') := by
  refine Does.of_body (args := [str s, str t, str u]) Try.func3 rfl Try.ntmps3 rfl ?_
  (try (refine st ?_; intros))
  refine w_callF Try.func7 ?_ (hs := wakes_any _ _ _)
  rintro v m1 H1 ⟨hle1, rfl, rfl⟩
  by_cases hlong : Long [s, t, u]
  · have hc : 65536 < s.length ∨ (¬ 65536 < s.length ∧ (65536 < t.length ∨ (¬ 65536 < t.length ∧ 65536 < u.length))) := by
      obtain ⟨x, hx, hx2⟩ := hlong
      simp only [List.mem_cons, List.not_mem_nil, or_false] at hx
      rcases hx with rfl | rfl | rfl <;> omega
    have hw := wres_long (s := s) (t := t) (u := u) (.inl hlong)
    rcases hc with h1 | ⟨h1, h2 | ⟨h2, h3⟩⟩
    all_goals
      (try (refine st ?_; intros))
      refine w_callF Try.func8 ?_ (hs := weave_any s t u _ _ _)
      rintro v mB HB ⟨hleB, a2, c2, rfl, rfl⟩
      rw [show (wres s t u).1 = [] by rw [hw], show (wres s t u).2.1 = [] by rw [hw], show (((wres s t u).2.2 : Nat) : Int) = 3 by rw [hw]; rfl, List.length_nil]
      (try (refine st ?_; intros))
      refine w_callF Try.func7 ?_ (hs := wakes_any _ _ _)
      rintro v mC HC ⟨hleC, rfl, rfl⟩
      (try (refine st ?_; intros))
      exact q_fin0 (H0 := H1) ⟨rfl, hle1.trans (hleB.trans hleC)⟩ (hd := zpk)
  · have hls : s.length ≤ 65536 := Nat.le_of_not_lt fun h => hlong ⟨s, by simp, h⟩
    have hlt : t.length ≤ 65536 := Nat.le_of_not_lt fun h => hlong ⟨t, by simp, h⟩
    have hlu : u.length ≤ 65536 := Nat.le_of_not_lt fun h => hlong ⟨u, by simp, h⟩
    clear hlong hs ht hu
    have hts : (s.take 3000).length ≤ 65536 := by rw [List.length_take]; omega
    have htt : (t.take 3000).length ≤ 65536 := by rw [List.length_take]; omega
    have htu : (u.take 3000).length ≤ 65536 := by rw [List.length_take]; omega
    (try (refine st ?_; intros))
    refine w_callF Try.func9 ?_ (hs := llong_any s hls _ _ _)
    rintro v m2 H2 ⟨hle2, rfl, rfl⟩
    by_cases hps : 3000 < s.length ∧ 60 < (toks s).length
    · rw [dcd_true hps]
      clear hps
      (try (refine st ?_; intros))
      refine w_callF Try.func10 ?_ (hs := lcut_any s (by omega) _ _ _)
      rintro v m9 H9 ⟨rfl, rfl, rfl⟩
      (try (refine st ?_; intros))
      refine w_callF Try.func10 ?_ (hs := lcut_any t (by omega) _ _ _)
      rintro v m9 H9 ⟨rfl, rfl, rfl⟩
      (try (refine st ?_; intros))
      refine w_callF Try.func10 ?_ (hs := lcut_any u (by omega) _ _ _)
      rintro v m9 H9 ⟨rfl, rfl, rfl⟩
      clear hls hlt hlu
      have hS := hts
      have hT := htt
      have hU := htu
      clear hts htt htu
      generalize s.take 3000 = S at *
      generalize t.take 3000 = T at *
      generalize u.take 3000 = U at *
      (try (refine st ?_; intros))
      refine w_callF Try.func11 ?_ (hs := rweave_any S T U hS hT hU _ _ _)
      rintro v mA HA ⟨hleA, a1, c1, rfl, rfl⟩
      (try (refine st ?_; intros))
      refine w_callF Try.func8 ?_ (hs := weave_any S T U _ _ _)
      rintro v mB HB ⟨hleB, a2, c2, rfl, rfl⟩
      have hcnt := weave_count S T U
      have hlen := weave_len S T U
      have hns : ¬ Long [S, T, U] := by
        rintro ⟨x, hx, hx2⟩
        simp only [List.mem_cons, List.not_mem_nil, or_false] at hx
        rcases hx with rfl | rfl | rfl <;> omega
      by_cases hbig : 65536 < (weaveL S T U).out.length
      · have hw := wres_long (s := S) (t := T) (u := U) (.inr hbig)
        rw [show (wres S T U).1 = [] by rw [hw], show (wres S T U).2.1 = [] by rw [hw], show (((wres S T U).2.2 : Nat) : Int) = 3 by rw [hw]; rfl, List.length_nil]
        clear hw
        generalize weaveL S T U = P at *
        (try (refine st ?_; intros))
        refine w_callF Try.func7 ?_ (hs := wakes_any _ _ _)
        rintro v mC HC ⟨hleC, rfl, rfl⟩
        (try (refine st ?_; intros))
        exact q_fin0 (H0 := H9) ⟨rfl, (hle1.trans hle2).trans (hleA.trans (hleB.trans hleC))⟩ (hd := zpk)
      · have hw := wres_ok (s := S) (t := T) (u := U) hns hbig
        rw [show (wres S T U).1 = (weaveL S T U).out by rw [hw], show (wres S T U).2.1 = (weaveL S T U).l by rw [hw], show (((wres S T U).2.2 : Nat) : Int) = 0 by rw [hw]; rfl]
        clear hw
        generalize weaveL S T U = P at *
        have hss : P.out = P.out := rfl
        (try (refine st ?_; intros))
        refine w_callF Try.func12 ?_ (hs := conflicts_same (L := P.l) (by omega) (RowR.row (T := 36) (cap := c2) zhs) (RowR.row (T := 36) (cap := c1) zhs))
        rintro v mD HD ⟨rfl, rfl, rfl⟩
        (try (refine st ?_; intros))
        refine w_callF Try.func7 ?_ (hs := wakes_any _ _ _)
        rintro v mC HC ⟨hleC, rfl, rfl⟩
        (try (refine st ?_; intros))
        exact q_fin0 (H0 := H9) ⟨rfl, (hle1.trans hle2).trans (hleA.trans (hleB.trans hleC))⟩ (hd := zpk)
    rw [dcd_false hps]
    clear hps
    (try (refine st ?_; intros))
    refine w_callF Try.func9 ?_ (hs := llong_any t hlt _ _ _)
    rintro v m3 H3 ⟨hle3, rfl, rfl⟩
    by_cases hpt : 3000 < t.length ∧ 60 < (toks t).length
    · rw [dcd_true hpt]
      clear hpt
      (try (refine st ?_; intros))
      refine w_callF Try.func10 ?_ (hs := lcut_any s (by omega) _ _ _)
      rintro v m9 H9 ⟨rfl, rfl, rfl⟩
      (try (refine st ?_; intros))
      refine w_callF Try.func10 ?_ (hs := lcut_any t (by omega) _ _ _)
      rintro v m9 H9 ⟨rfl, rfl, rfl⟩
      (try (refine st ?_; intros))
      refine w_callF Try.func10 ?_ (hs := lcut_any u (by omega) _ _ _)
      rintro v m9 H9 ⟨rfl, rfl, rfl⟩
      clear hls hlt hlu
      have hS := hts
      have hT := htt
      have hU := htu
      clear hts htt htu
      generalize s.take 3000 = S at *
      generalize t.take 3000 = T at *
      generalize u.take 3000 = U at *
      (try (refine st ?_; intros))
      refine w_callF Try.func11 ?_ (hs := rweave_any S T U hS hT hU _ _ _)
      rintro v mA HA ⟨hleA, a1, c1, rfl, rfl⟩
      (try (refine st ?_; intros))
      refine w_callF Try.func8 ?_ (hs := weave_any S T U _ _ _)
      rintro v mB HB ⟨hleB, a2, c2, rfl, rfl⟩
      have hcnt := weave_count S T U
      have hlen := weave_len S T U
      have hns : ¬ Long [S, T, U] := by
        rintro ⟨x, hx, hx2⟩
        simp only [List.mem_cons, List.not_mem_nil, or_false] at hx
        rcases hx with rfl | rfl | rfl <;> omega
      by_cases hbig : 65536 < (weaveL S T U).out.length
      · have hw := wres_long (s := S) (t := T) (u := U) (.inr hbig)
        rw [show (wres S T U).1 = [] by rw [hw], show (wres S T U).2.1 = [] by rw [hw], show (((wres S T U).2.2 : Nat) : Int) = 3 by rw [hw]; rfl, List.length_nil]
        clear hw
        generalize weaveL S T U = P at *
        (try (refine st ?_; intros))
        refine w_callF Try.func7 ?_ (hs := wakes_any _ _ _)
        rintro v mC HC ⟨hleC, rfl, rfl⟩
        (try (refine st ?_; intros))
        exact q_fin0 (H0 := H9) ⟨rfl, (hle1.trans (hle2.trans hle3)).trans (hleA.trans (hleB.trans hleC))⟩ (hd := zpk)
      · have hw := wres_ok (s := S) (t := T) (u := U) hns hbig
        rw [show (wres S T U).1 = (weaveL S T U).out by rw [hw], show (wres S T U).2.1 = (weaveL S T U).l by rw [hw], show (((wres S T U).2.2 : Nat) : Int) = 0 by rw [hw]; rfl]
        clear hw
        generalize weaveL S T U = P at *
        have hss : P.out = P.out := rfl
        (try (refine st ?_; intros))
        refine w_callF Try.func12 ?_ (hs := conflicts_same (L := P.l) (by omega) (RowR.row (T := 36) (cap := c2) zhs) (RowR.row (T := 36) (cap := c1) zhs))
        rintro v mD HD ⟨rfl, rfl, rfl⟩
        (try (refine st ?_; intros))
        refine w_callF Try.func7 ?_ (hs := wakes_any _ _ _)
        rintro v mC HC ⟨hleC, rfl, rfl⟩
        (try (refine st ?_; intros))
        exact q_fin0 (H0 := H9) ⟨rfl, (hle1.trans (hle2.trans hle3)).trans (hleA.trans (hleB.trans hleC))⟩ (hd := zpk)
    rw [dcd_false hpt]
    clear hpt
    (try (refine st ?_; intros))
    refine w_callF Try.func9 ?_ (hs := llong_any u hlu _ _ _)
    rintro v m4 H4 ⟨hle4, rfl, rfl⟩
    by_cases hpu : 3000 < u.length ∧ 60 < (toks u).length
    · rw [dcd_true hpu]
      clear hpu
      (try (refine st ?_; intros))
      refine w_callF Try.func10 ?_ (hs := lcut_any s (by omega) _ _ _)
      rintro v m9 H9 ⟨rfl, rfl, rfl⟩
      (try (refine st ?_; intros))
      refine w_callF Try.func10 ?_ (hs := lcut_any t (by omega) _ _ _)
      rintro v m9 H9 ⟨rfl, rfl, rfl⟩
      (try (refine st ?_; intros))
      refine w_callF Try.func10 ?_ (hs := lcut_any u (by omega) _ _ _)
      rintro v m9 H9 ⟨rfl, rfl, rfl⟩
      clear hls hlt hlu
      have hS := hts
      have hT := htt
      have hU := htu
      clear hts htt htu
      generalize s.take 3000 = S at *
      generalize t.take 3000 = T at *
      generalize u.take 3000 = U at *
      (try (refine st ?_; intros))
      refine w_callF Try.func11 ?_ (hs := rweave_any S T U hS hT hU _ _ _)
      rintro v mA HA ⟨hleA, a1, c1, rfl, rfl⟩
      (try (refine st ?_; intros))
      refine w_callF Try.func8 ?_ (hs := weave_any S T U _ _ _)
      rintro v mB HB ⟨hleB, a2, c2, rfl, rfl⟩
      have hcnt := weave_count S T U
      have hlen := weave_len S T U
      have hns : ¬ Long [S, T, U] := by
        rintro ⟨x, hx, hx2⟩
        simp only [List.mem_cons, List.not_mem_nil, or_false] at hx
        rcases hx with rfl | rfl | rfl <;> omega
      by_cases hbig : 65536 < (weaveL S T U).out.length
      · have hw := wres_long (s := S) (t := T) (u := U) (.inr hbig)
        rw [show (wres S T U).1 = [] by rw [hw], show (wres S T U).2.1 = [] by rw [hw], show (((wres S T U).2.2 : Nat) : Int) = 3 by rw [hw]; rfl, List.length_nil]
        clear hw
        generalize weaveL S T U = P at *
        (try (refine st ?_; intros))
        refine w_callF Try.func7 ?_ (hs := wakes_any _ _ _)
        rintro v mC HC ⟨hleC, rfl, rfl⟩
        (try (refine st ?_; intros))
        exact q_fin0 (H0 := H9) ⟨rfl, (hle1.trans (hle2.trans (hle3.trans hle4))).trans (hleA.trans (hleB.trans hleC))⟩ (hd := zpk)
      · have hw := wres_ok (s := S) (t := T) (u := U) hns hbig
        rw [show (wres S T U).1 = (weaveL S T U).out by rw [hw], show (wres S T U).2.1 = (weaveL S T U).l by rw [hw], show (((wres S T U).2.2 : Nat) : Int) = 0 by rw [hw]; rfl]
        clear hw
        generalize weaveL S T U = P at *
        have hss : P.out = P.out := rfl
        (try (refine st ?_; intros))
        refine w_callF Try.func12 ?_ (hs := conflicts_same (L := P.l) (by omega) (RowR.row (T := 36) (cap := c2) zhs) (RowR.row (T := 36) (cap := c1) zhs))
        rintro v mD HD ⟨rfl, rfl, rfl⟩
        (try (refine st ?_; intros))
        refine w_callF Try.func7 ?_ (hs := wakes_any _ _ _)
        rintro v mC HC ⟨hleC, rfl, rfl⟩
        (try (refine st ?_; intros))
        exact q_fin0 (H0 := H9) ⟨rfl, (hle1.trans (hle2.trans (hle3.trans hle4))).trans (hleA.trans (hleB.trans hleC))⟩ (hd := zpk)
    rw [dcd_false hpu]
    clear hpu hts htt htu
    obtain ⟨S, rfl⟩ : ∃ S, S = s := ⟨_, rfl⟩
    obtain ⟨T, rfl⟩ : ∃ T, T = t := ⟨_, rfl⟩
    obtain ⟨U, rfl⟩ : ∃ U, U = u := ⟨_, rfl⟩
    have hS := hls
    have hT := hlt
    have hU := hlu
    (try (refine st ?_; intros))
    refine w_callF Try.func11 ?_ (hs := rweave_any S T U hS hT hU _ _ _)
    rintro v mA HA ⟨hleA, a1, c1, rfl, rfl⟩
    (try (refine st ?_; intros))
    refine w_callF Try.func8 ?_ (hs := weave_any S T U _ _ _)
    rintro v mB HB ⟨hleB, a2, c2, rfl, rfl⟩
    have hcnt := weave_count S T U
    have hlen := weave_len S T U
    have hns : ¬ Long [S, T, U] := by
      rintro ⟨x, hx, hx2⟩
      simp only [List.mem_cons, List.not_mem_nil, or_false] at hx
      rcases hx with rfl | rfl | rfl <;> omega
    by_cases hbig : 65536 < (weaveL S T U).out.length
    · have hw := wres_long (s := S) (t := T) (u := U) (.inr hbig)
      rw [show (wres S T U).1 = [] by rw [hw], show (wres S T U).2.1 = [] by rw [hw], show (((wres S T U).2.2 : Nat) : Int) = 3 by rw [hw]; rfl, List.length_nil]
      clear hw
      generalize weaveL S T U = P at *
      (try (refine st ?_; intros))
      refine w_callF Try.func7 ?_ (hs := wakes_any _ _ _)
      rintro v mC HC ⟨hleC, rfl, rfl⟩
      (try (refine st ?_; intros))
      exact q_fin0 (H0 := H4) ⟨rfl, (hle1.trans (hle2.trans (hle3.trans hle4))).trans (hleA.trans (hleB.trans hleC))⟩ (hd := zpk)
    · have hw := wres_ok (s := S) (t := T) (u := U) hns hbig
      rw [show (wres S T U).1 = (weaveL S T U).out by rw [hw], show (wres S T U).2.1 = (weaveL S T U).l by rw [hw], show (((wres S T U).2.2 : Nat) : Int) = 0 by rw [hw]; rfl]
      clear hw
      generalize weaveL S T U = P at *
      have hss : P.out = P.out := rfl
      (try (refine st ?_; intros))
      refine w_callF Try.func12 ?_ (hs := conflicts_same (L := P.l) (by omega) (RowR.row (T := 36) (cap := c2) zhs) (RowR.row (T := 36) (cap := c1) zhs))
      rintro v mD HD ⟨rfl, rfl, rfl⟩
      (try (refine st ?_; intros))
      refine w_callF Try.func7 ?_ (hs := wakes_any _ _ _)
      rintro v mC HC ⟨hleC, rfl, rfl⟩
      (try (refine st ?_; intros))
      exact q_fin0 (H0 := H4) ⟨rfl, (hle1.trans (hle2.trans (hle3.trans hle4))).trans (hleA.trans (hleB.trans hleC))⟩ (hd := zpk)
end Go.Proofs.Ytieangfnjflfmaa

/-
  A walk's engine, sixteenth part: how a law's arguments are read, ahead of the call and behind it. No condition.
-/
set_option linter.all false
namespace Go.Eng
open Go Go.RowKit Go.ChangeShapes Go.WideShapes Go.ChangeMaps
section
variable {H : Type} {enc : TypeId × Value → H} {P : Program}
theorem same_below {W W' : World} (hb : Below W.heap.size W W') {p : MemPlace} (hp : p.block < W.heap.size) : W.sameAt W' p := by
  cases p with
  | cell b off =>
    have h := hb.block b hp
    show W'.cell? ⟨b, off, none⟩ = W.cell? ⟨b, off, none⟩
    simp only [World.cell?, h]
  | map b => exact hb.block b hp
theorem trod_again {W W' : World} {sp : Nat → Bool} {t : TypeId} {v : Value} {d : DataW H} {p : List MemPlace} (hl : laidOutB P = true) (ht : t < P.types.size) (hr : P.readableRec t = true)
    (h : DataW.Trod enc P W 0 (fun _ => true) true t v d p) (hlt : ∀ q ∈ p, q.block < W.heap.size) (hb : Below W.heap.size W W') (hs : ∀ q ∈ p, sp q.block = true) : DataW.Trod enc P W' 0 sp true t v d p := by
  obtain ⟨n, hn⟩ := h
  have h1 := DataW.trod_carry (w' := W') n _ _ _ hn (fun q hq => same_below hb (hlt q hq))
  exact ⟨n, DataW.trod_respare (kids_book hl hr) (fun t e hT hu => book_sized hr hT hu) n _ _ _ ⟨ht, book_self t⟩ h1 hs⟩
theorem args_again {W W' : World} {sp : Nat → Bool} (hl : laidOutB P = true) (hb : Below W.heap.size W W') : ∀ {ts : List TypeId} {vs : List Value} {ds : List (DataW H)} {p : List MemPlace},
    (∀ t ∈ ts, t < P.types.size ∧ P.readableRec t = true) → DataW.TrodAll enc P W 0 (fun _ => true) true ts vs ds p → (∀ q ∈ p, sp q.block = true) → DataW.TrodAll enc P W' 0 sp true ts vs ds p
  | [], [], [], _, _, h, _ => h
  | t :: ts, v :: vs, d :: ds, p, hts, h, hs => by
    have hlt := DataW.TrodAll.lt h
    obtain ⟨a, b, h1, h2, e⟩ := h
    subst e
    obtain ⟨g1, g2⟩ := hts t List.mem_cons_self
    exact ⟨a, b, trod_again hl g1 g2 h1 (fun q hq => hlt q (List.mem_append_left _ hq)) hb (fun q hq => hs q (List.mem_append_left _ hq)),
      args_again hl hb (fun t ht => hts t (List.mem_cons_of_mem _ ht)) h2 (fun q hq => hs q (List.mem_append_right _ hq)), rfl⟩
/-- a law that says true, and leaves all that it was handed -/
theorem post_true {f : Func} {s : ChangeSpec} {apart fresh handsOn again : Bool} {W W' : World} {args : Array Value} {ds gs : List (DataW H)} {before : List MemPlace} {tb : TypeId}
    (hW : DataW.Whole enc P f.params.toList s.vars apart W args.toList ds gs before) (hvars : s.vars = []) (hfn : s.fn H (ds ++ gs) = { results := [.lit (.bool true)], args := ds })
    (hres : f.resultTypes = #[tb]) (htb : P.underlying tb = some .bool) (hl : laidOutB P = true) (hts : (f.params.toList.all fun t => decide (t < P.types.size) && P.readableRec t) = true) (hb : Below W.heap.size W W') :
    s.post enc P f apart fresh handsOn again W args (.bool true) W' := by
  have hW2 := hW
  obtain ⟨p, q, hA, hV, e, _, _⟩ := hW
  rw [hvars] at hV
  obtain ⟨rfl, rfl⟩ := trodVars_none hV
  rw [List.append_nil] at e
  subst e
  have hts' : ∀ t ∈ f.params.toList, t < P.types.size ∧ P.readableRec t = true := fun t ht => by simpa using List.all_eq_true.1 hts t ht
  refine post_below (pa := before) (pv := []) hW2 (fun _ _ _ => ?_) (fun sp hs => ?_) (fun _ _ => ?_) (by simp) hb ?_
  · rw [hfn, hres]; exact trodAll_cons_mk (shut_bool htb _) trodAll_mk0
  · rw [hfn]; exact args_again hl hb hts' hA hs
  · rw [hfn, hvars]; rfl
  · intro j t r h1 h2
    rw [hres] at h1 h2
    match j, h1 with
    | 0, h1 =>
      simp at h1; subst h1
      simp [Value.resultList] at h2
      subst h2
      exact okWide_bool_mk htb _
/-- a slice that came in, of elements of one cell -/
theorem RowR.came {w0 W : World} {Hp : SHeap} {sz : Nat} {a : Option Addr} {es : List (List Value)} (h1 : ∀ e ∈ es, e.length = sz)
    (h2 : match a with | .none => es = [] | .some b => ∀ j v, es.flatten[j]? = .some v → W.cell? (b.add j) = .some v) : RowR w0 (memOf W) Hp sz a es := by
  intro w hs
  refine ⟨h1, ?_⟩
  cases a with
  | none => exact h2
  | some b =>
    intro j v hj
    have hc := h2 j v hj
    generalize b.add j = c at hc ⊢
    obtain ⟨b, o, s⟩ := c
    cases hh : W.heap[b]? with
    | none => cases s <;> simp [World.cell?, hh] at hc
    | some ob =>
      have := hs.pers b ob hh
      cases s <;> simpa [World.cell?, this, hh] using hc
end
end Go.Eng

