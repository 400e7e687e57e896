/-
  Parts of a walk, joined: E45 EVS LM8. No condition.
-/
import Derived.Test.YtelgegefmjlimaaP8
import Derived.Test.YtelgegefmjlimaaP2
import Derived.Test.YtelgegefmjlimaaP4
set_option linter.all false
/-
  The walk of the law EditSheets. No condition.
-/
namespace Go.Eng
open Go Go.RowKit
/-- a call of a script, and where its change lies -/
structure OpV where
  kind : Int
  hand : Int
  rev : Int
  l : List Stp
  a : Option Addr
  cap : Nat
  at_ : Int
  bh : Bool
def OpV.cs (x : OpV) : List Value := [.int .i64 x.kind, .int .i64 x.hand, .int .i64 x.rev, .slice x.a x.l.length x.cap, .int .i64 x.at_, .bool x.bh]
theorem texts_nil (s : List UInt8) : textsOf s [] = [s] := rfl
def i64B (n : Int) : Prop := -9223372036854775808 ≤ n ∧ n ≤ 9223372036854775807
structure OpOk (w0 : World) (m : Mem) (x : OpV) : Prop where
  kind : i64B x.kind
  hand : i64B x.hand
  rev : i64B x.rev
  at_ : i64B x.at_
  fit : Fit x.l
  row : ∀ Hx, RowR w0 m Hx 3 x.a (x.l.map Stp.cs)
end Go.Eng
namespace Go.Proofs.Ytelgegefmjlimaa
open Go Go.Eng
set_option maxRecDepth 100000
set_option maxHeartbeats 4000000
set_option linter.all false
attribute [local irreducible] WL WC WQ QFun QLoop Does Q1 QRound QAssign Go.Addr.add
theorem sq_E45_1 {G : Prop} (h : G := by (repeat (first | (refine sp ?_; (repeat intro zzc)) | (refine iF 12 rfl ?_; refine w_callG Try.func12 ?_ (hs := live_any _ _ _)) | (refine iF 16 rfl ?_; refine w_callG Try.func16 ?_ (hs := rMove_any (by assumption) (by assumption) (by omega) _ _ _ (by assumption))))); exact WQ.q1 rfl) : G := h
theorem st_E45_1 {G G' : Prop} (next : G') (h : Bx G' → G := by intro zzn; (first | ((refine st ?_; (repeat intro zzc)); (try ((first | (refine iF 12 rfl ?_; refine w_callG Try.func12 ?_ (hs := live_any _ _ _)) | (refine iF 16 rfl ?_; refine w_callG Try.func16 ?_ (hs := rMove_any (by assumption) (by assumption) (by omega) _ _ _ (by assumption))) | ((refine iDraw ?_; (first | refine WC.drawAll rfl (by decide +kernel) ?_ | refine WC.draw 1 rfl (by decide +kernel) ?_ | refine WC.draw 2 rfl (by decide +kernel) ?_ | refine WC.draw 3 rfl (by decide +kernel) ?_ | refine WC.draw 4 rfl (by decide +kernel) ?_ | refine WC.draw 5 rfl (by decide +kernel) ?_ | refine WC.draw 6 rfl (by decide +kernel) ?_ | refine WC.draw 7 rfl (by decide +kernel) ?_ | refine WC.draw 8 rfl (by decide +kernel) ?_ | refine WC.draw 9 rfl (by decide +kernel) ?_ | refine WC.draw 10 rfl (by decide +kernel) ?_ | refine WC.draw 11 rfl (by decide +kernel) ?_ | refine WC.draw 12 rfl (by decide +kernel) ?_ | refine WC.draw 13 rfl (by decide +kernel) ?_ | refine WC.draw 14 rfl (by decide +kernel) ?_ | refine WC.draw 15 rfl (by decide +kernel) ?_ | refine WC.draw 16 rfl (by decide +kernel) ?_ | refine WC.draw 17 rfl (by decide +kernel) ?_ | refine WC.draw 18 rfl (by decide +kernel) ?_ | refine WC.draw 19 rfl (by decide +kernel) ?_ | refine WC.draw 20 rfl (by decide +kernel) ?_ | refine WC.draw 21 rfl (by decide +kernel) ?_ | refine WC.draw 22 rfl (by decide +kernel) ?_ | refine WC.draw 23 rfl (by decide +kernel) ?_ | refine WC.draw 24 rfl (by decide +kernel) ?_)); (repeat (refine WD.cons rfl (fun c h => by cases h) sq_E45_1 ?_)); refine WD.nil ?_)); (try (refine st ?_; (repeat intro zzc)))))) | ((first | (refine iF 12 rfl ?_; refine w_callG Try.func12 ?_ (hs := live_any _ _ _)) | (refine iF 16 rfl ?_; refine w_callG Try.func16 ?_ (hs := rMove_any (by assumption) (by assumption) (by omega) _ _ _ (by assumption))) | ((refine iDraw ?_; (first | refine WC.drawAll rfl (by decide +kernel) ?_ | refine WC.draw 1 rfl (by decide +kernel) ?_ | refine WC.draw 2 rfl (by decide +kernel) ?_ | refine WC.draw 3 rfl (by decide +kernel) ?_ | refine WC.draw 4 rfl (by decide +kernel) ?_ | refine WC.draw 5 rfl (by decide +kernel) ?_ | refine WC.draw 6 rfl (by decide +kernel) ?_ | refine WC.draw 7 rfl (by decide +kernel) ?_ | refine WC.draw 8 rfl (by decide +kernel) ?_ | refine WC.draw 9 rfl (by decide +kernel) ?_ | refine WC.draw 10 rfl (by decide +kernel) ?_ | refine WC.draw 11 rfl (by decide +kernel) ?_ | refine WC.draw 12 rfl (by decide +kernel) ?_ | refine WC.draw 13 rfl (by decide +kernel) ?_ | refine WC.draw 14 rfl (by decide +kernel) ?_ | refine WC.draw 15 rfl (by decide +kernel) ?_ | refine WC.draw 16 rfl (by decide +kernel) ?_ | refine WC.draw 17 rfl (by decide +kernel) ?_ | refine WC.draw 18 rfl (by decide +kernel) ?_ | refine WC.draw 19 rfl (by decide +kernel) ?_ | refine WC.draw 20 rfl (by decide +kernel) ?_ | refine WC.draw 21 rfl (by decide +kernel) ?_ | refine WC.draw 22 rfl (by decide +kernel) ?_ | refine WC.draw 23 rfl (by decide +kernel) ?_ | refine WC.draw 24 rfl (by decide +kernel) ?_)); (repeat (refine WD.cons rfl (fun c h => by cases h) sq_E45_1 ?_)); refine WD.nil ?_)); (try (refine st ?_; (repeat intro zzc))))); (repeat ((first | (refine iF 12 rfl ?_; refine w_callG Try.func12 ?_ (hs := live_any _ _ _)) | (refine iF 16 rfl ?_; refine w_callG Try.func16 ?_ (hs := rMove_any (by assumption) (by assumption) (by omega) _ _ _ (by assumption))) | ((refine iDraw ?_; (first | refine WC.drawAll rfl (by decide +kernel) ?_ | refine WC.draw 1 rfl (by decide +kernel) ?_ | refine WC.draw 2 rfl (by decide +kernel) ?_ | refine WC.draw 3 rfl (by decide +kernel) ?_ | refine WC.draw 4 rfl (by decide +kernel) ?_ | refine WC.draw 5 rfl (by decide +kernel) ?_ | refine WC.draw 6 rfl (by decide +kernel) ?_ | refine WC.draw 7 rfl (by decide +kernel) ?_ | refine WC.draw 8 rfl (by decide +kernel) ?_ | refine WC.draw 9 rfl (by decide +kernel) ?_ | refine WC.draw 10 rfl (by decide +kernel) ?_ | refine WC.draw 11 rfl (by decide +kernel) ?_ | refine WC.draw 12 rfl (by decide +kernel) ?_ | refine WC.draw 13 rfl (by decide +kernel) ?_ | refine WC.draw 14 rfl (by decide +kernel) ?_ | refine WC.draw 15 rfl (by decide +kernel) ?_ | refine WC.draw 16 rfl (by decide +kernel) ?_ | refine WC.draw 17 rfl (by decide +kernel) ?_ | refine WC.draw 18 rfl (by decide +kernel) ?_ | refine WC.draw 19 rfl (by decide +kernel) ?_ | refine WC.draw 20 rfl (by decide +kernel) ?_ | refine WC.draw 21 rfl (by decide +kernel) ?_ | refine WC.draw 22 rfl (by decide +kernel) ?_ | refine WC.draw 23 rfl (by decide +kernel) ?_ | refine WC.draw 24 rfl (by decide +kernel) ?_)); (repeat (refine WD.cons rfl (fun c h => by cases h) sq_E45_1 ?_)); refine WD.nil ?_)); (try (refine st ?_; (repeat intro zzc))))); (repeat revert zzc); exact zzn.out) : G := h ⟨next⟩
attribute [local irreducible] sizesOf sizesF applyV applyT applyE listOf plainOf applyA textAt carP overP carriedP textsOf comP comL sinceL sendR undoR smallOf
theorem editSheets_any {text : List UInt8} {S : List OpV} {ps : Option Addr} {cs : Nat} (htl : text.length ≤ 1048576) (hSl : S.length ≤ 1048576) (w0 : World) (m : Mem) (H : SHeap) (hS : ∀ x ∈ S, OpOk w0 m x) (hrs : ∀ Hx, RowR w0 m Hx 6 ps (S.map OpV.cs)) :
    Does Try.prog 11 #[str text, .slice ps S.length cs] w0 m H (fun v m' _ => v = .bool true ∧ m.le m') := by
  refine Does.of_body (args := [str text, .slice ps S.length cs]) Try.func11 rfl Try.ntmps11 rfl ?_
  have hSm : (S.map OpV.cs).length = S.length := by simp
  (try (refine st_E45_1 ?_; intros))
  refine WC.loopH [(6, .int .i64 ((0) : Int)), (5, .int .i64 ((text.length : Int))), (0, str text), (1, .slice ps S.length cs)] ?_ ?_ (fun j r ds m' H' => ∃ (i : Nat) (n : Int), j = S.length - i ∧ r = [(6, .int .i64 (i : Int)), (5, .int .i64 n), (0, str text), (1, .slice ps S.length cs)] ∧ ds = [] ∧ m = m' ∧ H' = H ∧ (i ≤ S.length) ∧ (i ≤ 31) ∧ ((text.length : Int) ≤ n ∧ n ≤ (text.length : Int) + 1099511627776 * (i : Int)) ∧ (∀ x ∈ S.take i, smallOf x.l = true)) (S.length - (0)) ⟨0, (text.length : Int), rfl, rfl, rfl, rfl, rfl, Nat.zero_le _, by omega, by omega, by simp⟩ ?_
  · (repeat (first | exact Env.Sub.nil | refine Env.Sub.cons rfl ?_))
  · exact zpk
  rintro j r ds m' H' ⟨i, n, rfl, rfl, rfl, rfl, rfl, hi, hi3, hn, hsmall⟩
  generalize H' = H at *
  by_cases hlt : i < S.length
  · obtain ⟨x, hx, hget, htk, hmem, hdr⟩ := at_idx (f := OpV.cs) hlt
    have hxs : x.cs = [.int .i64 x.kind, .int .i64 x.hand, .int .i64 x.rev, .slice x.a x.l.length x.cap, .int .i64 x.at_, .bool x.bh] := rfl
    rw [hxs] at hget
    have hox := hS x hmem
    have hxf := hox.fit
    have hxl := hxf.len
    have hr1 := hrs H
    refine WC.rSome hr1 (by omega) ?_
    rintro d0 rfl
    (try (refine st_E45_1 ?_; intros))
    refine w_callF Try.func13 ?_ (hs := ref_any hxf _ _ _ hox.row)
    rintro v m H2 ⟨rfl, (⟨hsm, c1, p1, rfl, rfl⟩ | ⟨hsm, rfl, rfl⟩)⟩
    · by_cases hi30 : i ≤ 30
      · (try (refine st_E45_1 ?_; intros))
        refine WC.loopH [(9, .int .i64 ((0) : Int)), (6, .int .i64 (i : Int)), (5, .int .i64 (n)), (0, str text), (1, .slice (some d0) S.length cs)] ?_ ?_ (fun j r ds m' H' => ∃ (k : Nat) (n2 : Int), j = x.l.length - k ∧ r = [(9, .int .i64 (k : Int)), (6, .int .i64 (i : Int)), (5, .int .i64 n2), (0, str text), (1, .slice (some d0) S.length cs)] ∧ ds = [] ∧ m = m' ∧ H' = H ∧ (k ≤ x.l.length) ∧ (n ≤ n2 ∧ n2 ≤ n + 1048576 * (k : Int))) (x.l.length - (0)) ⟨0, n, rfl, rfl, rfl, rfl, rfl, Nat.zero_le _, by omega⟩ ?_
        · (repeat (first | exact Env.Sub.nil | refine Env.Sub.cons rfl ?_))
        · exact zpk
        rintro j r ds m' H' ⟨k, n2, rfl, rfl, rfl, rfl, rfl, hk, hn2⟩
        generalize H' = H at *
        have hr2 := hrs H
        have hrx := hox.row H
        have hlm : (x.l.map Stp.cs).length = x.l.length := by simp
        by_cases hkl : k < x.l.length
        · obtain ⟨y, hy, hgy, hty, hmy, hdy⟩ := at_idx (f := Stp.cs) hkl
          have hyp := hxf.p y hmy
          refine WC.rSome hrx (by omega) ?_
          rintro d1 ha1
          rw [ha1] at hget hrx
          (try (refine st_E45_1 ?_; intros))
          refine WQ.next (x.l.length - (k + 1)) ⟨k + 1, n2 + (y.p.length : Int), rfl, rfl, rfl, rfl, rfl, ?_, ?_⟩ (by omega) zsb zpk
          · omega
          · omega
        · (try (refine st_E45_1 ?_; intros))
          refine WQ.next (S.length - (i + 1)) ⟨i + 1, n2, rfl, rfl, rfl, rfl, rfl, ?_, ?_, ?_, ?_⟩ (by omega) zsb zpk
          · omega
          · omega
          · omega
          · intro z hz
            rw [htk] at hz
            rcases List.mem_append.1 hz with hz | hz
            · exact hsmall z hz
            · rw [List.mem_singleton] at hz; subst hz; exact hsm
      · (try (refine st_E45_1 ?_; intros))
        (refine q_fin0 ?_)
        exact ⟨rfl, Mem.le.refl _⟩
    · (try (refine st_E45_1 ?_; intros))
      (refine q_fin0 ?_)
      exact ⟨rfl, Mem.le.refl _⟩
  · obtain rfl : i = S.length := by omega
    rw [List.take_length] at hsmall
    by_cases hbig : n ≤ 800
    rotate_left
    · (try (refine st_E45_1 ?_; intros))
      (refine q_fin0 ?_)
      exact ⟨rfl, Mem.le.refl _⟩
    have htx : text.length ≤ 800 := by omega
    (try (refine st_E45_1 ?_; intros))
    clear hn hbig hi
    refine w_callF Try.func30 ?_ (hs := new_any (by omega) _ _ _)
    rintro v m H1 ⟨rfl, b, rfl, rfl⟩
    (refine st_E45_1 ?_; intros; rename_i qt w)
    have e0 : ∀ w', Sat w0 m (.blk w (.cells [.slice none 0 0, .slice (some ⟨qt, 0, none⟩) 1 1].toArray 76 (0, 0)) :: .blk qt (.cells [str text].toArray 9 (0, 0)) :: .blk b (.cells [str text, str text, .slice none 0 0].toArray 131 (0, 0)) :: H) w' →
        Sat w0 m (.row (some ⟨qt, 0, none⟩) 1 9 1 [[str text]] :: .blk w (.cells [.slice none 0 0, .slice (some ⟨qt, 0, none⟩) 1 1].toArray 76 (0, 0)) :: .blk b (.cells [str text, str text, .slice none 0 0].toArray 131 (0, 0)) :: H) w' := by
      intro w' h
      have h1 : Sat w0 m (.blk qt (.cells ([[str text]] : List (List Value)).flatten.toArray 9 (0, 0)) :: .blk w (.cells [.slice none 0 0, .slice (some ⟨qt, 0, none⟩) 1 1].toArray 76 (0, 0)) :: .blk b (.cells [str text, str text, .slice none 0 0].toArray 131 (0, 0)) :: H) w' := by
        have hp : ∀ w', Sat w0 m (.blk w (.cells [.slice none 0 0, .slice (some ⟨qt, 0, none⟩) 1 1].toArray 76 (0, 0)) :: .blk qt (.cells [str text].toArray 9 (0, 0)) :: .blk b (.cells [str text, str text, .slice none 0 0].toArray 131 (0, 0)) :: H) w' → Sat w0 m (.blk qt (.cells [str text].toArray 9 (0, 0)) :: .blk w (.cells [.slice none 0 0, .slice (some ⟨qt, 0, none⟩) 1 1].toArray 76 (0, 0)) :: .blk b (.cells [str text, str text, .slice none 0 0].toArray 131 (0, 0)) :: H) w' := zpk
        exact hp w' h
      exact Sat.row_of (by simp) h1
    refine WC.weak (r' := [(13, .int .i64 0), (12, .pointer (some ⟨w, 0, none⟩)), (10, .pointer (some ⟨b, 0, none⟩)), (0, str text), (1, .slice ps S.length cs)]) zsb e0 ?_
    have et : [[str text]] = (textsOf text []).map sV := by rw [texts_nil]; rfl
    rw [et]
    clear e0
    refine WC.newRow (T := 136) (sz := 3) ?_
    refine WC.newRow (T := 81) (sz := 3) ?_
    refine WC.loopH [(13, .int .i64 ((0) : Int)), (12, .pointer (some ⟨w, 0, none⟩)), (10, .pointer (some ⟨b, 0, none⟩)), (0, str text), (1, .slice ps S.length cs)] ?_ ?_ (fun j r ds m' H' => ∃ (i : Nat) (K : List Snt) (Kw : List Snt) (now : List UInt8) (Hx : SHeap) (ra : Option Addr) (cra : Nat) (aw : Option Addr) (caw : Nat) (atx : Option Addr) (cat : Nat), j = S.length - i ∧ r = [(13, .int .i64 (i : Int)), (12, .pointer (some ⟨w, 0, none⟩)), (10, .pointer (some ⟨b, 0, none⟩)), (0, str text), (1, .slice ps S.length cs)] ∧ ds = [] ∧ m = m' ∧ H' = .blk b (.cells [str now, str text, .slice ra K.length cra].toArray 131 (0, 0)) :: .row ra cra 136 3 (K.map Snt.cs) :: .blk w (.cells [.slice aw Kw.length caw, .slice atx (Kw.length + 1) cat].toArray 76 (0, 0)) :: .row aw caw 81 3 (Kw.map Snt.cs) :: .row atx cat 9 1 ((textsOf text Kw).map sV) :: Hx ∧ (i ≤ S.length) ∧ (K.map Snt.d = Kw.map Snt.d) ∧ (GoodS text K now) ∧ (K.length ≤ i) ∧ (∀ x ∈ K, x.it 59 ∈ Hx) ∧ (∀ x ∈ Kw, x.it 84 ∈ Hx)) (S.length - (0)) ⟨0, ([] : List Snt), ([] : List Snt), text, H, none, 0, none, 0, some ⟨qt, 0, none⟩, 1, rfl, rfl, rfl, rfl, rfl, Nat.zero_le _, rfl, ⟨rfl, by simp, by omega, by simp⟩, Nat.zero_le _, by simp, by simp⟩ ?_
    · (repeat (first | exact Env.Sub.nil | refine Env.Sub.cons rfl ?_))
    · exact zpk
    rintro j r ds m' H' ⟨i, K, Kw, now, Hx, ra, cra, aw, caw, atx, cat, rfl, rfl, rfl, rfl, rfl, hi, hd, g, hKl, hK, hW⟩
    have hlen := same_len hd
    have gw := g.same hd
    by_cases hlt : i < S.length
    · obtain ⟨x, hx, hget, htk, hmem, hdr⟩ := at_idx (f := OpV.cs) hlt
      have hxs : x.cs = [.int .i64 x.kind, .int .i64 x.hand, .int .i64 x.rev, .slice x.a x.l.length x.cap, .int .i64 x.at_, .bool x.bh] := rfl
      rw [hxs] at hget
      have hox := hS x hmem
      have hxf := hox.fit
      have hxl := hxf.len
      have hsmx := hsmall x hmem
      have hnl : now.length ≤ 65536 := by rw [← g.now_]; have := text_small g K.length; rwa [List.take_length] at this
      have hr1 := hrs (.blk b (.cells [str now, str text, .slice ra K.length cra].toArray 131 (0, 0)) :: .row ra cra 136 3 (K.map Snt.cs) :: .blk w (.cells [.slice aw Kw.length caw, .slice atx (Kw.length + 1) cat].toArray 76 (0, 0)) :: .row aw caw 81 3 (Kw.map Snt.cs) :: .row atx cat 9 1 ((textsOf text Kw).map sV) :: Hx)
      refine WC.rSome hr1 (by omega) ?_
      rintro d0 rfl
      (refine st_E45_1 ?_; intros; rename_i bx)
      refine w_callF Try.func13 ?_ (hs := ref_any hxf _ _ _ hox.row)
      rintro v m H2 ⟨rfl, (⟨_, c1, p1, rfl, rfl⟩ | ⟨hsm, _, _⟩)⟩
      rotate_left
      · rw [hsmx] at hsm; cases hsm
      by_cases hk0 : x.kind = 0
      · have hsame := sendR_same hd text now x.hand x.rev x.l
        have hgood := fun d hs left a cap => send_good (rev := x.rev) (l := x.l) (d := d) g hox.hand hs left a cap
        (try (refine st_E45_1 ?_; intros))
        refine WL.heap (H' := .blk b (.cells [str now, str text, .slice ra K.length cra].toArray 131 (0, 0)) :: .row ra cra 136 3 (K.map Snt.cs) :: .blk w (.cells [.slice aw Kw.length caw, .slice atx (Kw.length + 1) cat].toArray 76 (0, 0)) :: .row aw caw 81 3 (Kw.map Snt.cs) :: .row atx cat 9 1 ((textsOf text Kw).map sV) :: .row c1 p1 84 3 (x.l.map Stp.cs) :: .blk bx (.cells [.int .i64 x.kind, .int .i64 x.hand, .int .i64 x.rev, .slice x.a x.l.length x.cap, .int .i64 x.at_, .bool x.bh].toArray 72 (0, 0)) :: Hx) zpk ?_
        refine w_callF Try.func31 ?_ (hs := send_gen (by omega) g.fit g.h (by omega) (by omega) hxf _ _ _ (fun y hy => List.mem_cons_of_mem _ (List.mem_cons_of_mem _ (List.mem_cons_of_mem _ (List.mem_cons_of_mem _ (List.mem_cons_of_mem _ (hK y hy)))))) (hox.row _))
        rintro v m H1 ⟨rfl, hv⟩
        cases hR : sendR text now K x.hand x.rev x.l with
        | inl e =>
          rw [hR] at hv hsame
          obtain ⟨rfl, rfl⟩ := hv
          (try (refine st_E45_1 ?_; intros))
          refine WL.heap (H' := .blk w (.cells [.slice aw Kw.length caw, .slice atx (Kw.length + 1) cat].toArray 76 (0, 0)) :: .row aw caw 81 3 (Kw.map Snt.cs) :: .row atx cat 9 1 ((textsOf text Kw).map sV) :: .blk b (.cells [str now, str text, .slice ra K.length cra].toArray 131 (0, 0)) :: .row ra cra 136 3 (K.map Snt.cs) :: .row c1 p1 84 3 (x.l.map Stp.cs) :: .blk bx (.cells [.int .i64 x.kind, .int .i64 x.hand, .int .i64 x.rev, .slice x.a x.l.length x.cap, .int .i64 x.at_, .bool x.bh].toArray 72 (0, 0)) :: Hx) zpk ?_
          refine w_callF Try.func36 ?_ (hs := rsend_gen hox.hand hox.rev (by omega) gw hxf _ _ _ (fun y hy => List.mem_cons_of_mem _ (List.mem_cons_of_mem _ (List.mem_cons_of_mem _ (List.mem_cons_of_mem _ (hW y hy))))) (fun Hx => RowR.row (List.mem_append_right _ (List.mem_cons_of_mem _ (List.mem_cons_of_mem _ List.mem_cons_self)))))
          rintro v m H1 ⟨rfl, hv⟩
          rw [← hsame] at hv
          obtain ⟨rfl, rfl⟩ := hv
          have hee : e = e := rfl
          (try (refine st_E45_1 ?_; intros))
          refine w_callF Try.func19 ?_ (hs := same_any (l := []) (by simp) _ _ _ RowR.nil RowR.nil)
          rintro v m H1 ⟨rfl, rfl, rfl⟩
          (try (refine st_E45_1 ?_; intros))
          refine w_callF Try.func19 ?_ (hs := same_any (l := x.l) (by omega) _ _ _ (hox.row _) (RowR.row (a := c1) zhs))
          rintro v m H1 ⟨rfl, rfl, rfl⟩
          (try (refine st_E45_1 ?_; intros))
          refine WL.newRow (T := 59) (sz := 3) ?_
          refine w_callF Try.func29 ?_ (hs := own_any (es := []) rfl (by simp) _ _ _)
          rintro v m H1 ⟨rfl, rfl, rfl⟩
          (try (refine st_E45_1 ?_; intros))
          refine WQ.next (S.length - (i + 1)) ⟨i + 1, K, Kw, now, Hx, ra, cra, aw, caw, atx, cat, rfl, rfl, rfl, rfl, rfl, ?_, ?_, ?_, ?_, ?_, ?_⟩ (by omega) zsb zpk
          · omega
          · exact hd
          · exact g
          · omega
          · exact hK
          · exact hW
        | inr d =>
          rw [hR] at hv hsame
          obtain ⟨c2, p2, a1, cap1, ra1, cra1, rfl, rfl⟩ := hv
          have hgd := hgood d hR true a1 cap1
          obtain ⟨fd, td, hsd⟩ := hgd.sized (x := Snt.mk x.hand d true a1 cap1) (by simp)
          have hfd : Fit d := fit_sized hsd
          have hdl : d.length ≤ 1048576 := hfd.len
          (try (refine st_E45_1 ?_; intros))
          refine WL.heap (H' := .blk w (.cells [.slice aw Kw.length caw, .slice atx (Kw.length + 1) cat].toArray 76 (0, 0)) :: .row aw caw 81 3 (Kw.map Snt.cs) :: .row atx cat 9 1 ((textsOf text Kw).map sV) :: .row c2 p2 59 3 (d.map Stp.cs) :: .blk b (.cells [str (applyT now d), str text, .slice ra1 (K ++ [Snt.mk x.hand d true a1 cap1]).length cra1].toArray 131 (0, 0)) :: .row ra1 cra1 136 3 ((K ++ [Snt.mk x.hand d true a1 cap1]).map Snt.cs) :: .row a1 cap1 59 3 (d.map Stp.cs) :: .row c1 p1 84 3 (x.l.map Stp.cs) :: .blk bx (.cells [.int .i64 x.kind, .int .i64 x.hand, .int .i64 x.rev, .slice x.a x.l.length x.cap, .int .i64 x.at_, .bool x.bh].toArray 72 (0, 0)) :: Hx) zpk ?_
          refine w_callF Try.func36 ?_ (hs := rsend_gen hox.hand hox.rev (by omega) gw hxf _ _ _ (fun y hy => List.mem_cons_of_mem _ (List.mem_cons_of_mem _ (List.mem_cons_of_mem _ (List.mem_cons_of_mem _ (List.mem_cons_of_mem _ (List.mem_cons_of_mem _ (hW y hy))))))) (fun Hx => RowR.row (List.mem_append_right _ (List.mem_cons_of_mem _ (List.mem_cons_of_mem _ (List.mem_cons_of_mem _ (List.mem_cons_of_mem _ List.mem_cons_self)))))))
          rintro v m H1 ⟨rfl, hv⟩
          rw [← hsame] at hv
          obtain ⟨a2, cap2, aw2, caw2, at2, cat2, rfl, rfl⟩ := hv
          (try (refine st_E45_1 ?_; intros))
          refine w_callF Try.func19 ?_ (hs := same_any (l := d) (by omega) _ _ _ (RowR.row (a := c2) zhs) (RowR.row (a := a2) zhs))
          rintro v m H1 ⟨rfl, rfl, rfl⟩
          (try (refine st_E45_1 ?_; intros))
          refine w_callF Try.func19 ?_ (hs := same_any (l := x.l) (by omega) _ _ _ (hox.row _) (RowR.row (a := c1) zhs))
          rintro v m H1 ⟨rfl, rfl, rfl⟩
          (try (refine st_E45_1 ?_; intros))
          refine WL.heap (H' := .row c2 p2 59 3 (d.map Stp.cs) :: .blk b (.cells [str (applyT now d), str text, .slice ra1 (K ++ [Snt.mk x.hand d true a1 cap1]).length cra1].toArray 131 (0, 0)) :: .row ra1 cra1 136 3 ((K ++ [Snt.mk x.hand d true a1 cap1]).map Snt.cs) :: .blk w (.cells [.slice aw2 (Kw ++ [Snt.mk x.hand d true a2 cap2]).length caw2, .slice at2 ((Kw ++ [Snt.mk x.hand d true a2 cap2]).length + 1) cat2].toArray 76 (0, 0)) :: .row aw2 caw2 81 3 ((Kw ++ [Snt.mk x.hand d true a2 cap2]).map Snt.cs) :: .row at2 cat2 9 1 ((textsOf text (Kw ++ [Snt.mk x.hand d true a2 cap2])).map sV) :: .row a1 cap1 59 3 (d.map Stp.cs) :: .row a2 cap2 84 3 (d.map Stp.cs) :: Hx) zpk ?_
          refine w_callF Try.func29 ?_ (hs := own_any (es := d.map Stp.cs) (by simp) (by simp; omega) _ _ _)
          rintro v m H1 ⟨rfl, rfl, rfl⟩
          (try (refine st_E45_1 ?_; intros))
          refine WQ.next (S.length - (i + 1)) ⟨i + 1, K ++ [Snt.mk x.hand d true a1 cap1], Kw ++ [Snt.mk x.hand d true a2 cap2], applyT now d, .row a1 cap1 59 3 (d.map Stp.cs) :: .row a2 cap2 84 3 (d.map Stp.cs) :: Hx, ra1, cra1, aw2, caw2, at2, cat2, rfl, rfl, rfl, rfl, rfl, ?_, ?_, ?_, ?_, ?_, ?_⟩ (by omega) zsb zpk
          · omega
          · rw [List.map_append, List.map_append, hd]; rfl
          · exact hgd
          · rw [List.length_append, List.length_singleton]; omega
          · intro y hy
            rcases List.mem_append.1 hy with hy | hy
            · exact List.mem_cons_of_mem _ (List.mem_cons_of_mem _ (hK y hy))
            · rw [List.mem_singleton] at hy; subst hy; exact List.mem_cons_self
          · intro y hy
            rcases List.mem_append.1 hy with hy | hy
            · exact List.mem_cons_of_mem _ (List.mem_cons_of_mem _ (hW y hy))
            · rw [List.mem_singleton] at hy; subst hy; exact List.mem_cons_of_mem _ List.mem_cons_self
      · by_cases hk1 : x.kind = 1
        · have hsame := undoR_same hd x.hand
          have hgood := fun q d hs left a cap => undo_good (j := q) (d := d) g hox.hand hs left a cap
          rw [hk1] at hget
          (try (refine st_E45_1 ?_; intros))
          refine WL.heap (H' := .blk b (.cells [str now, str text, .slice ra K.length cra].toArray 131 (0, 0)) :: .row ra cra 136 3 (K.map Snt.cs) :: .blk w (.cells [.slice aw Kw.length caw, .slice atx (Kw.length + 1) cat].toArray 76 (0, 0)) :: .row aw caw 81 3 (Kw.map Snt.cs) :: .row atx cat 9 1 ((textsOf text Kw).map sV) :: .row c1 p1 84 3 (x.l.map Stp.cs) :: .blk bx (.cells [.int .i64 x.kind, .int .i64 x.hand, .int .i64 x.rev, .slice x.a x.l.length x.cap, .int .i64 x.at_, .bool x.bh].toArray 72 (0, 0)) :: Hx) zpk ?_
          refine w_callF Try.func33 ?_ (hs := undo_gen hox.hand (by omega) g _ _ _ (fun y hy => List.mem_cons_of_mem _ (List.mem_cons_of_mem _ (List.mem_cons_of_mem _ (List.mem_cons_of_mem _ (List.mem_cons_of_mem _ (hK y hy)))))))
          rintro v m H1 ⟨rfl, hv⟩
          cases hR : undoR K x.hand with
          | inl e =>
            rw [hR] at hv hsame
            obtain ⟨rfl, rfl⟩ := hv
            (try (refine st_E45_1 ?_; intros))
            refine WL.heap (H' := .blk w (.cells [.slice aw Kw.length caw, .slice atx (Kw.length + 1) cat].toArray 76 (0, 0)) :: .row aw caw 81 3 (Kw.map Snt.cs) :: .row atx cat 9 1 ((textsOf text Kw).map sV) :: .blk b (.cells [str now, str text, .slice ra K.length cra].toArray 131 (0, 0)) :: .row ra cra 136 3 (K.map Snt.cs) :: .row c1 p1 84 3 (x.l.map Stp.cs) :: .blk bx (.cells [.int .i64 x.kind, .int .i64 x.hand, .int .i64 x.rev, .slice x.a x.l.length x.cap, .int .i64 x.at_, .bool x.bh].toArray 72 (0, 0)) :: Hx) zpk ?_
            refine w_callF Try.func37 ?_ (hs := rundo_gen hox.hand (by omega) gw _ _ _ (fun y hy => List.mem_cons_of_mem _ (List.mem_cons_of_mem _ (List.mem_cons_of_mem _ (List.mem_cons_of_mem _ (hW y hy))))))
            rintro v m H1 ⟨rfl, hv⟩
            rw [← hsame] at hv
            obtain ⟨rfl, rfl⟩ := hv
            have hee : e = e := rfl
            (try (refine st_E45_1 ?_; intros))
            refine w_callF Try.func19 ?_ (hs := same_any (l := []) (by simp) _ _ _ RowR.nil RowR.nil)
            rintro v m H1 ⟨rfl, rfl, rfl⟩
            (try (refine st_E45_1 ?_; intros))
            refine WL.newRow (T := 59) (sz := 3) ?_
            refine w_callF Try.func29 ?_ (hs := own_any (es := []) rfl (by simp) _ _ _)
            rintro v m H1 ⟨rfl, rfl, rfl⟩
            (try (refine st_E45_1 ?_; intros))
            refine WQ.next (S.length - (i + 1)) ⟨i + 1, K, Kw, now, Hx, ra, cra, aw, caw, atx, cat, rfl, rfl, rfl, rfl, rfl, ?_, ?_, ?_, ?_, ?_, ?_⟩ (by omega) zsb zpk
            · omega
            · exact hd
            · exact g
            · omega
            · exact hK
            · exact hW
          | inr qd =>
            obtain ⟨q, d⟩ := qd
            rw [hR] at hv hsame
            obtain ⟨c2, p2, a1, cap1, ra1, cra1, rfl, rfl⟩ := hv
            obtain ⟨hgd, hql⟩ := hgood q d hR false a1 cap1
            obtain ⟨fd, td, hsd⟩ := hgd.sized (x := Snt.mk x.hand d false a1 cap1) (by simp)
            have hfd : Fit d := fit_sized hsd
            have hdl : d.length ≤ 1048576 := hfd.len
            (try (refine st_E45_1 ?_; intros))
            refine WL.heap (H' := .blk w (.cells [.slice aw Kw.length caw, .slice atx (Kw.length + 1) cat].toArray 76 (0, 0)) :: .row aw caw 81 3 (Kw.map Snt.cs) :: .row atx cat 9 1 ((textsOf text Kw).map sV) :: .row c2 p2 59 3 (d.map Stp.cs) :: .blk b (.cells [str (applyT now d), str text, .slice ra1 (unleft K q ++ [Snt.mk x.hand d false a1 cap1]).length cra1].toArray 131 (0, 0)) :: .row ra1 cra1 136 3 ((unleft K q ++ [Snt.mk x.hand d false a1 cap1]).map Snt.cs) :: .row a1 cap1 59 3 (d.map Stp.cs) :: .row c1 p1 84 3 (x.l.map Stp.cs) :: .blk bx (.cells [.int .i64 x.kind, .int .i64 x.hand, .int .i64 x.rev, .slice x.a x.l.length x.cap, .int .i64 x.at_, .bool x.bh].toArray 72 (0, 0)) :: Hx) zpk ?_
            refine w_callF Try.func37 ?_ (hs := rundo_gen hox.hand (by omega) gw _ _ _ (fun y hy => List.mem_cons_of_mem _ (List.mem_cons_of_mem _ (List.mem_cons_of_mem _ (List.mem_cons_of_mem _ (List.mem_cons_of_mem _ (List.mem_cons_of_mem _ (hW y hy))))))))
            rintro v m H1 ⟨rfl, hv⟩
            rw [← hsame] at hv
            obtain ⟨a2, cap2, aw2, caw2, at2, cat2, rfl, rfl⟩ := hv
            (try (refine st_E45_1 ?_; intros))
            refine w_callF Try.func19 ?_ (hs := same_any (l := d) (by omega) _ _ _ (RowR.row (a := c2) zhs) (RowR.row (a := a2) zhs))
            rintro v m H1 ⟨rfl, rfl, rfl⟩
            (try (refine st_E45_1 ?_; intros))
            refine WL.heap (H' := .row c2 p2 59 3 (d.map Stp.cs) :: .blk b (.cells [str (applyT now d), str text, .slice ra1 (unleft K q ++ [Snt.mk x.hand d false a1 cap1]).length cra1].toArray 131 (0, 0)) :: .row ra1 cra1 136 3 ((unleft K q ++ [Snt.mk x.hand d false a1 cap1]).map Snt.cs) :: .blk w (.cells [.slice aw2 (unleft Kw q ++ [Snt.mk x.hand d false a2 cap2]).length caw2, .slice at2 ((unleft Kw q ++ [Snt.mk x.hand d false a2 cap2]).length + 1) cat2].toArray 76 (0, 0)) :: .row aw2 caw2 81 3 ((unleft Kw q ++ [Snt.mk x.hand d false a2 cap2]).map Snt.cs) :: .row at2 cat2 9 1 ((textsOf text (unleft Kw q ++ [Snt.mk x.hand d false a2 cap2])).map sV) :: .row a1 cap1 59 3 (d.map Stp.cs) :: .row a2 cap2 84 3 (d.map Stp.cs) :: Hx) zpk ?_
            refine w_callF Try.func29 ?_ (hs := own_any (es := d.map Stp.cs) (by simp) (by simp; omega) _ _ _)
            rintro v m H1 ⟨rfl, rfl, rfl⟩
            (try (refine st_E45_1 ?_; intros))
            refine WQ.next (S.length - (i + 1)) ⟨i + 1, unleft K q ++ [Snt.mk x.hand d false a1 cap1], unleft Kw q ++ [Snt.mk x.hand d false a2 cap2], applyT now d, .row a1 cap1 59 3 (d.map Stp.cs) :: .row a2 cap2 84 3 (d.map Stp.cs) :: Hx, ra1, cra1, aw2, caw2, at2, cat2, rfl, rfl, rfl, rfl, rfl, ?_, ?_, ?_, ?_, ?_, ?_⟩ (by omega) zsb zpk
            · omega
            · rw [List.map_append, List.map_append, unleft_same hd]; rfl
            · exact hgd
            · rw [List.length_append, List.length_singleton, unleft_len]; omega
            · intro y hy
              rcases List.mem_append.1 hy with hy | hy
              · obtain ⟨z, hz, u1, _, u3, u4⟩ := unleft_mem hy
                have := hK z hz
                unfold Snt.it at this ⊢
                rw [u1, u3, u4]
                exact List.mem_cons_of_mem _ (List.mem_cons_of_mem _ this)
              · rw [List.mem_singleton] at hy; subst hy; exact List.mem_cons_self
            · intro y hy
              rcases List.mem_append.1 hy with hy | hy
              · obtain ⟨z, hz, u1, _, u3, u4⟩ := unleft_mem hy
                have := hW z hz
                unfold Snt.it at this ⊢
                rw [u1, u3, u4]
                exact List.mem_cons_of_mem _ (List.mem_cons_of_mem _ this)
              · rw [List.mem_singleton] at hy; subst hy; exact List.mem_cons_of_mem _ List.mem_cons_self
        · by_cases hk3 : x.kind = 3
          · rw [hk3] at hget
            (try (refine st_E45_1 ?_; intros))
            refine WL.heap (H' := .blk b (.cells [str now, str text, .slice ra K.length cra].toArray 131 (0, 0)) :: .row ra cra 136 3 (K.map Snt.cs) :: .blk w (.cells [.slice aw Kw.length caw, .slice atx (Kw.length + 1) cat].toArray 76 (0, 0)) :: .row aw caw 81 3 (Kw.map Snt.cs) :: .row atx cat 9 1 ((textsOf text Kw).map sV) :: .row c1 p1 84 3 (x.l.map Stp.cs) :: .blk bx (.cells [.int .i64 x.kind, .int .i64 x.hand, .int .i64 x.rev, .slice x.a x.l.length x.cap, .int .i64 x.at_, .bool x.bh].toArray 72 (0, 0)) :: Hx) zpk ?_
            refine w_callF Try.func38 ?_ (hs := follow_gen (by omega) g _ _ _ (fun y hy => List.mem_cons_of_mem _ (List.mem_cons_of_mem _ (List.mem_cons_of_mem _ (List.mem_cons_of_mem _ (List.mem_cons_of_mem _ (hK y hy)))))))
            rintro v m H1 ⟨rfl, rfl, rfl⟩
            have hxr := hox.rev
            have hxa := hox.at_
            unfold i64B at hxr hxa
            by_cases hbad : (x.rev < 0 ∨ (K.length : Int) < x.rev) ∨ (x.at_ < 0 ∨ ((textAt text (K.take x.rev.toNat)).length : Int) < x.at_)
            · have hfv : followV text K x.at_ x.rev x.bh = .tuple #[.int .i64 0, .int .i64 5] := by unfold followV; rw [if_pos hbad]
              rw [hfv]
              have fin : True := trivial
              by_cases b1 : x.rev < 0
              · (try (refine st_E45_1 ?_; intros))
                refine WQ.next (S.length - (i + 1)) ⟨i + 1, K, Kw, now, Hx, ra, cra, aw, caw, atx, cat, rfl, rfl, rfl, rfl, rfl, ?_, ?_, ?_, ?_, ?_, ?_⟩ (by omega) zsb zpk
                · omega
                · exact hd
                · exact g
                · omega
                · exact hK
                · exact hW
              · by_cases b2 : (Kw.length : Int) < x.rev
                · (try (refine st_E45_1 ?_; intros))
                  refine WQ.next (S.length - (i + 1)) ⟨i + 1, K, Kw, now, Hx, ra, cra, aw, caw, atx, cat, rfl, rfl, rfl, rfl, rfl, ?_, ?_, ?_, ?_, ?_, ?_⟩ (by omega) zsb zpk
                  · omega
                  · exact hd
                  · exact g
                  · omega
                  · exact hK
                  · exact hW
                · by_cases b3 : x.at_ < 0
                  · (try (refine st_E45_1 ?_; intros))
                    refine WQ.next (S.length - (i + 1)) ⟨i + 1, K, Kw, now, Hx, ra, cra, aw, caw, atx, cat, rfl, rfl, rfl, rfl, rfl, ?_, ?_, ?_, ?_, ?_, ?_⟩ (by omega) zsb zpk
                    · omega
                    · exact hd
                    · exact g
                    · omega
                    · exact hK
                    · exact hW
                  · have hgt := texts_get (first := text) (K := Kw) (n := x.rev.toNat) (by omega)
                    rw [← same_text hd] at hgt
                    have hts := text_small g x.rev.toNat
                    have hTl : ((textsOf text Kw).map sV).length = Kw.length + 1 := by rw [List.length_map, texts_len]
                    have hb4 : ((textAt text (K.take x.rev.toNat)).length : Int) < x.at_ := by omega
                    obtain ⟨n, hn⟩ : ∃ n : Nat, x.rev = (n : Int) := ⟨x.rev.toNat, by omega⟩
                    rw [hn, Int.toNat_natCast] at hgt hb4 hts
                    rw [hn]
                    refine WL.rowSome (a := atx) (es := (textsOf text Kw).map sV) zhs (by omega) ?_
                    rintro d9 rfl
                    (try (refine st_E45_1 ?_; intros))
                    refine WQ.next (S.length - (i + 1)) ⟨i + 1, K, Kw, now, Hx, ra, cra, aw, caw, some d9, cat, rfl, rfl, rfl, rfl, rfl, ?_, ?_, ?_, ?_, ?_, ?_⟩ (by omega) zsb zpk
                    · omega
                    · exact hd
                    · exact g
                    · omega
                    · exact hK
                    · exact hW
            · have hgt := texts_get (first := text) (K := Kw) (n := x.rev.toNat) (by omega)
              rw [← same_text hd] at hgt
              have hts := text_small g x.rev.toNat
              obtain ⟨_, hch⟩ := g.at_ x.rev.toNat
              have hTl : ((textsOf text Kw).map sV).length = Kw.length + 1 := by rw [List.length_map, texts_len]
              have hWl : (Kw.map Snt.cs).length = Kw.length := by simp
              have hfv : followV text K x.at_ x.rev x.bh = .tuple #[.int .i64 (followN x.bh ((K.drop x.rev.toNat).map (·.l)) x.at_.toNat : Int), .int .i64 0] := by unfold followV; rw [if_neg hbad]
              have hb4 : x.at_ ≤ ((textAt text (K.take x.rev.toNat)).length : Int) := by omega
              have hdl : (K.drop x.rev.toNat).map (·.l) = (Kw.drop x.rev.toNat).map (·.l) := by rw [List.map_drop, List.map_drop, same_l hd]
              rw [hdl] at hch hfv
              rw [hfv]
              obtain ⟨n, hn⟩ : ∃ n : Nat, x.rev = (n : Int) := ⟨x.rev.toNat, by omega⟩
              obtain ⟨a0, ha⟩ : ∃ a0 : Nat, x.at_ = (a0 : Int) := ⟨x.at_.toNat, by omega⟩
              rw [hn, Int.toNat_natCast] at hgt hb4 hts hch
              rw [ha] at hb4
              rw [hn, ha, Int.toNat_natCast, Int.toNat_natCast]
              generalize textAt text (K.take n) = t at *
              generalize hbh : x.bh = bh at *
              generalize hP0 : followN bh ((Kw.drop n).map (·.l)) a0 = res
              refine WL.rowSome (a := atx) (es := (textsOf text Kw).map sV) zhs (by omega) ?_
              rintro d9 rfl
              (try (refine st_E45_1 ?_; intros))
              refine WC.loopH [(28, .int .i64 ((n) : Int)), (27, .int .i64 ((a0) : Int)), (26, .int .i64 0), (25, .int .i64 (res : Int)), (14, .pointer (some ⟨bx, 0, none⟩)), (13, .int .i64 (i : Int)), (12, .pointer (some ⟨w, 0, none⟩)), (10, .pointer (some ⟨b, 0, none⟩)), (0, str text), (1, .slice (some d0) S.length cs)] ?_ ?_ (fun j r ds m' H' => ∃ (k : Nat) (u : List UInt8) (a : Nat), j = Kw.length - k ∧ r = [(28, .int .i64 (k : Int)), (27, .int .i64 (a : Int)), (26, .int .i64 0), (25, .int .i64 (res : Int)), (14, .pointer (some ⟨bx, 0, none⟩)), (13, .int .i64 (i : Int)), (12, .pointer (some ⟨w, 0, none⟩)), (10, .pointer (some ⟨b, 0, none⟩)), (0, str text), (1, .slice (some d0) S.length cs)] ∧ ds = [] ∧ m = m' ∧ H' = .blk bx (.cells [.int .i64 x.kind, .int .i64 x.hand, .int .i64 (n : Int), .slice x.a x.l.length x.cap, .int .i64 (a0 : Int), .bool bh].toArray 72 (0, 0)) :: .blk b (.cells [str now, str text, .slice ra K.length cra].toArray 131 (0, 0)) :: .row ra cra 136 3 (K.map Snt.cs) :: .blk w (.cells [.slice aw Kw.length caw, .slice (some d9) (Kw.length + 1) cat].toArray 76 (0, 0)) :: .row aw caw 81 3 (Kw.map Snt.cs) :: .row (some d9) cat 9 1 ((textsOf text Kw).map sV) :: Hx ∧ (k ≤ Kw.length) ∧ (Chain u ((Kw.drop k).map (·.l)) now) ∧ (a ≤ u.length) ∧ (followN bh ((Kw.drop k).map (·.l)) a = res)) (Kw.length - (n)) ⟨n, t, a0, rfl, rfl, rfl, rfl, rfl, by omega, hch, by omega, hP0⟩ ?_
              · (repeat (first | exact Env.Sub.nil | refine Env.Sub.cons rfl ?_))
              · exact zpk
              rintro j r ds m' H' ⟨k, u, a, rfl, rfl, rfl, rfl, rfl, hk, hch, hau, hP⟩
              by_cases hkl : k < Kw.length
              · obtain ⟨z, hz, hgz, htz, hmz, hdz⟩ := at_idx (f := Snt.cs) hkl
                have hzs : z.cs = [.int .i64 z.h, .slice z.a z.l.length z.cap, .bool z.left] := rfl
                rw [hzs] at hgz
                rw [hdz, List.map_cons] at hch hP
                obtain ⟨v2, tt, g1, g2, g3⟩ := hch
                rw [followN] at hP
                have hfz := fit_sized g1
                have hmt := moved_to g1 a bh
                have hvl := apply_len _ _ _ g2
                obtain ⟨_, _, _, _, hto, _, _, _, _⟩ := sized g1
                refine WC.rowSome (a := aw) (es := Kw.map Snt.cs) zhs (by omega) ?_
                rintro d8 rfl
                have hrz : RowR w0 m (.blk bx (.cells [.int .i64 x.kind, .int .i64 x.hand, .int .i64 (n : Int), .slice x.a x.l.length x.cap, .int .i64 (a0 : Int), .bool bh].toArray 72 (0, 0)) :: .blk b (.cells [str now, str text, .slice ra K.length cra].toArray 131 (0, 0)) :: .row ra cra 136 3 (K.map Snt.cs) :: .blk w (.cells [.slice (some d8) Kw.length caw, .slice (some d9) (Kw.length + 1) cat].toArray 76 (0, 0)) :: .row (some d8) caw 81 3 (Kw.map Snt.cs) :: .row (some d9) cat 9 1 ((textsOf text Kw).map sV) :: Hx) 3 z.a (z.l.map Stp.cs) := (RowR.row (hW z hmz)).more.more.more.more.more.more
                (try (refine st_E45_1 ?_; intros))
                refine WQ.next (Kw.length - (k + 1)) ⟨k + 1, v2, movedF z.l a bh, rfl, rfl, rfl, rfl, rfl, ?_, ?_, ?_, ?_⟩ (by omega) zsb zpk
                · omega
                · exact g3
                · omega
                · exact hP
              · obtain rfl : k = Kw.length := by omega
                rw [List.drop_length, List.map_nil, followN] at hP
                subst hP
                (try (refine st_E45_1 ?_; intros))
                refine WQ.next (S.length - (i + 1)) ⟨i + 1, K, Kw, now, Hx, ra, cra, aw, caw, some d9, cat, rfl, rfl, rfl, rfl, rfl, ?_, ?_, ?_, ?_, ?_, ?_⟩ (by omega) zsb zpk
                · omega
                · exact hd
                · exact g
                · omega
                · exact hK
                · exact hW
          · (try (refine st_E45_1 ?_; intros))
            refine WL.heap (H' := .blk b (.cells [str now, str text, .slice ra K.length cra].toArray 131 (0, 0)) :: .row ra cra 136 3 (K.map Snt.cs) :: .blk w (.cells [.slice aw Kw.length caw, .slice atx (Kw.length + 1) cat].toArray 76 (0, 0)) :: .row aw caw 81 3 (Kw.map Snt.cs) :: .row atx cat 9 1 ((textsOf text Kw).map sV) :: .row c1 p1 84 3 (x.l.map Stp.cs) :: .blk bx (.cells [.int .i64 x.kind, .int .i64 x.hand, .int .i64 x.rev, .slice x.a x.l.length x.cap, .int .i64 x.at_, .bool x.bh].toArray 72 (0, 0)) :: Hx) zpk ?_
            refine w_callF Try.func39 ?_ (hs := asked_any hox.rev (by omega) g hd _ _ _ (fun y hy => List.mem_cons_of_mem _ (List.mem_cons_of_mem _ (hK y hy))) (fun y hy => List.mem_cons_of_mem _ (List.mem_cons_of_mem _ (hW y hy))))
            rintro v m H1 ⟨rfl, rfl, rfl⟩
            (try (refine st_E45_1 ?_; intros))
            refine WQ.next (S.length - (i + 1)) ⟨i + 1, K, Kw, now, Hx, ra, cra, aw, caw, atx, cat, rfl, rfl, rfl, rfl, rfl, ?_, ?_, ?_, ?_, ?_, ?_⟩ (by omega) zsb zpk
            · omega
            · exact hd
            · exact g
            · omega
            · exact hK
            · exact hW
    · (try (refine st_E45_1 ?_; intros))
      refine WC.loopH [(29, .int .i64 (-1)), (12, .pointer (some ⟨w, 0, none⟩)), (10, .pointer (some ⟨b, 0, none⟩))] ?_ ?_ (fun j r ds m' H' => ∃ (rev : Int), j = ((Kw.length : Int) + 2 - rev).toNat ∧ r = [(29, .int .i64 rev), (12, .pointer (some ⟨w, 0, none⟩)), (10, .pointer (some ⟨b, 0, none⟩))] ∧ ds = [] ∧ m = m' ∧ H' = .blk b (.cells [str now, str text, .slice ra K.length cra].toArray 131 (0, 0)) :: .row ra cra 136 3 (K.map Snt.cs) :: .blk w (.cells [.slice aw Kw.length caw, .slice atx (Kw.length + 1) cat].toArray 76 (0, 0)) :: .row aw caw 81 3 (Kw.map Snt.cs) :: .row atx cat 9 1 ((textsOf text Kw).map sV) :: Hx ∧ (-1 ≤ rev ∧ rev ≤ (Kw.length : Int) + 2)) (((Kw.length : Int) + 2 - (-1)).toNat) ⟨-1, rfl, rfl, rfl, rfl, rfl, by omega⟩ ?_
      · (repeat (first | exact Env.Sub.nil | refine Env.Sub.cons rfl ?_))
      · exact zpk
      rintro j r ds m' H' ⟨rev, rfl, rfl, rfl, rfl, rfl, hrv⟩
      by_cases hle : rev ≤ (Kw.length : Int) + 1
      · (try (refine st_E45_1 ?_; intros))
        refine w_callF Try.func39 ?_ (hs := asked_any (by omega) (by omega) g hd _ _ _ hK hW)
        rintro v m H1 ⟨rfl, rfl, rfl⟩
        (try (refine st_E45_1 ?_; intros))
        refine WQ.next (((Kw.length : Int) + 2 - (rev + 1)).toNat) ⟨rev + 1, rfl, rfl, rfl, rfl, rfl, ?_⟩ (by omega) zsb zpk
        · omega
      · (try (refine st_E45_1 ?_; intros))
        (refine q_fin0 ?_)
        exact ⟨rfl, Mem.le.refl _⟩
end Go.Proofs.Ytelgegefmjlimaa

/-
  How the argument of the law EditSheets is read: calls with a change within. No condition.
-/
namespace Go.Eng
open Go Go.RowKit Go.ChangeShapes Go.WideShapes Go.ChangeMaps
section
variable {H : Type} {enc : TypeId × Value → H} {P : Program}
theorem open_rows2 {α : Type} [Inhabited α] (sz : Nat) (val : α → List Value) (dat : α → DataW H) (ok : α → Prop) (hsz : ∀ x, (val x).length = sz) {W : World} {t e : TypeId} {v : Value} {d : DataW H} {ps : List MemPlace} {n : Nat} (ht : P.underlying t = some (.slice e)) (hc : P.cellsOf e = sz)
    (hone : ∀ (n : Nat) (u : List Value) (y : DataW H × List MemPlace), DataW.trod enc P W 0 (fun _ => true) true n e u = some y → ∃ x, u = val x ∧ y.1 = dat x ∧ ok x)
    (hn : DataW.trod enc P W 0 (fun _ => true) true n t [v] = some (d, ps)) : ∃ (a : Option Addr) (cap : Nat) (ns : List α) (spare : List (DataW H)), v = .slice a ns.length cap ∧ ns.length ≤ cap ∧ (∀ x ∈ ns, ok x) ∧
      (d = .nil ∧ ns = [] ∨ d = .slice (ns.map dat) spare) ∧ ∀ w0 Hp, RowR w0 (memOf W) Hp sz a (ns.map val) := by
  rcases Deep.open_slice ht hn with ⟨h1, h2⟩ | ⟨a', len', cap', m, n', D, Pl, h1, _, hle, _, hm, h2, hx⟩
  · simp at h1
    subst h1
    exact ⟨none, 0, [], [], rfl, Nat.le_refl _, (by simp), .inl ⟨congrArg Prod.fst h2, rfl⟩, fun _ _ => RowR.nil⟩
  · simp at h1
    subst h1
    simp only [if_true] at hm
    subst hm
    rw [hc] at hx
    obtain ⟨X, hX⟩ := Deep.choose_lt (α := α) (n := m) (p := fun i x => W.cells? 0 (a'.add (i * sz)) sz = some (val x) ∧ D i = dat x ∧ ok x) (fun i hi => by
      obtain ⟨u, g1, g2⟩ := hx i hi
      obtain ⟨x, rfl, e2, e3⟩ := hone _ _ _ g2
      exact ⟨x, g1, e2, e3⟩)
    refine ⟨some a', m, (List.range len').map X, (List.range (m - len')).map fun j => D (len' + j), by simp, by simpa using hle, ?_, .inr ?_, fun w0 Hp => ?_⟩
    · intro x hxm
      obtain ⟨i, hi, rfl⟩ := List.mem_map.1 hxm
      exact (hX i (by have := List.mem_range.1 hi; omega)).2.2
    · have := congrArg Prod.fst h2
      simp only at this
      rw [this, List.map_map]
      congr 1
      exact List.map_congr_left fun i hi => (hX i (by have := List.mem_range.1 hi; omega)).2.1
    · have hall : ∀ e ∈ ((List.range len').map X).map val, e.length = sz := by
        intro e he
        obtain ⟨x, _, rfl⟩ := List.mem_map.1 he
        exact hsz x
      refine RowR.came hall ?_
      intro j v hj
      obtain ⟨i, c, e, h1, h2, rfl, h4⟩ := rows_at hall hj
      rw [List.getElem?_map, List.getElem?_map] at h1
      obtain ⟨x, hx1, rfl⟩ := Option.map_eq_some_iff.1 h1
      obtain ⟨i', hi, rfl⟩ := Option.map_eq_some_iff.1 hx1
      obtain ⟨hjl, rfl⟩ := List.getElem?_eq_some_iff.1 hi
      rw [List.getElem_range] at h4
      have hjl' : i < len' := by simpa using hjl
      have g := (World.cells?_some (hX i (by omega)).1).2.2 c h2
      rw [h4] at g
      rw [← g, Go.Addr.add_add]
instance : Inhabited Stp := ⟨⟨0, [], []⟩⟩
instance : Inhabited OpV := ⟨⟨0, 0, 0, [], none, 0, 0, false⟩⟩
instance {H : Type} : Inhabited (DataW H) := ⟨.nil⟩
def OpV.dat {H : Type} (x : OpV × DataW H) : DataW H := .agg [.lit (.int .i64 x.1.kind), .lit (.int .i64 x.1.hand), .lit (.int .i64 x.1.rev), x.2, .lit (.int .i64 x.1.at_), .lit (.bool x.1.bh)]
structure OpIn {H : Type} (W : World) (x : OpV × DataW H) : Prop where
  kind : (Lit.int .i64 x.1.kind).wf = true
  hand : (Lit.int .i64 x.1.hand).wf = true
  rev : (Lit.int .i64 x.1.rev).wf = true
  at_ : (Lit.int .i64 x.1.at_).wf = true
  ks : ∀ y ∈ x.1.l, -9223372036854775808 ≤ y.k ∧ y.k ≤ 9223372036854775807
  dat : ∃ sp, x.2 = .nil ∧ x.1.l = [] ∨ x.2 = .slice (x.1.l.map Stp.dat) sp
  row : ∀ w0 Hp, RowR w0 (memOf W) Hp 3 x.1.a (x.1.l.map Stp.cs)
theorem open_ops {f0 f1 f2 f3 f4 f5 g0 g1 g2 : Field} {se : TypeId} {W : World} {r : Go.Reach} {b0 : Nat} {t e : TypeId} {v : Value} {d : DataW H} {ps : List MemPlace} (ht : P.underlying t = some (.slice e)) (he : P.underlying e = some (.struct #[f0, f1, f2, f3, f4, f5])) (hc : P.cellsOf e = 6)
    (h0 : f0.offset = 0 ∧ P.underlying f0.type = some (.int .i64) ∧ P.cellsOf f0.type = 1) (h1 : f1.offset = 1 ∧ P.underlying f1.type = some (.int .i64) ∧ P.cellsOf f1.type = 1) (h2 : f2.offset = 2 ∧ P.underlying f2.type = some (.int .i64) ∧ P.cellsOf f2.type = 1)
    (h3 : f3.offset = 3 ∧ P.underlying f3.type = some (.slice se) ∧ P.cellsOf f3.type = 1) (h4 : f4.offset = 4 ∧ P.underlying f4.type = some (.int .i64) ∧ P.cellsOf f4.type = 1) (h5 : f5.offset = 5 ∧ P.underlying f5.type = some .bool ∧ P.cellsOf f5.type = 1)
    (hse : P.underlying se = some (.struct #[g0, g1, g2]) ∧ P.cellsOf se = 3) (k0 : g0.offset = 0 ∧ P.underlying g0.type = some (.int .i64) ∧ P.cellsOf g0.type = 1) (k1 : g1.offset = 1 ∧ P.underlying g1.type = some .string ∧ P.cellsOf g1.type = 1) (k2 : g2.offset = 2 ∧ P.underlying g2.type = some .string ∧ P.cellsOf g2.type = 1)
    (hval : Value.okWide P W r b0 t v) (h : DataW.Trod enc P W 0 (fun _ => true) true t v d ps) : ∃ (a : Option Addr) (cap : Nat) (ns : List (OpV × DataW H)) (spare : List (DataW H)), v = .slice a ns.length cap ∧ ns.length ≤ cap ∧ (∀ x ∈ ns, OpIn W x) ∧
      (d = .nil ∧ ns = [] ∨ d = .slice (ns.map OpV.dat) spare) ∧ ∀ w0 Hp, RowR w0 (memOf W) Hp 6 a (ns.map fun x => x.1.cs) := by
  obtain ⟨a, len, cap, rfl⟩ := okWide_slice ht hval
  obtain ⟨n, hn⟩ := h
  refine open_rows2 6 (fun x : OpV × DataW H => x.1.cs) OpV.dat (OpIn W) (fun _ => rfl) ht hc (fun n u y hy => ?_) hn
  obtain ⟨xs, n', _, hx, hl, hlen, hf⟩ := DataW.trod_struct he hy
  rw [hc] at hl
  obtain ⟨c0, c1, c2, c3, c4, c5, rfl⟩ : ∃ c0 c1 c2 c3 c4 c5, u = [c0, c1, c2, c3, c4, c5] := by
    match u, hl with
    | [c0, c1, c2, c3, c4, c5], _ => exact ⟨c0, c1, c2, c3, c4, c5, rfl⟩
  match xs, hlen with
  | [y0, y1, y2, y3, y4, y5], _ =>
    have q0 := hf 0 f0 rfl
    have q1 := hf 1 f1 rfl
    have q2 := hf 2 f2 rfl
    have q3 := hf 3 f3 rfl
    have q4 := hf 4 f4 rfl
    have q5 := hf 5 f5 rfl
    rw [h0.1, h0.2.2] at q0
    rw [h1.1, h1.2.2] at q1
    rw [h2.1, h2.2.2] at q2
    rw [h3.1, h3.2.2] at q3
    rw [h4.1, h4.2.2] at q4
    rw [h5.1, h5.2.2] at q5
    obtain ⟨x0, b0, d0, w0⟩ := DataW.trod_int h0.2.1 q0
    obtain ⟨x1, b1, d1, w1⟩ := DataW.trod_int h1.2.1 q1
    obtain ⟨x2, b2, d2, w2⟩ := DataW.trod_int h2.2.1 q2
    obtain ⟨x4, b4, d4, w4⟩ := DataW.trod_int h4.2.1 q4
    obtain ⟨x5, b5, d5⟩ := DataW.trod_bool h5.2.1 q5
    obtain ⟨sa, sc, ns, sp, r1, r2, r3, r4, r5⟩ := open_rows2 (d := y3.1) (ps := y3.2) 3 Stp.cs Stp.dat (fun x : Stp => -9223372036854775808 ≤ x.k ∧ x.k ≤ 9223372036854775807) (fun _ => rfl) h3.2.1 hse.2 (fun n u y hy => by
      obtain ⟨y0, y1, y2, m, rfl, hl, g0', g1', g2'⟩ := Deep.trod_struct3 hse.1 hy
      rw [hse.2] at hl
      obtain ⟨c0, c1, c2, rfl⟩ : ∃ c0 c1 c2, u = [c0, c1, c2] := by
        match u, hl with
        | [c0, c1, c2], _ => exact ⟨c0, c1, c2, rfl⟩
      rw [k0.1, k0.2.2] at g0'
      rw [k1.1, k1.2.2] at g1'
      rw [k2.1, k2.2.2] at g2'
      obtain ⟨x0, e0, d0, w0⟩ := DataW.trod_int k0.2.1 g0'
      obtain ⟨x1, e1, d1, w1⟩ := DataW.trod_string k1.2.1 g1'
      obtain ⟨x2, e2, d2, w2⟩ := DataW.trod_string k2.2.1 g2'
      simp at e0 e1 e2
      subst e0 e1 e2 d0 d1 d2
      simp only [Lit.wf, Bool.and_eq_true, decide_eq_true_eq] at w0
      exact ⟨⟨x0, x1.data.toList, x2.data.toList⟩, rfl, by simp [Stp.dat], w0⟩) q3
    simp at b0 b1 b2 b4 b5
    refine ⟨(⟨x0, x1, x2, ns, sa, sc, x4, x5⟩, y3.1), ?_, ?_, ⟨w0, w1, w2, w4, r3, ⟨sp, r4⟩, r5⟩⟩
    · rw [b0, b1, b2, r1, b4, b5]; rfl
    · have := congrArg Prod.fst hx
      simp only at this
      rw [this]
      simp [OpV.dat, d0, d1, d2, d4, d5]
theorem open_ops2 {f0 f1 f2 f3 f4 f5 g0 g1 g2 : Field} {se : TypeId} {W : World} {r : Go.Reach} {b0 : Nat} {t e : TypeId} {v : Value} {d : DataW H} {ps : List MemPlace} (ht : P.underlying t = some (.slice e)) (he : P.underlying e = some (.struct #[f0, f1, f2, f3, f4, f5])) (hc : P.cellsOf e = 6)
    (h0 : f0.offset = 0 ∧ P.underlying f0.type = some (.int .i64) ∧ P.cellsOf f0.type = 1) (h1 : f1.offset = 1 ∧ P.underlying f1.type = some (.int .i64) ∧ P.cellsOf f1.type = 1) (h2 : f2.offset = 2 ∧ P.underlying f2.type = some (.int .i64) ∧ P.cellsOf f2.type = 1)
    (h3 : f3.offset = 3 ∧ P.underlying f3.type = some (.slice se) ∧ P.cellsOf f3.type = 1) (h4 : f4.offset = 4 ∧ P.underlying f4.type = some (.int .i64) ∧ P.cellsOf f4.type = 1) (h5 : f5.offset = 5 ∧ P.underlying f5.type = some .bool ∧ P.cellsOf f5.type = 1)
    (hse : P.underlying se = some (.struct #[g0, g1, g2]) ∧ P.cellsOf se = 3) (k0 : g0.offset = 0 ∧ P.underlying g0.type = some (.int .i64) ∧ P.cellsOf g0.type = 1) (k1 : g1.offset = 1 ∧ P.underlying g1.type = some .string ∧ P.cellsOf g1.type = 1) (k2 : g2.offset = 2 ∧ P.underlying g2.type = some .string ∧ P.cellsOf g2.type = 1)
    (hval : Value.okWide P W r b0 t v) (h : DataW.Trod enc P W 0 (fun _ => true) true t v d ps) : ∃ (a : Option Addr) (cap : Nat) (S : List OpV), v = .slice a S.length cap ∧
      (∃ (Z : List (OpV × DataW H)) (spare : List (DataW H)), Z.map (·.1) = S ∧ (∀ z ∈ Z, OpIn W z) ∧ (d = .nil ∧ Z = [] ∨ d = .slice (Z.map OpV.dat) spare)) ∧ ∀ w0 Hp, RowR w0 (memOf W) Hp 6 a (S.map OpV.cs) := by
  obtain ⟨a, cap, ns, sp, e1, e2, e3, e4, e5⟩ := open_ops ht he hc h0 h1 h2 h3 h4 h5 hse k0 k1 k2 hval h
  refine ⟨a, cap, ns.map (·.1), by rw [List.length_map]; exact e1, ⟨ns, sp, rfl, e3, e4⟩, fun w0 Hp => ?_⟩
  rw [List.map_map]; exact e5 w0 Hp
end
end Go.Eng
namespace Go.Proofs.Ytelgegefmjlimaa
open Go Go.Eng
theorem ops_bulk {H : Type} : ∀ (Z : List (OpV × DataW H)), Z.length ≤ Rows.uptoBulkAll (Z.map OpV.dat) ∧ ∀ z ∈ Z, Rows.uptoBulk z.2 ≤ Rows.uptoBulkAll (Z.map OpV.dat)
  | [] => by simp
  | z :: Z => by
    obtain ⟨h1, h2⟩ := ops_bulk Z
    have hz : Rows.uptoBulk z.2 + 1 ≤ Rows.uptoBulk (OpV.dat z) := by simp only [OpV.dat, Rows.uptoBulk, Rows.uptoBulkAll]; omega
    simp only [List.map_cons, Rows.uptoBulkAll, List.length_cons]
    refine ⟨by omega, fun y hy => ?_⟩
    rcases List.mem_cons.1 hy with rfl | hy
    · omega
    · have := h2 y hy; omega
theorem ops_ok {H : Type} {W : World} {S : List OpV} {d : DataW H} (h : ∃ (Z : List (OpV × DataW H)) (spare : List (DataW H)), Z.map (·.1) = S ∧ (∀ z ∈ Z, OpIn W z) ∧ (d = .nil ∧ Z = [] ∨ d = .slice (Z.map OpV.dat) spare)) (hb : Rows.uptoBulk d ≤ 1048576) :
    S.length ≤ 1048576 ∧ ∀ w0, ∀ x ∈ S, OpOk w0 (memOf W) x := by
  obtain ⟨Z, sp, rfl, h1, h2⟩ := h
  obtain ⟨k1, k2⟩ := ops_bulk Z
  have hbb : Rows.uptoBulkAll (Z.map OpV.dat) ≤ 1048576 ∨ Z = [] := by
    rcases h2 with ⟨_, h⟩ | h
    · exact .inr h
    · rw [h] at hb; simp only [Rows.uptoBulk] at hb; exact .inl (by omega)
  refine ⟨?_, fun w0 x hx => ?_⟩
  · rw [List.length_map]
    rcases hbb with h | h
    · omega
    · rw [h]; simp
  · obtain ⟨z, hz, rfl⟩ := List.mem_map.1 hx
    have hz1 := h1 z hz
    have hbz : Rows.uptoBulk z.2 ≤ 1048576 := by
      rcases hbb with h | h
      · have := k2 z hz; omega
      · rw [h] at hz; cases hz
    have a1 := hz1.kind
    have a2 := hz1.hand
    have a3 := hz1.rev
    have a4 := hz1.at_
    simp only [Lit.wf, Bool.and_eq_true, decide_eq_true_eq] at a1 a2 a3 a4
    obtain ⟨sp2, hd⟩ := hz1.dat
    exact ⟨a1, a2, a3, a4, fit_of hz1.ks hd hbz, fun Hx => hz1.row w0 Hx⟩
end Go.Proofs.Ytelgegefmjlimaa

/-
  What the law EditSheets stands on, in one text. No condition.
-/

