/-
  The walk of the law RunesForms. No condition.
-/
import Derived.Test.YtdmdabjaboigcaaR16
namespace Go.Proofs.Ytdmdabjaboigcaa
open Go Go.Eng
set_option maxRecDepth 100000
set_option maxHeartbeats 4000000
set_option linter.all false
attribute [local irreducible] WL WC WQ QFun QLoop Does Q1 QRound QAssign Go.Addr.add
theorem widthS_rwd (r : Int) : widthS r = (rwd r : Int) := by
  rcases rn_cases r with ⟨h1, _⟩ | ⟨_, h2⟩
  · rw [(widthS_zero r).2 h1, rwd, if_pos h1]; rfl
  · have hok := rn_ok r
    have a := widthS_ok hok
    have b := rwd_okr hok
    rw [← h2] at a b
    rw [a, b]
theorem rwidth_same (r : Int) (w0 : World) (m : Mem) (H : SHeap) : Does Try.prog 35 #[.int .i32 r] w0 m H (Gives (.int .i64 (widthS r)) m H) := by rw [widthS_rwd]; exact rwidth_any r w0 m H
theorem all_ok (ns : List Int) : ∀ e ∈ ns.map rI, e.all okCell = true := by
  intro e he; obtain ⟨x, _, rfl⟩ := List.mem_map.1 he; rfl
theorem all_one (ns : List Int) : ∀ e ∈ ns.map rI, e.length = 1 := by
  intro e he; obtain ⟨x, _, rfl⟩ := List.mem_map.1 he; rfl
theorem sq_R17_1 {G : Prop} (h : G := by (repeat (first | (refine sp ?_; (repeat intro zzc)) | (refine iF 15 rfl ?_; refine w_callG Try.func15 ?_ (hs := wakes_any _ _ _)) | (refine iF 34 rfl ?_; refine w_callG Try.func34 ?_ (hs := width_any _ _ _ _)) | (refine iF 35 rfl ?_; refine w_callG Try.func35 ?_ (hs := rwidth_same _ _ _ _)) | (refine iF 36 rfl ?_; refine w_callG Try.func36 ?_ (hs := encode_any _ _ _ _)) | (refine iF 37 rfl ?_; refine w_callG Try.func37 ?_ (hs := rencode_any _ _ _ _)) | (refine iF 33 rfl ?_; refine w_callG Try.func33 ?_ (hs := refOf_any (by omega) (by assumption))))); exact WQ.q1 rfl) : G := h
theorem st_R17_1 {G G' : Prop} (next : G') (h : Bx G' → G := by intro zzn; (first | ((refine st ?_; (repeat intro zzc)); (try ((first | (refine iF 15 rfl ?_; refine w_callG Try.func15 ?_ (hs := wakes_any _ _ _)) | (refine iF 34 rfl ?_; refine w_callG Try.func34 ?_ (hs := width_any _ _ _ _)) | (refine iF 35 rfl ?_; refine w_callG Try.func35 ?_ (hs := rwidth_same _ _ _ _)) | (refine iF 36 rfl ?_; refine w_callG Try.func36 ?_ (hs := encode_any _ _ _ _)) | (refine iF 37 rfl ?_; refine w_callG Try.func37 ?_ (hs := rencode_any _ _ _ _)) | (refine iF 33 rfl ?_; refine w_callG Try.func33 ?_ (hs := refOf_any (by omega) (by assumption))) | ((refine iDraw ?_; (first | refine WC.drawAll rfl (by decide +kernel) ?_ | refine WC.draw 1 rfl (by decide +kernel) ?_ | refine WC.draw 2 rfl (by decide +kernel) ?_ | refine WC.draw 3 rfl (by decide +kernel) ?_ | refine WC.draw 4 rfl (by decide +kernel) ?_ | refine WC.draw 5 rfl (by decide +kernel) ?_ | refine WC.draw 6 rfl (by decide +kernel) ?_ | refine WC.draw 7 rfl (by decide +kernel) ?_ | refine WC.draw 8 rfl (by decide +kernel) ?_ | refine WC.draw 9 rfl (by decide +kernel) ?_ | refine WC.draw 10 rfl (by decide +kernel) ?_ | refine WC.draw 11 rfl (by decide +kernel) ?_ | refine WC.draw 12 rfl (by decide +kernel) ?_ | refine WC.draw 13 rfl (by decide +kernel) ?_ | refine WC.draw 14 rfl (by decide +kernel) ?_ | refine WC.draw 15 rfl (by decide +kernel) ?_ | refine WC.draw 16 rfl (by decide +kernel) ?_ | refine WC.draw 17 rfl (by decide +kernel) ?_ | refine WC.draw 18 rfl (by decide +kernel) ?_ | refine WC.draw 19 rfl (by decide +kernel) ?_ | refine WC.draw 20 rfl (by decide +kernel) ?_ | refine WC.draw 21 rfl (by decide +kernel) ?_ | refine WC.draw 22 rfl (by decide +kernel) ?_ | refine WC.draw 23 rfl (by decide +kernel) ?_ | refine WC.draw 24 rfl (by decide +kernel) ?_)); (repeat (refine WD.cons rfl (fun c h => by cases h) sq_R17_1 ?_)); refine WD.nil ?_)); (try (refine st ?_; (repeat intro zzc)))))) | ((first | (refine iF 15 rfl ?_; refine w_callG Try.func15 ?_ (hs := wakes_any _ _ _)) | (refine iF 34 rfl ?_; refine w_callG Try.func34 ?_ (hs := width_any _ _ _ _)) | (refine iF 35 rfl ?_; refine w_callG Try.func35 ?_ (hs := rwidth_same _ _ _ _)) | (refine iF 36 rfl ?_; refine w_callG Try.func36 ?_ (hs := encode_any _ _ _ _)) | (refine iF 37 rfl ?_; refine w_callG Try.func37 ?_ (hs := rencode_any _ _ _ _)) | (refine iF 33 rfl ?_; refine w_callG Try.func33 ?_ (hs := refOf_any (by omega) (by assumption))) | ((refine iDraw ?_; (first | refine WC.drawAll rfl (by decide +kernel) ?_ | refine WC.draw 1 rfl (by decide +kernel) ?_ | refine WC.draw 2 rfl (by decide +kernel) ?_ | refine WC.draw 3 rfl (by decide +kernel) ?_ | refine WC.draw 4 rfl (by decide +kernel) ?_ | refine WC.draw 5 rfl (by decide +kernel) ?_ | refine WC.draw 6 rfl (by decide +kernel) ?_ | refine WC.draw 7 rfl (by decide +kernel) ?_ | refine WC.draw 8 rfl (by decide +kernel) ?_ | refine WC.draw 9 rfl (by decide +kernel) ?_ | refine WC.draw 10 rfl (by decide +kernel) ?_ | refine WC.draw 11 rfl (by decide +kernel) ?_ | refine WC.draw 12 rfl (by decide +kernel) ?_ | refine WC.draw 13 rfl (by decide +kernel) ?_ | refine WC.draw 14 rfl (by decide +kernel) ?_ | refine WC.draw 15 rfl (by decide +kernel) ?_ | refine WC.draw 16 rfl (by decide +kernel) ?_ | refine WC.draw 17 rfl (by decide +kernel) ?_ | refine WC.draw 18 rfl (by decide +kernel) ?_ | refine WC.draw 19 rfl (by decide +kernel) ?_ | refine WC.draw 20 rfl (by decide +kernel) ?_ | refine WC.draw 21 rfl (by decide +kernel) ?_ | refine WC.draw 22 rfl (by decide +kernel) ?_ | refine WC.draw 23 rfl (by decide +kernel) ?_ | refine WC.draw 24 rfl (by decide +kernel) ?_)); (repeat (refine WD.cons rfl (fun c h => by cases h) sq_R17_1 ?_)); refine WD.nil ?_)); (try (refine st ?_; (repeat intro zzc))))); (repeat ((first | (refine iF 15 rfl ?_; refine w_callG Try.func15 ?_ (hs := wakes_any _ _ _)) | (refine iF 34 rfl ?_; refine w_callG Try.func34 ?_ (hs := width_any _ _ _ _)) | (refine iF 35 rfl ?_; refine w_callG Try.func35 ?_ (hs := rwidth_same _ _ _ _)) | (refine iF 36 rfl ?_; refine w_callG Try.func36 ?_ (hs := encode_any _ _ _ _)) | (refine iF 37 rfl ?_; refine w_callG Try.func37 ?_ (hs := rencode_any _ _ _ _)) | (refine iF 33 rfl ?_; refine w_callG Try.func33 ?_ (hs := refOf_any (by omega) (by assumption))) | ((refine iDraw ?_; (first | refine WC.drawAll rfl (by decide +kernel) ?_ | refine WC.draw 1 rfl (by decide +kernel) ?_ | refine WC.draw 2 rfl (by decide +kernel) ?_ | refine WC.draw 3 rfl (by decide +kernel) ?_ | refine WC.draw 4 rfl (by decide +kernel) ?_ | refine WC.draw 5 rfl (by decide +kernel) ?_ | refine WC.draw 6 rfl (by decide +kernel) ?_ | refine WC.draw 7 rfl (by decide +kernel) ?_ | refine WC.draw 8 rfl (by decide +kernel) ?_ | refine WC.draw 9 rfl (by decide +kernel) ?_ | refine WC.draw 10 rfl (by decide +kernel) ?_ | refine WC.draw 11 rfl (by decide +kernel) ?_ | refine WC.draw 12 rfl (by decide +kernel) ?_ | refine WC.draw 13 rfl (by decide +kernel) ?_ | refine WC.draw 14 rfl (by decide +kernel) ?_ | refine WC.draw 15 rfl (by decide +kernel) ?_ | refine WC.draw 16 rfl (by decide +kernel) ?_ | refine WC.draw 17 rfl (by decide +kernel) ?_ | refine WC.draw 18 rfl (by decide +kernel) ?_ | refine WC.draw 19 rfl (by decide +kernel) ?_ | refine WC.draw 20 rfl (by decide +kernel) ?_ | refine WC.draw 21 rfl (by decide +kernel) ?_ | refine WC.draw 22 rfl (by decide +kernel) ?_ | refine WC.draw 23 rfl (by decide +kernel) ?_ | refine WC.draw 24 rfl (by decide +kernel) ?_)); (repeat (refine WD.cons rfl (fun c h => by cases h) sq_R17_1 ?_)); refine WD.nil ?_)); (try (refine st ?_; (repeat intro zzc))))); (repeat revert zzc); exact zzn.out) : G := h ⟨next⟩
theorem runesForms_any {a0 : Option Addr} {cap0 : Nat} {ns : List Int} (hl : ns.length ≤ 1048576) (w0 : World) (m : Mem) (H : SHeap) (hr : ∀ Hp, RowR w0 m Hp 1 a0 (ns.map rI)) :
    Does Try.prog 6 #[.slice a0 ns.length cap0] w0 m H (fun v m' _ => v = .bool true ∧ m.le m') := by
  refine Does.of_body (args := [.slice a0 ns.length cap0]) Try.func6 rfl Try.ntmps6 rfl ?_
  have hml : (ns.map rI).length = ns.length := by simp
  (refine st_R17_1 ?_; intros; rename_i b3)
  refine w_appendR (hr _) (all_ok ns) (all_one ns) ?_
  intro a3 c3
  (try (refine st_R17_1 ?_; intros))
  refine WC.loopH [(4, .int .i64 ((0) : Int)), (3, .slice (a3) (([] : List (List Value)).length + (ns.map rI).length) (c3)), (0, .slice a0 ns.length cap0)] ?_ ?_ (fun j r ds m' H' => ∃ k a31 c31 n3 es, j = 70 - k ∧ r = [(4, .int .i64 (k : Int)), (3, .slice a31 n3 c31), (0, .slice a0 ns.length cap0)] ∧ ds = [] ∧ m = m' ∧ H' = .row a31 c31 21 1 es :: H ∧ (k ≤ 70) ∧ (n3 = es.length) ∧ (es = ns.map rI ++ List.replicate k [.int .i32 (-9)])) (70 - (0)) ⟨0, a3, c3, ([] : List (List Value)).length + (ns.map rI).length, [] ++ ns.map rI, rfl, rfl, rfl, rfl, rfl, by omega, by simp, by simp⟩ ?_
  · (repeat (first | exact Env.Sub.nil | refine Env.Sub.cons rfl ?_))
  · exact (fun w h => Pick.sat (by iterate 60 (try (first | exact Pick.all | (apply Pick.take; (· (repeat (first | exact Out.here | apply Out.there)))) | apply Pick.drop))) h)
  rintro j r ds m' H' ⟨k, a31, c31, n3, es, rfl, rfl, rfl, rfl, rfl, hk, rfl, hes⟩
  have hesl : es.length = ns.length + k := by simp [hes]
  by_cases hlt : k < 70
  · (refine st_R17_1 ?_; intros; rename_i b4 a32 c32)
    refine WQ.next (70 - (k + 1)) ⟨k + 1, a32, c32, _, _, rfl, rfl, rfl, rfl, rfl, ?_, ?_, ?_⟩ (by omega) (by (repeat (first | exact Env.Sub.nil | refine Env.Sub.cons rfl ?_))) (fun w h => Pick.sat (by iterate 60 (try (first | exact Pick.all | (apply Pick.take; (· (repeat (first | exact Out.here | apply Out.there)))) | apply Pick.drop))) h)
    · omega
    · simp
    · rw [hes, List.replicate_succ']; simp
  · obtain rfl : k = 70 := by omega
    refine WC.rowCap (a := a31) (by (repeat (first | exact List.Mem.head _ | apply List.Mem.tail))) ?_
    intro hcap
    (try (refine st_R17_1 ?_; intros))
    have hrow : RowR w0 m (.row a31 c31 21 1 es :: H) 1 (if c31 = 0 then a31 else a31.map (·.add (0 * 1))) (ns.map rI) := by
      have h := RowR.subRow (w0 := w0) (m := m) (H := .row a31 c31 21 1 es :: H) (lo := 0) (hi := ns.length) (sz := 1) (T := 21) (cap := c31) (a := a31) (es := es) (List.mem_cons_self) (by omega)
      have e : (es.take ns.length).drop 0 = ns.map rI := by rw [hes, List.drop_zero, List.take_left' hml]
      rwa [e] at h
    refine w_callF Try.func32 ?_ (hs := of_any (by omega) hrow)
    rintro _ m _ ⟨rfl, rfl, rfl⟩
    have hr1 := hr (.row a31 c31 21 1 es :: H)
    (try (refine st_R17_1 ?_; intros))
    refine WC.loopH [(32, .int .i64 ((0) : Int)), (31, .int .i64 (es.length : Int)), (3, .slice a31 es.length c31), (0, .slice a0 ns.length cap0), (5, str (formsOf ns))] ?_ ?_ (fun j r ds m' H' => ∃ i, j = es.length - i ∧ r = [(32, .int .i64 (i : Int)), (31, .int .i64 (es.length : Int)), (3, .slice a31 es.length c31), (0, .slice a0 ns.length cap0), (5, str (formsOf ns))] ∧ ds = [] ∧ m = m' ∧ H' = .row a31 c31 21 1 es :: H ∧ (i ≤ es.length)) (es.length - (0)) ⟨0, rfl, rfl, rfl, rfl, rfl, by omega⟩ ?_
    · (repeat (first | exact Env.Sub.nil | refine Env.Sub.cons rfl ?_))
    · exact (fun w h => Pick.sat (by iterate 60 (try (first | exact Pick.all | (apply Pick.take; (· (repeat (first | exact Out.here | apply Out.there)))) | apply Pick.drop))) h)
    rintro j r ds m' H' ⟨i, rfl, rfl, rfl, rfl, rfl, hi⟩
    by_cases hlt2 : i < es.length
    · refine WC.rowSome (a := a31) (by (repeat (first | exact List.Mem.head _ | apply List.Mem.tail))) (by omega) ?_
      rintro a33 rfl
      by_cases hin : i < ns.length
      · obtain ⟨x, hx, hget, htk, hmem, hdr⟩ := at_idx (f := rI) hin
        have hget2 : es[i]? = some (rI x) := by rw [hes, List.getElem?_append_left (by omega)]; exact hget
        refine WC.rSome hr1 (by omega) ?_
        rintro a00 rfl
        (try (refine st_R17_1 ?_; intros))
        refine WQ.next (es.length - (i + 1)) ⟨i + 1, rfl, rfl, rfl, rfl, rfl, ?_⟩ (by omega) (by (repeat (first | exact Env.Sub.nil | refine Env.Sub.cons rfl ?_))) (fun w h => Pick.sat (by iterate 60 (try (first | exact Pick.all | (apply Pick.take; (· (repeat (first | exact Out.here | apply Out.there)))) | apply Pick.drop))) h)
        omega
      · have hget2 : es[i]? = some [.int .i32 (-9)] := by
          rw [hes, List.getElem?_append_right (by omega), List.getElem?_replicate, if_pos (by omega)]
        (try (refine st_R17_1 ?_; intros))
        refine WQ.next (es.length - (i + 1)) ⟨i + 1, rfl, rfl, rfl, rfl, rfl, ?_⟩ (by omega) (by (repeat (first | exact Env.Sub.nil | refine Env.Sub.cons rfl ?_))) (fun w h => Pick.sat (by iterate 60 (try (first | exact Pick.all | (apply Pick.take; (· (repeat (first | exact Out.here | apply Out.there)))) | apply Pick.drop))) h)
        omega
    · (try (refine st_R17_1 ?_; intros))
      refine WC.loopH [(70, .int .i64 ((0) : Int)), (69, .int .i64 (ns.length : Int)), (68, .slice a0 ns.length cap0)] ?_ ?_ (fun j r ds m' H' => ∃ i3, j = ns.length - i3 ∧ r = [(70, .int .i64 (i3 : Int)), (69, .int .i64 (ns.length : Int)), (68, .slice a0 ns.length cap0)] ∧ ds = [] ∧ m = m' ∧ H' = .row a31 c31 21 1 es :: H ∧ (i3 ≤ ns.length)) (ns.length - (0)) ⟨0, rfl, rfl, rfl, rfl, rfl, by omega⟩ ?_
      · (repeat (first | exact Env.Sub.nil | refine Env.Sub.cons rfl ?_))
      · exact (fun w h => Pick.sat (by iterate 60 (try (first | exact Pick.all | (apply Pick.take; (· (repeat (first | exact Out.here | apply Out.there)))) | apply Pick.drop))) h)
      rintro j r ds m' H' ⟨i3, rfl, rfl, rfl, rfl, rfl, hi3⟩
      by_cases hlt3 : i3 < ns.length
      · obtain ⟨x, hx, hget, htk, hmem, hdr⟩ := at_idx (f := rI) hlt3
        refine WC.rSome hr1 (by omega) ?_
        rintro a00 rfl
        (try (refine st_R17_1 ?_; intros))
        refine WQ.next (ns.length - (i3 + 1)) ⟨i3 + 1, rfl, rfl, rfl, rfl, rfl, ?_⟩ (by omega) (by (repeat (first | exact Env.Sub.nil | refine Env.Sub.cons rfl ?_))) (fun w h => Pick.sat (by iterate 60 (try (first | exact Pick.all | (apply Pick.take; (· (repeat (first | exact Out.here | apply Out.there)))) | apply Pick.drop))) h)
        omega
      · (try (refine st_R17_1 ?_; intros))
        (refine q_fin0 ?_)
        exact ⟨rfl, Mem.le.refl _⟩
end Go.Proofs.Ytdmdabjaboigcaa
