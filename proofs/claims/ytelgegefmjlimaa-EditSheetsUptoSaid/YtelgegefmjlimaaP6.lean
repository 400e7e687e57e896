/-
  Parts of a walk, joined: E18 ET26 EngY E38 ET15 ET30 E40 E5 E7 E3. No condition.
-/
import Derived.Test.YtelgegefmjlimaaP5
import Derived.Test.YtelgegefmjlimaaP4
set_option linter.all false
/-
  The walk of the program's Carry: two changes carried over each other. No condition.
-/
namespace Go.Eng
open Go Go.RowKit
def PairP (T : TypeId) (r : Int ⊕ (List Stp × List Stp)) (k : IntKind) (m : Mem) (H : SHeap) : Value → Mem → SHeap → Prop := fun v m' H' => m' = m ∧ match r with
  | .inl e => v = .tuple #[.slice none 0 0, .slice none 0 0, .int k e] ∧ H' = H
  | .inr (l1, l2) => ∃ c cp c2 cp2, v = .tuple #[.slice c l1.length cp, .slice c2 l2.length cp2, .int k 0] ∧ H' = .row c cp T 3 (l1.map Stp.cs) :: .row c2 cp2 T 3 (l2.map Stp.cs) :: H
end Go.Eng
namespace Go.Proofs.Ytelgegefmjlimaa
open Go Go.Eng
set_option maxRecDepth 100000
set_option maxHeartbeats 4000000
set_option linter.all false
attribute [local irreducible] WL WC WQ QFun QLoop Does Q1 QRound QAssign Go.Addr.add
attribute [local irreducible] sizesF sizesOf carT
theorem sq_E18_1 {G : Prop} (h : G := by (repeat (first | (refine sp ?_; (repeat intro zzc)) | (refine iF 40 rfl ?_; refine w_callG Try.func40 ?_ (hs := sizes_any (by assumption) _ _ _ (by assumption))) | (refine iF 47 rfl ?_; refine w_callG Try.func47 ?_ (hs := size_any (by assumption) (by omega) _ _ _)))); exact WQ.q1 rfl) : G := h
theorem st_E18_1 {G G' : Prop} (next : G') (h : Bx G' → G := by intro zzn; (first | ((refine st ?_; (repeat intro zzc)); (try ((first | (refine iF 40 rfl ?_; refine w_callG Try.func40 ?_ (hs := sizes_any (by assumption) _ _ _ (by assumption))) | (refine iF 47 rfl ?_; refine w_callG Try.func47 ?_ (hs := size_any (by assumption) (by omega) _ _ _)) | ((refine iDraw ?_; (first | refine WC.drawAll rfl (by decide +kernel) ?_ | refine WC.draw 1 rfl (by decide +kernel) ?_ | refine WC.draw 2 rfl (by decide +kernel) ?_ | refine WC.draw 3 rfl (by decide +kernel) ?_ | refine WC.draw 4 rfl (by decide +kernel) ?_ | refine WC.draw 5 rfl (by decide +kernel) ?_ | refine WC.draw 6 rfl (by decide +kernel) ?_ | refine WC.draw 7 rfl (by decide +kernel) ?_ | refine WC.draw 8 rfl (by decide +kernel) ?_ | refine WC.draw 9 rfl (by decide +kernel) ?_ | refine WC.draw 10 rfl (by decide +kernel) ?_ | refine WC.draw 11 rfl (by decide +kernel) ?_ | refine WC.draw 12 rfl (by decide +kernel) ?_ | refine WC.draw 13 rfl (by decide +kernel) ?_ | refine WC.draw 14 rfl (by decide +kernel) ?_ | refine WC.draw 15 rfl (by decide +kernel) ?_ | refine WC.draw 16 rfl (by decide +kernel) ?_ | refine WC.draw 17 rfl (by decide +kernel) ?_ | refine WC.draw 18 rfl (by decide +kernel) ?_ | refine WC.draw 19 rfl (by decide +kernel) ?_ | refine WC.draw 20 rfl (by decide +kernel) ?_ | refine WC.draw 21 rfl (by decide +kernel) ?_ | refine WC.draw 22 rfl (by decide +kernel) ?_ | refine WC.draw 23 rfl (by decide +kernel) ?_ | refine WC.draw 24 rfl (by decide +kernel) ?_)); (repeat (refine WD.cons rfl (fun c h => by cases h) sq_E18_1 ?_)); refine WD.nil ?_)); (try (refine st ?_; (repeat intro zzc)))))) | ((first | (refine iF 40 rfl ?_; refine w_callG Try.func40 ?_ (hs := sizes_any (by assumption) _ _ _ (by assumption))) | (refine iF 47 rfl ?_; refine w_callG Try.func47 ?_ (hs := size_any (by assumption) (by omega) _ _ _)) | ((refine iDraw ?_; (first | refine WC.drawAll rfl (by decide +kernel) ?_ | refine WC.draw 1 rfl (by decide +kernel) ?_ | refine WC.draw 2 rfl (by decide +kernel) ?_ | refine WC.draw 3 rfl (by decide +kernel) ?_ | refine WC.draw 4 rfl (by decide +kernel) ?_ | refine WC.draw 5 rfl (by decide +kernel) ?_ | refine WC.draw 6 rfl (by decide +kernel) ?_ | refine WC.draw 7 rfl (by decide +kernel) ?_ | refine WC.draw 8 rfl (by decide +kernel) ?_ | refine WC.draw 9 rfl (by decide +kernel) ?_ | refine WC.draw 10 rfl (by decide +kernel) ?_ | refine WC.draw 11 rfl (by decide +kernel) ?_ | refine WC.draw 12 rfl (by decide +kernel) ?_ | refine WC.draw 13 rfl (by decide +kernel) ?_ | refine WC.draw 14 rfl (by decide +kernel) ?_ | refine WC.draw 15 rfl (by decide +kernel) ?_ | refine WC.draw 16 rfl (by decide +kernel) ?_ | refine WC.draw 17 rfl (by decide +kernel) ?_ | refine WC.draw 18 rfl (by decide +kernel) ?_ | refine WC.draw 19 rfl (by decide +kernel) ?_ | refine WC.draw 20 rfl (by decide +kernel) ?_ | refine WC.draw 21 rfl (by decide +kernel) ?_ | refine WC.draw 22 rfl (by decide +kernel) ?_ | refine WC.draw 23 rfl (by decide +kernel) ?_ | refine WC.draw 24 rfl (by decide +kernel) ?_)); (repeat (refine WD.cons rfl (fun c h => by cases h) sq_E18_1 ?_)); refine WD.nil ?_)); (try (refine st ?_; (repeat intro zzc))))); (repeat ((first | (refine iF 40 rfl ?_; refine w_callG Try.func40 ?_ (hs := sizes_any (by assumption) _ _ _ (by assumption))) | (refine iF 47 rfl ?_; refine w_callG Try.func47 ?_ (hs := size_any (by assumption) (by omega) _ _ _)) | ((refine iDraw ?_; (first | refine WC.drawAll rfl (by decide +kernel) ?_ | refine WC.draw 1 rfl (by decide +kernel) ?_ | refine WC.draw 2 rfl (by decide +kernel) ?_ | refine WC.draw 3 rfl (by decide +kernel) ?_ | refine WC.draw 4 rfl (by decide +kernel) ?_ | refine WC.draw 5 rfl (by decide +kernel) ?_ | refine WC.draw 6 rfl (by decide +kernel) ?_ | refine WC.draw 7 rfl (by decide +kernel) ?_ | refine WC.draw 8 rfl (by decide +kernel) ?_ | refine WC.draw 9 rfl (by decide +kernel) ?_ | refine WC.draw 10 rfl (by decide +kernel) ?_ | refine WC.draw 11 rfl (by decide +kernel) ?_ | refine WC.draw 12 rfl (by decide +kernel) ?_ | refine WC.draw 13 rfl (by decide +kernel) ?_ | refine WC.draw 14 rfl (by decide +kernel) ?_ | refine WC.draw 15 rfl (by decide +kernel) ?_ | refine WC.draw 16 rfl (by decide +kernel) ?_ | refine WC.draw 17 rfl (by decide +kernel) ?_ | refine WC.draw 18 rfl (by decide +kernel) ?_ | refine WC.draw 19 rfl (by decide +kernel) ?_ | refine WC.draw 20 rfl (by decide +kernel) ?_ | refine WC.draw 21 rfl (by decide +kernel) ?_ | refine WC.draw 22 rfl (by decide +kernel) ?_ | refine WC.draw 23 rfl (by decide +kernel) ?_ | refine WC.draw 24 rfl (by decide +kernel) ?_)); (repeat (refine WD.cons rfl (fun c h => by cases h) sq_E18_1 ?_)); refine WD.nil ?_)); (try (refine st ?_; (repeat intro zzc))))); (repeat revert zzc); exact zzn.out) : G := h ⟨next⟩
theorem carry_any {pa pb : Option Addr} {ca cb : Nat} {a b : List Stp} (hfa : Fit a) (hfb : Fit b) (w0 : World) (m : Mem) (H : SHeap) (hra : RowR w0 m H 3 pa (a.map Stp.cs)) (hrb : RowR w0 m H 3 pb (b.map Stp.cs)) :
    Does Try.prog 27 #[.slice pa a.length ca, .slice pb b.length cb] w0 m H (PairP 59 (carP a b) .i64 m H) := by
  refine Does.of_body (args := [.slice pa a.length ca, .slice pb b.length cb]) Try.func27 rfl Try.ntmps27 rfl ?_
  cases hsa : sizesOf a with
  | none =>
    have e : carP a b = .inl 2 := by simp only [carP, hsa]
    have e2 : szP (sizesOf a) = .tuple #[.int .i64 0, .int .i64 0, .int .i64 2] := by rw [hsa]; rfl
    rw [e]
    (try (refine st_E18_1 ?_; intros))
    rw [e2]
    cases hsb : sizesOf b with
    | none =>
      have e3 : szP (sizesOf b) = .tuple #[.int .i64 0, .int .i64 0, .int .i64 2] := by rw [hsb]; rfl
      (try (refine st_E18_1 ?_; intros))
      rw [e3]
      (try (refine st_E18_1 ?_; intros))
      exact q_fin0 (H0 := H) ⟨rfl, rfl, rfl⟩ (hd := zpk)
    | some ft =>
      obtain ⟨f, t⟩ := ft
      have e3 : szP (sizesOf b) = .tuple #[.int .i64 f, .int .i64 t, .int .i64 0] := by rw [hsb]; rfl
      (try (refine st_E18_1 ?_; intros))
      rw [e3]
      (try (refine st_E18_1 ?_; intros))
      exact q_fin0 (H0 := H) ⟨rfl, rfl, rfl⟩ (hd := zpk)
  | some ft =>
    obtain ⟨fa, ta⟩ := ft
    have e2 : szP (sizesOf a) = .tuple #[.int .i64 fa, .int .i64 ta, .int .i64 0] := by rw [hsa]; rfl
    (try (refine st_E18_1 ?_; intros))
    rw [e2]
    cases hsb : sizesOf b with
    | none =>
      have e : carP a b = .inl 2 := by simp only [carP, hsa, hsb]
      have e3 : szP (sizesOf b) = .tuple #[.int .i64 0, .int .i64 0, .int .i64 2] := by rw [hsb]; rfl
      rw [e]
      (try (refine st_E18_1 ?_; intros))
      rw [e3]
      (try (refine st_E18_1 ?_; intros))
      exact q_fin0 (H0 := H) ⟨rfl, rfl, rfl⟩ (hd := zpk)
    | some ft =>
      obtain ⟨fb, tb⟩ := ft
      have e3 : szP (sizesOf b) = .tuple #[.int .i64 fb, .int .i64 tb, .int .i64 0] := by rw [hsb]; rfl
      (try (refine st_E18_1 ?_; intros))
      rw [e3]
      by_cases hmf : fa = fb
      · (try (refine st_E18_1 ?_; intros))
        obtain ⟨hoka, hal, hpla, hfra, htoa, _, _, _, _⟩ := sized hsa
        obtain ⟨hokb, hbl, hplb, hfrb, htob, _, _, _, _⟩ := sized hsb
        refine w_callF Try.func42 ?_ (hs := plain_any hoka (by omega) _ _ _ hra)
        rintro v m H1 ⟨rfl, arx, crx, rfl, rfl⟩
        (refine st_E18_1 ?_; intros; rename_i x)
        refine w_callF Try.func42 ?_ (hs := plain_any hokb (by omega) _ _ _ hrb.more.more)
        rintro v m H1 ⟨rfl, ary, cry, rfl, rfl⟩
        (refine st_E18_1 ?_; intros; rename_i y bu bv)
        refine WC.newRow (T := 59) (sz := 3) ?_
        refine WC.newRow (T := 59) (sz := 3) ?_
        refine WC.strm (a := arx) (cap := crx) (X := plainOf a) zhs (plain_ok a) fun hX0 => ?_
        refine WC.strm (a := ary) (cap := cry) (X := plainOf b) zhs (plain_ok b) fun hY0 => ?_
        refine WC.loopH [(13, .pointer (some ⟨x, 0, none⟩)), (14, .pointer (some ⟨y, 0, none⟩)), (15, .pointer (some ⟨bu, 0, none⟩)), (16, .pointer (some ⟨bv, 0, none⟩)), (17, .int .i64 ((0) : Int))] ?_ ?_ (fun j r ds m' H' => ∃ (k : _) (cu : Option Addr) (cpu : Nat) (U : Bld) (cv : Option Addr) (cpv : Nat) (V : Bld) (al : Nat) (ax : Option Addr) (cx : Nat) (prx : List (List Value)) (X : List Stp) (ay : Option Addr) (cy : Nat) (pry : List (List Value)) (Y : List Stp), j = (atomsOf X).length + (atomsOf Y).length ∧ r = [(13, .pointer (some ⟨x, 0, none⟩)), (14, .pointer (some ⟨y, 0, none⟩)), (15, .pointer (some ⟨bu, 0, none⟩)), (16, .pointer (some ⟨bv, 0, none⟩)), (17, .int .i64 (al : Int))] ∧ ds = [] ∧ m = m' ∧ H' = .blk bu (.cells [.slice cu U.l.length cpu, str U.p, str U.d].toArray 98 (0, 0)) :: .row cu cpu 59 3 (U.l.map Stp.cs) :: .blk bv (.cells [.slice cv V.l.length cpv, str V.p, str V.d].toArray 98 (0, 0)) :: .row cv cpv 59 3 (V.l.map Stp.cs) :: .blk x (.cells [.slice ax X.length cx].toArray 96 (0, 0)) :: .row arx crx 59 3 (prx ++ X.map Stp.cs) :: .blk y (.cells [.slice ay Y.length cy].toArray 96 (0, 0)) :: .row ary cry 59 3 (pry ++ Y.map Stp.cs) :: H ∧ (Strm ax cx arx prx X) ∧ (Strm ay cy ary pry Y) ∧ (BFit k U) ∧ (BFit k V) ∧ (k + 4 * ((atomsOf X).length + (atomsOf Y).length) ≤ 10000000 ∧ al ≤ k) ∧ (carT U V al (atomsOf X) (atomsOf Y) = carT Bld.start Bld.start 0 (nfOf (gapsOf a)) (nfOf (gapsOf b)))) ((atomsOf (plainOf a)).length + (atomsOf (plainOf b)).length) ⟨0, none, 0, Bld.start, none, 0, Bld.start, 0, arx, crx, [], plainOf a, ary, cry, [], plainOf b, rfl, rfl, rfl, rfl, rfl, hX0, hY0, BFit.start, BFit.start, by omega, by rw [plain_atoms, plain_atoms]⟩ ?_
        · (repeat (first | exact Env.Sub.nil | refine Env.Sub.cons rfl ?_))
        · exact zpk
        rintro j r ds m' H' ⟨k, cu, cpu, U, cv, cpv, V, al, ax, cx, prx, X, ay, cy, pry, Y, rfl, rfl, rfl, rfl, rfl, hX, hY, hU, hV, hk, ht⟩
        (try (refine st_E18_1 ?_; intros))
        refine w_callF Try.func44 ?_ (hs := now_any hX (by (repeat (first | exact Out.here | apply Out.there))) (by (repeat (first | exact Out.here | apply Out.there))))
        rintro v m H1 ⟨rfl, rfl, rfl⟩
        (refine st_E18_1 ?_; intros; rename_i bs)
        refine w_callF Try.func44 ?_ (hs := now_any hY (by (repeat (first | exact Out.here | apply Out.there))) (by (repeat (first | exact Out.here | apply Out.there))))
        rintro v m H1 ⟨rfl, rfl, rfl⟩
        have hxok := hX.ok
        have hyok := hY.ok
        by_cases hc1 : (nowS X).p = []
        · by_cases hc2 : (nowS Y).p = []
          · have hfin : carT U V al (atomsOf X) (atomsOf Y) = some (U.close.l, V.close.l, al) → carP a b = if 65536 < al then .inl 3 else .inr (U.close.l, V.close.l) := by
              intro hl
              simp only [carP, hsa, hsb]
              rw [if_neg (fun h => h hmf), ← ht, hl]
            have hlu := hU.len
            have hlv := hV.len
            have hpx : ∀ s X', X = s :: X' → s.p = [] := by rintro s X' rfl; exact hc1
            have hpy : ∀ t Y', Y = t :: Y' → t.p = [] := by rintro t Y' rfl; exact hc2
            by_cases hem : X = [] ∨ Y = []
            · have hend : carT U V al (atomsOf X) (atomsOf Y) = some (U.close.l, V.close.l, al) := by
                rcases hem with rfl | rfl
                · exact cst_nilX hyok hpy
                · exact cst_nilY hxok hpx
              have hfin := hfin hend
              have hz : ((!X.isEmpty) = true ∧ (!Y.isEmpty) = false) ∨ ((!X.isEmpty) = false ∧ (!Y.isEmpty) = true) ∨ ((!X.isEmpty) = false ∧ (!Y.isEmpty) = false) := by
                rcases X with _ | ⟨s, X⟩ <;> rcases Y with _ | ⟨t, Y⟩ <;> simp at hem ⊢
              by_cases hbig : 65536 < al
              · rw [hfin, if_pos hbig]
                rcases hz with hz | hz | hz
                all_goals
                  rw [hz.1, hz.2]
                  (refine st_E18_1 ?_; intros; rename_i bt)
                  exact q_fin0 (H0 := H) ⟨rfl, rfl, rfl⟩ (hd := zpk)
              · rw [hfin, if_neg hbig]
                rcases hz with hz | hz | hz
                all_goals
                  rw [hz.1, hz.2]
                  (refine st_E18_1 ?_; intros; rename_i bt)
                  refine WL.heap (H' := .blk bu (.cells [.slice cu U.l.length cpu, str U.p, str U.d].toArray 98 (0, 0)) :: .row cu cpu 59 3 (U.l.map Stp.cs) :: .blk bv (.cells [.slice cv V.l.length cpv, str V.p, str V.d].toArray 98 (0, 0)) :: .row cv cpv 59 3 (V.l.map Stp.cs) :: H) zpk ?_
                  refine w_callF Try.func48 ?_ (hs := done_any U (by omega) _ _ _)
                  rintro v m H1 ⟨rfl, c2, cp2, rfl, rfl⟩
                  (try (refine st_E18_1 ?_; intros))
                  refine WL.heap (H' := .blk bv (.cells [.slice cv V.l.length cpv, str V.p, str V.d].toArray 98 (0, 0)) :: .row cv cpv 59 3 (V.l.map Stp.cs) :: .row c2 cp2 59 3 (U.close.l.map Stp.cs) :: H) zpk ?_
                  refine w_callF Try.func48 ?_ (hs := done_any V (by omega) _ _ _)
                  rintro v m H1 ⟨rfl, c3, cp3, rfl, rfl⟩
                  (try (refine st_E18_1 ?_; intros))
                  exact q_fin0 (H0 := .row c2 cp2 59 3 (U.close.l.map Stp.cs) :: .row c3 cp3 59 3 (V.close.l.map Stp.cs) :: H) ⟨rfl, c2, cp2, c3, cp3, rfl, rfl⟩ (hd := zpk)
            · have hne : ∃ s X' t Y', X = s :: X' ∧ Y = t :: Y' := by
                rcases X with _ | ⟨s, X⟩ <;> rcases Y with _ | ⟨t, Y⟩ <;> simp at hem ⊢
              obtain ⟨s, X, t, Y, rfl, rfl⟩ := hne
              have hsok := hxok s List.mem_cons_self
              have htok := hyok t List.mem_cons_self
              have e1 : nowS (s :: X) = s := rfl
              have e2 : (!(s :: X).isEmpty) = true := rfl
              have e3 : nowS (t :: Y) = t := rfl
              have e4 : (!(t :: Y).isEmpty) = true := rfl
              rw [e1] at hc1
              rw [e3] at hc2
              rw [e1, e2, e3, e4]
              have hbs := stp_bounds hsok
              have hap := atoms_pos hsok
              have hbt := stp_bounds htok
              have hap2 := atoms_pos htok
              have hlx0 : s.atoms.length ≤ (atomsOf (s :: X)).length := by rw [atoms_cons, List.length_append]; omega
              have hly0 : t.atoms.length ≤ (atomsOf (t :: Y)).length := by rw [atoms_cons, List.length_append]; omega
              (refine st_E18_1 ?_; intros; rename_i bt)
              have hn : ∃ n : Nat, min (s.atoms.length : Int) (t.atoms.length : Int) = (n : Int) ∧ 0 < n ∧ n ≤ s.atoms.length ∧ n ≤ t.atoms.length := ⟨min s.atoms.length t.atoms.length, by omega, by omega, by omega, by omega⟩
              obtain ⟨n, en, hn0, hns, hnt⟩ := hn
              rw [en]
              rw [cst_both hxok hyok hc1 hc2 hn0 hns hnt] at ht
              have hok1 := (takeS_ok hsok hn0 hns).1
              have hok2 := (takeS_ok htok hn0 hnt).1
              have hk1 := takeS_kind hsok hn0 hns
              have hk2 := takeS_kind htok hn0 hnt
              have hlx := (rest_len hxok hn0 hns).1
              have hly := (rest_len hyok hn0 hnt).1
              refine WL.heap (H' := .blk x (.cells [.slice ax (s :: X).length cx].toArray 96 (0, 0)) :: .row arx crx 59 3 (prx ++ (s :: X).map Stp.cs) :: .blk bt (.cells [.int .i64 t.k, str t.d, str t.p].toArray 59 (0, 0)) :: .blk bs (.cells [.int .i64 s.k, str s.d, str s.p].toArray 59 (0, 0)) :: .blk bu (.cells [.slice cu U.l.length cpu, str U.p, str U.d].toArray 98 (0, 0)) :: .row cu cpu 59 3 (U.l.map Stp.cs) :: .blk bv (.cells [.slice cv V.l.length cpv, str V.p, str V.d].toArray 98 (0, 0)) :: .row cv cpv 59 3 (V.l.map Stp.cs) :: .blk y (.cells [.slice ay (t :: Y).length cy].toArray 96 (0, 0)) :: .row ary cry 59 3 (pry ++ (t :: Y).map Stp.cs) :: H) zpk ?_
              refine w_callF Try.func46 ?_ (hs := take_any _ hX hn0 hns (by omega) _ _ _)
              rintro v m H1 ⟨rfl, rfl, ax2, cx2, prx2, hX2, rfl⟩
              (try (refine st_E18_1 ?_; intros))
              refine WL.heap (H' := .blk y (.cells [.slice ay (t :: Y).length cy].toArray 96 (0, 0)) :: .row ary cry 59 3 (pry ++ (t :: Y).map Stp.cs) :: .blk bt (.cells [.int .i64 t.k, str t.d, str t.p].toArray 59 (0, 0)) :: .blk bs (.cells [.int .i64 s.k, str s.d, str s.p].toArray 59 (0, 0)) :: .blk bu (.cells [.slice cu U.l.length cpu, str U.p, str U.d].toArray 98 (0, 0)) :: .row cu cpu 59 3 (U.l.map Stp.cs) :: .blk bv (.cells [.slice cv V.l.length cpv, str V.p, str V.d].toArray 98 (0, 0)) :: .row cv cpv 59 3 (V.l.map Stp.cs) :: .blk x (.cells [.slice ax2 (restS s n X).length cx2].toArray 96 (0, 0)) :: .row arx crx 59 3 (prx2 ++ (restS s n X).map Stp.cs) :: H) zpk ?_
              refine w_callF Try.func46 ?_ (hs := take_any _ hY hn0 hnt (by omega) _ _ _)
              rintro v m H1 ⟨rfl, rfl, ay2, cy2, pry2, hY2, rfl⟩
              generalize takeS s n = S1 at *
              generalize takeS t n = T1 at *
              have hb1 := stp_bounds hok1
              have hb2 := stp_bounds hok2
              rw [show S1.v = .agg #[.int .i64 S1.k, str S1.d, str S1.p] from rfl, show T1.v = .agg #[.int .i64 T1.k, str T1.d, str T1.p] from rfl]
              by_cases g1 : 0 < S1.k
              · by_cases g2 : 0 < T1.k
                · rw [if_pos ⟨g1, g2⟩] at ht
                  (try (refine st_E18_1 ?_; intros))
                  refine WL.heap (H' := .blk bu (.cells [.slice cu U.l.length cpu, str U.p, str U.d].toArray 98 (0, 0)) :: .row cu cpu 59 3 (U.l.map Stp.cs) :: .blk bv (.cells [.slice cv V.l.length cpv, str V.p, str V.d].toArray 98 (0, 0)) :: .row cv cpv 59 3 (V.l.map Stp.cs) :: .blk x (.cells [.slice ax2 (restS s n X).length cx2].toArray 96 (0, 0)) :: .row arx crx 59 3 (prx2 ++ (restS s n X).map Stp.cs) :: .blk y (.cells [.slice ay2 (restS t n Y).length cy2].toArray 96 (0, 0)) :: .row ary cry 59 3 (pry2 ++ (restS t n Y).map Stp.cs) :: H) zpk ?_
                  refine w_callF Try.func55 ?_ (hs := keep_any U n (by omega) (hU.mono (by omega)) _ _ _)
                  rintro v m H1 ⟨rfl, rfl, c2, cp2, rfl⟩
                  (try (refine st_E18_1 ?_; intros))
                  refine WL.heap (H' := .blk bv (.cells [.slice cv V.l.length cpv, str V.p, str V.d].toArray 98 (0, 0)) :: .row cv cpv 59 3 (V.l.map Stp.cs) :: .blk bu (.cells [.slice c2 (U.keep n).l.length cp2, str (U.keep n).p, str (U.keep n).d].toArray 98 (0, 0)) :: .row c2 cp2 59 3 ((U.keep n).l.map Stp.cs) :: .blk x (.cells [.slice ax2 (restS s n X).length cx2].toArray 96 (0, 0)) :: .row arx crx 59 3 (prx2 ++ (restS s n X).map Stp.cs) :: .blk y (.cells [.slice ay2 (restS t n Y).length cy2].toArray 96 (0, 0)) :: .row ary cry 59 3 (pry2 ++ (restS t n Y).map Stp.cs) :: H) zpk ?_
                  refine w_callF Try.func55 ?_ (hs := keep_any V n (by omega) (hV.mono (by omega)) _ _ _)
                  rintro v m H1 ⟨rfl, rfl, c3, cp3, rfl⟩
                  have eal : (al : Int) + (n : Int) = ((al + n : Nat) : Int) := by omega
                  (try (refine st_E18_1 ?_; intros))
                  rw [eal]
                  refine WQ.next ((atomsOf (restS s n X)).length + (atomsOf (restS t n Y)).length) ⟨k + n + 3, c2, cp2, U.keep n, c3, cp3, V.keep n, al + n, ax2, cx2, prx2, restS s n X, ay2, cy2, pry2, restS t n Y, rfl, rfl, rfl, rfl, rfl, ?_, ?_, ?_, ?_, ?_, ?_⟩ (by omega) zsb zpk
                  · exact hX2
                  · exact hY2
                  · exact hU.keep
                  · exact hV.keep
                  · omega
                  · exact ht
                · rw [if_neg (by omega), if_pos g1] at ht
                  (try (refine st_E18_1 ?_; intros))
                  refine WL.heap (H' := .blk bv (.cells [.slice cv V.l.length cpv, str V.p, str V.d].toArray 98 (0, 0)) :: .row cv cpv 59 3 (V.l.map Stp.cs) :: .blk bu (.cells [.slice cu U.l.length cpu, str U.p, str U.d].toArray 98 (0, 0)) :: .row cu cpu 59 3 (U.l.map Stp.cs) :: .blk x (.cells [.slice ax2 (restS s n X).length cx2].toArray 96 (0, 0)) :: .row arx crx 59 3 (prx2 ++ (restS s n X).map Stp.cs) :: .blk y (.cells [.slice ay2 (restS t n Y).length cy2].toArray 96 (0, 0)) :: .row ary cry 59 3 (pry2 ++ (restS t n Y).map Stp.cs) :: H) zpk ?_
                  refine w_callF Try.func45 ?_ (hs := step_any V T1 (by omega) (by omega) (by omega) (hV.mono (by omega)) _ _ _)
                  rintro v m H1 ⟨rfl, rfl, c2, cp2, rfl⟩
                  (try (refine st_E18_1 ?_; intros))
                  refine WQ.next ((atomsOf (restS s n X)).length + (atomsOf (restS t n Y)).length) ⟨k + 4 * T1.atoms.length, cu, cpu, U, c2, cp2, V.step T1, al, ax2, cx2, prx2, restS s n X, ay2, cy2, pry2, restS t n Y, rfl, rfl, rfl, rfl, rfl, ?_, ?_, ?_, ?_, ?_, ?_⟩ (by omega) zsb zpk
                  · exact hX2
                  · exact hY2
                  · exact hU.mono (by omega)
                  · exact bfit_step hV hok2
                  · omega
                  · exact ht
              · rw [if_neg (by omega), if_neg g1] at ht
                by_cases g2 : 0 < T1.k
                · rw [if_pos g2] at ht
                  (try (refine st_E18_1 ?_; intros))
                  refine WL.heap (H' := .blk bu (.cells [.slice cu U.l.length cpu, str U.p, str U.d].toArray 98 (0, 0)) :: .row cu cpu 59 3 (U.l.map Stp.cs) :: .blk bv (.cells [.slice cv V.l.length cpv, str V.p, str V.d].toArray 98 (0, 0)) :: .row cv cpv 59 3 (V.l.map Stp.cs) :: .blk x (.cells [.slice ax2 (restS s n X).length cx2].toArray 96 (0, 0)) :: .row arx crx 59 3 (prx2 ++ (restS s n X).map Stp.cs) :: .blk y (.cells [.slice ay2 (restS t n Y).length cy2].toArray 96 (0, 0)) :: .row ary cry 59 3 (pry2 ++ (restS t n Y).map Stp.cs) :: H) zpk ?_
                  refine w_callF Try.func45 ?_ (hs := step_any U S1 (by omega) (by omega) (by omega) (hU.mono (by omega)) _ _ _)
                  rintro v m H1 ⟨rfl, rfl, c2, cp2, rfl⟩
                  (try (refine st_E18_1 ?_; intros))
                  refine WQ.next ((atomsOf (restS s n X)).length + (atomsOf (restS t n Y)).length) ⟨k + 4 * S1.atoms.length, c2, cp2, U.step S1, cv, cpv, V, al, ax2, cx2, prx2, restS s n X, ay2, cy2, pry2, restS t n Y, rfl, rfl, rfl, rfl, rfl, ?_, ?_, ?_, ?_, ?_, ?_⟩ (by omega) zsb zpk
                  · exact hX2
                  · exact hY2
                  · exact bfit_step hU hok1
                  · exact hV.mono (by omega)
                  · omega
                  · exact ht
                · rw [if_neg g2] at ht
                  by_cases g3 : S1.d = T1.d
                  · rw [if_pos g3] at ht
                    (try (refine st_E18_1 ?_; intros))
                    refine WQ.next ((atomsOf (restS s n X)).length + (atomsOf (restS t n Y)).length) ⟨k, cu, cpu, U, cv, cpv, V, al, ax2, cx2, prx2, restS s n X, ay2, cy2, pry2, restS t n Y, rfl, rfl, rfl, rfl, rfl, ?_, ?_, ?_, ?_, ?_, ?_⟩ (by omega) zsb zpk
                    · exact hX2
                    · exact hY2
                    · exact hU
                    · exact hV
                    · omega
                    · exact ht
                  · rw [if_neg g3] at ht
                    have e : carP a b = .inl 270 := by
                      simp only [carP, hsa, hsb]
                      rw [if_neg (fun h => h hmf), ← ht]
                    rw [e]
                    (try (refine st_E18_1 ?_; intros))
                    exact q_fin0 (H0 := H) ⟨rfl, rfl, rfl⟩ (hd := zpk)
          · rcases Y with _ | ⟨t, Y⟩
            · exact absurd rfl hc2
            · have htok := hyok t List.mem_cons_self
              have e1 : nowS (t :: Y) = t := rfl
              have e2 : (!(t :: Y).isEmpty) = true := rfl
              rw [e1] at hc2
              rw [e1, e2]
              have hl := rest_len hyok (atoms_pos htok) (Nat.le_refl _)
              rw [restS_all, takeS_all htok] at hl
              have hbt := stp_bounds htok
              have hap := atoms_pos htok
              have hpx : ∀ s X', X = s :: X' → s.p = [] := by rintro s X' rfl; exact hc1
              have hz : (!X.isEmpty) = true ∨ (!X.isEmpty) = false := by cases (!X.isEmpty) <;> simp
              have eal : (al : Int) + (t.p.length : Int) = ((al + t.p.length : Nat) : Int) := by omega
              rcases hz with hz | hz
              all_goals
                rw [hz]
                (refine st_E18_1 ?_; intros; rename_i bt)
                refine WL.heap (H' := .blk y (.cells [.slice ay (t :: Y).length cy].toArray 96 (0, 0)) :: .row ary cry 59 3 (pry ++ (t :: Y).map Stp.cs) :: .blk bt (.cells [.int .i64 t.k, str t.d, str t.p].toArray 59 (0, 0)) :: .blk bu (.cells [.slice cu U.l.length cpu, str U.p, str U.d].toArray 98 (0, 0)) :: .row cu cpu 59 3 (U.l.map Stp.cs) :: .blk bv (.cells [.slice cv V.l.length cpv, str V.p, str V.d].toArray 98 (0, 0)) :: .row cv cpv 59 3 (V.l.map Stp.cs) :: .blk x (.cells [.slice ax X.length cx].toArray 96 (0, 0)) :: .row arx crx 59 3 (prx ++ X.map Stp.cs) :: H) zpk ?_
                refine w_callF Try.func46 ?_ (hs := take_any _ hY (atoms_pos htok) (Nat.le_refl _) (by omega) _ _ _)
                rintro v m H1 ⟨rfl, rfl, ay2, cy2, pry2, hY2, rfl⟩
                rw [restS_all] at hY2 ⊢
                rw [takeS_all htok]
                (try (refine st_E18_1 ?_; intros))
                refine WL.heap (H' := .blk bv (.cells [.slice cv V.l.length cpv, str V.p, str V.d].toArray 98 (0, 0)) :: .row cv cpv 59 3 (V.l.map Stp.cs) :: .blk bt (.cells [.int .i64 t.k, str t.d, str t.p].toArray 59 (0, 0)) :: .blk bu (.cells [.slice cu U.l.length cpu, str U.p, str U.d].toArray 98 (0, 0)) :: .row cu cpu 59 3 (U.l.map Stp.cs) :: .blk x (.cells [.slice ax X.length cx].toArray 96 (0, 0)) :: .row arx crx 59 3 (prx ++ X.map Stp.cs) :: .blk y (.cells [.slice ay2 Y.length cy2].toArray 96 (0, 0)) :: .row ary cry 59 3 (pry2 ++ Y.map Stp.cs) :: H) zpk ?_
                refine w_callF Try.func45 ?_ (hs := step_any V t (by omega) (by omega) (by omega) (hV.mono (by omega)) _ _ _)
                rintro v m H1 ⟨rfl, rfl, c2, cp2, rfl⟩
                (try (refine st_E18_1 ?_; intros))
                refine WL.heap (H' := .blk bu (.cells [.slice cu U.l.length cpu, str U.p, str U.d].toArray 98 (0, 0)) :: .row cu cpu 59 3 (U.l.map Stp.cs) :: .blk bt (.cells [.int .i64 t.k, str t.d, str t.p].toArray 59 (0, 0)) :: .blk bv (.cells [.slice c2 (V.step t).l.length cp2, str (V.step t).p, str (V.step t).d].toArray 98 (0, 0)) :: .row c2 cp2 59 3 ((V.step t).l.map Stp.cs) :: .blk x (.cells [.slice ax X.length cx].toArray 96 (0, 0)) :: .row arx crx 59 3 (prx ++ X.map Stp.cs) :: .blk y (.cells [.slice ay2 Y.length cy2].toArray 96 (0, 0)) :: .row ary cry 59 3 (pry2 ++ Y.map Stp.cs) :: H) zpk ?_
                refine w_callF Try.func55 ?_ (hs := keep_any U t.p.length (by omega) (hU.mono (by omega)) _ _ _)
                rintro v m H1 ⟨rfl, rfl, c3, cp3, rfl⟩
                (try (refine st_E18_1 ?_; intros))
                rw [eal]
                refine WQ.next ((atomsOf (X)).length + (atomsOf (Y)).length) ⟨k + 4 * t.atoms.length, c3, cp3, U.keep t.p.length, c2, cp2, V.step t, al + t.p.length, ax, cx, prx, X, ay2, cy2, pry2, Y, rfl, rfl, rfl, rfl, rfl, ?_, ?_, ?_, ?_, ?_, ?_⟩ (by omega) zsb zpk
                · exact hX
                · exact hY2
                · exact hU.keep.mono (by omega)
                · exact bfit_step hV htok
                · omega
                · rw [← ht, cst_py htok hc2 hxok hpx]
        · rcases X with _ | ⟨s, X⟩
          · exact absurd rfl hc1
          · have hsok := hxok s List.mem_cons_self
            have e1 : nowS (s :: X) = s := rfl
            have e2 : (!(s :: X).isEmpty) = true := rfl
            rw [e1] at hc1
            rw [e1, e2]
            have hl := rest_len hxok (atoms_pos hsok) (Nat.le_refl _)
            rw [restS_all, takeS_all hsok] at hl
            have hbs := stp_bounds hsok
            have hap := atoms_pos hsok
            have eal : (al : Int) + (s.p.length : Int) = ((al + s.p.length : Nat) : Int) := by omega
            (refine st_E18_1 ?_; intros; rename_i bt)
            refine WL.heap (H' := .blk x (.cells [.slice ax (s :: X).length cx].toArray 96 (0, 0)) :: .row arx crx 59 3 (prx ++ (s :: X).map Stp.cs) :: .blk bs (.cells [.int .i64 s.k, str s.d, str s.p].toArray 59 (0, 0)) :: .blk bu (.cells [.slice cu U.l.length cpu, str U.p, str U.d].toArray 98 (0, 0)) :: .row cu cpu 59 3 (U.l.map Stp.cs) :: .blk bv (.cells [.slice cv V.l.length cpv, str V.p, str V.d].toArray 98 (0, 0)) :: .row cv cpv 59 3 (V.l.map Stp.cs) :: .blk y (.cells [.slice ay Y.length cy].toArray 96 (0, 0)) :: .row ary cry 59 3 (pry ++ Y.map Stp.cs) :: H) zpk ?_
            refine w_callF Try.func46 ?_ (hs := take_any _ hX (atoms_pos hsok) (Nat.le_refl _) (by omega) _ _ _)
            rintro v m H1 ⟨rfl, rfl, ax2, cx2, prx2, hX2, rfl⟩
            rw [restS_all] at hX2 ⊢
            rw [takeS_all hsok]
            (try (refine st_E18_1 ?_; intros))
            refine WL.heap (H' := .blk bu (.cells [.slice cu U.l.length cpu, str U.p, str U.d].toArray 98 (0, 0)) :: .row cu cpu 59 3 (U.l.map Stp.cs) :: .blk bs (.cells [.int .i64 s.k, str s.d, str s.p].toArray 59 (0, 0)) :: .blk bv (.cells [.slice cv V.l.length cpv, str V.p, str V.d].toArray 98 (0, 0)) :: .row cv cpv 59 3 (V.l.map Stp.cs) :: .blk x (.cells [.slice ax2 X.length cx2].toArray 96 (0, 0)) :: .row arx crx 59 3 (prx2 ++ X.map Stp.cs) :: .blk y (.cells [.slice ay Y.length cy].toArray 96 (0, 0)) :: .row ary cry 59 3 (pry ++ Y.map Stp.cs) :: H) zpk ?_
            refine w_callF Try.func45 ?_ (hs := step_any U s (by omega) (by omega) (by omega) (hU.mono (by omega)) _ _ _)
            rintro v m H1 ⟨rfl, rfl, c2, cp2, rfl⟩
            (try (refine st_E18_1 ?_; intros))
            refine WL.heap (H' := .blk bv (.cells [.slice cv V.l.length cpv, str V.p, str V.d].toArray 98 (0, 0)) :: .row cv cpv 59 3 (V.l.map Stp.cs) :: .blk bs (.cells [.int .i64 s.k, str s.d, str s.p].toArray 59 (0, 0)) :: .blk bu (.cells [.slice c2 (U.step s).l.length cp2, str (U.step s).p, str (U.step s).d].toArray 98 (0, 0)) :: .row c2 cp2 59 3 ((U.step s).l.map Stp.cs) :: .blk x (.cells [.slice ax2 X.length cx2].toArray 96 (0, 0)) :: .row arx crx 59 3 (prx2 ++ X.map Stp.cs) :: .blk y (.cells [.slice ay Y.length cy].toArray 96 (0, 0)) :: .row ary cry 59 3 (pry ++ Y.map Stp.cs) :: H) zpk ?_
            refine w_callF Try.func55 ?_ (hs := keep_any V s.p.length (by omega) (hV.mono (by omega)) _ _ _)
            rintro v m H1 ⟨rfl, rfl, c3, cp3, rfl⟩
            (try (refine st_E18_1 ?_; intros))
            rw [eal]
            refine WQ.next ((atomsOf (X)).length + (atomsOf (Y)).length) ⟨k + 4 * s.atoms.length, c2, cp2, U.step s, c3, cp3, V.keep s.p.length, al + s.p.length, ax2, cx2, prx2, X, ay, cy, pry, Y, rfl, rfl, rfl, rfl, rfl, ?_, ?_, ?_, ?_, ?_, ?_⟩ (by omega) zsb zpk
            · exact hX2
            · exact hY
            · exact bfit_step hU hsok
            · exact hV.keep.mono (by omega)
            · omega
            · rw [← ht, cst_px hsok hc1]
      · have e : carP a b = .inl 5 := by simp only [carP, hsa, hsb]; rw [if_pos hmf]
        rw [e]
        (try (refine st_E18_1 ?_; intros))
        exact q_fin0 (H0 := H) ⟨rfl, rfl, rfl⟩ (hd := zpk)
end Go.Proofs.Ytelgegefmjlimaa

/-
  Plain facts on changes: how long what is carried is; a change carried over many. No condition.
-/
namespace Go.Eng
open Go
theorem fit_plain {l : List Stp} {f t : Int} (hs : sizesOf l = some (f, t)) : Fit (plainOf l) := by
  obtain ⟨hok, _, _, h1, h2, _, h4, _, h6⟩ := sized hs
  obtain ⟨n1, n2⟩ := nf_sizes l hok
  rw [plain_list]
  exact fit_list (by omega) (by omega)
theorem carA_sizes : ∀ (xs ys : List Atm) (o : List Atm × List Atm), carA xs ys = some o → fromA o.1 ≤ toA ys ∧ fromA o.2 ≤ toA xs ∧ toA o.1 = toA o.2
  | .p b :: xs, ys, o, h => by
    rw [carA_px] at h
    obtain ⟨q, h1, rfl⟩ := Option.map_eq_some_iff.1 h
    have := carA_sizes xs ys q h1
    simp only [fromA, toA]; omega
  | [], .p b :: ys, o, h => by
    rw [carA] at h
    obtain ⟨q, h1, rfl⟩ := Option.map_eq_some_iff.1 h
    have := carA_sizes [] ys q h1
    simp only [fromA, toA] at *; omega
  | .k :: xs, .p b :: ys, o, h => by
    rw [carA] at h
    obtain ⟨q, h1, rfl⟩ := Option.map_eq_some_iff.1 h
    have := carA_sizes (.k :: xs) ys q h1
    simp only [fromA, toA] at *; omega
  | .d c :: xs, .p b :: ys, o, h => by
    rw [carA] at h
    obtain ⟨q, h1, rfl⟩ := Option.map_eq_some_iff.1 h
    have := carA_sizes (.d c :: xs) ys q h1
    simp only [fromA, toA] at *; omega
  | .k :: xs, .k :: ys, o, h => by
    rw [carA] at h
    obtain ⟨q, h1, rfl⟩ := Option.map_eq_some_iff.1 h
    have := carA_sizes xs ys q h1
    simp only [fromA, toA] at *; omega
  | .d b :: xs, .k :: ys, o, h => by
    rw [carA] at h
    obtain ⟨q, h1, rfl⟩ := Option.map_eq_some_iff.1 h
    have := carA_sizes xs ys q h1
    simp only [fromA, toA] at *; omega
  | .k :: xs, .d b :: ys, o, h => by
    rw [carA] at h
    obtain ⟨q, h1, rfl⟩ := Option.map_eq_some_iff.1 h
    have := carA_sizes xs ys q h1
    simp only [fromA, toA] at *; omega
  | .d b :: xs, .d c :: ys, o, h => by
    rw [carA] at h
    split at h
    · have := carA_sizes xs ys o h
      simp only [fromA, toA] at *; omega
    · cases h
  | [], [], o, h => by rw [carA] at h; cases h; simp [fromA, toA]
  | [], .k :: _, o, h => by rw [carA] at h; cases h; simp [fromA, toA]
  | [], .d _ :: _, o, h => by rw [carA] at h; cases h; simp [fromA, toA]
  | .k :: _, [], o, h => by rw [carA] at h; cases h; simp [fromA, toA]
  | .d _ :: _, [], o, h => by rw [carA] at h; cases h; simp [fromA, toA]
termination_by xs ys => xs.length + ys.length
theorem car_cases (a b : List Stp) : (∃ e : Int, e ≠ 0 ∧ carP a b = .inl e) ∨ (∃ U V, carP a b = .inr (listOf U, listOf V) ∧ fromA U ≤ 65536 ∧ toA U ≤ 65536 ∧ fromA V ≤ 65536 ∧ toA V ≤ 65536) := by
  unfold carP
  cases hsa : sizesOf a with
  | none => exact .inl ⟨2, by decide, rfl⟩
  | some fa =>
    obtain ⟨fa, ta⟩ := fa
    cases hsb : sizesOf b with
    | none => exact .inl ⟨2, by decide, rfl⟩
    | some fb =>
      obtain ⟨fb, tb⟩ := fb
      simp only
      by_cases hf : fa = fb
      · rw [if_neg (by simp [hf]), carT_list]
        cases ho : carA (nfOf (gapsOf a)) (nfOf (gapsOf b)) with
        | none => exact .inl ⟨270, by decide, rfl⟩
        | some o =>
          obtain ⟨h1, h2, h3⟩ := carA_sizes _ _ _ ho
          obtain ⟨_, _, a3⟩ := nf_len hsa
          obtain ⟨_, _, b3⟩ := nf_len hsb
          obtain ⟨_, _, _, _, _, _, _, _, a4⟩ := sized hsa
          obtain ⟨_, _, _, _, _, _, _, _, b4⟩ := sized hsb
          simp only [Option.map_some]
          by_cases hn : 65536 < 0 + toA o.1
          · rw [if_pos hn]; exact .inl ⟨3, by decide, rfl⟩
          · rw [if_neg hn]; exact .inr ⟨o.1, o.2, rfl, by omega, by omega, by omega, by omega⟩
      · rw [if_pos hf]; exact .inl ⟨5, by decide, rfl⟩
/-- a change carried over a sent one -/
def overP (hand h : Int) (x c : List Stp) : Int ⊕ List Stp := if h ≤ hand then (match carP x c with | .inl e => .inl e | .inr (_, v) => .inr v) else (match carP c x with | .inl e => .inl e | .inr (u, _) => .inr u)
theorem over_cases (hand h : Int) (x c : List Stp) : (∃ e : Int, e ≠ 0 ∧ overP hand h x c = .inl e) ∨ (∃ V, overP hand h x c = .inr (listOf V) ∧ fromA V ≤ 65536 ∧ toA V ≤ 65536) := by
  unfold overP
  split
  · rcases car_cases x c with ⟨e, he, h1⟩ | ⟨U, V, h1, h2, h3, h4, h5⟩
    · rw [h1]; exact .inl ⟨e, he, rfl⟩
    · rw [h1]; exact .inr ⟨V, rfl, h4, h5⟩
  · rcases car_cases c x with ⟨e, he, h1⟩ | ⟨U, V, h1, h2, h3, h4, h5⟩
    · rw [h1]; exact .inl ⟨e, he, rfl⟩
    · rw [h1]; exact .inr ⟨U, rfl, h2, h3⟩
theorem over_le_l {hand h : Int} {x c : List Stp} {e : Int} (hl : h ≤ hand) (hc : carP x c = .inl e) : overP hand h x c = .inl e := by unfold overP; rw [if_pos hl, hc]
theorem over_le_r {hand h : Int} {x c u v : List Stp} (hl : h ≤ hand) (hc : carP x c = .inr (u, v)) : overP hand h x c = .inr v := by unfold overP; rw [if_pos hl, hc]
theorem over_gt_l {hand h : Int} {x c : List Stp} {e : Int} (hl : ¬ h ≤ hand) (hc : carP c x = .inl e) : overP hand h x c = .inl e := by unfold overP; rw [if_neg hl, hc]
theorem over_gt_r {hand h : Int} {x c u v : List Stp} (hl : ¬ h ≤ hand) (hc : carP c x = .inr (u, v)) : overP hand h x c = .inr u := by unfold overP; rw [if_neg hl, hc]
/-- a change carried over many -/
def carriedP (hand : Int) : List (Int × List Stp) → List Stp → Int ⊕ List Stp
  | [], c => .inr c
  | x :: K, c => match overP hand x.1 x.2 c with | .inl e => .inl e | .inr v => carriedP hand K v
theorem carried_l {hand : Int} {x : Int × List Stp} {K : List (Int × List Stp)} {c : List Stp} {e : Int} (h : overP hand x.1 x.2 c = .inl e) : carriedP hand (x :: K) c = .inl e := by rw [carriedP, h]
theorem carried_r {hand : Int} {x : Int × List Stp} {K : List (Int × List Stp)} {c v : List Stp} (h : overP hand x.1 x.2 c = .inr v) : carriedP hand (x :: K) c = carriedP hand K v := by rw [carriedP, h]
end Go.Eng

/-
  A walk's engine: calls of function values that bear what they have caught. No condition.
-/
set_option linter.all false
namespace Go.Eng
open Go Go.RowKit
section
variable {P : Program} {ro : Option Nat} {n : Nat} {w0 : World} {Q : Exit → Act → World → Prop} {r : Env} {ds : List Nat} {m : Mem} {H : SHeap} {ops : Array Oper} {l : List Oper} {d : Nat} {ty : TypeId} {pos : String} {after : Array Edge}
theorem WL.callV {f : FuncId} {fn : Func} {c : Code} {x : Operand} {args : List Operand} {vs cs : List Value} {ts : Array TypeId} {Post : Value → Mem → SHeap → Prop}
    (hx : r.ev x = some (.func (.func f) #[] cs.toArray)) (hf : P.funcs[f]? = some fn) (hname : (fn.name == "runtime.NumGoroutine") = false) (hb : fn.body = some c)
    (hv : r.evs args = some vs) (hd : Nat.blt d n = true) (hs : Does P f (vs ++ cs).toArray w0 m H Post) (h : ∀ v m' H', Post v m' H' → WL P ro n w0 ops Q l ((d, v) :: r) ds m' H') :
    WL P ro n w0 ops Q (⟨some d, .call ⟨.value x, args.toArray, ts⟩, ty, pos, after, none⟩ :: l) r ds m H := by
  refine .enter (fun d' e => by cases e; simpa [Nat.blt_eq] using hd) (fun _ h => by cases h) (fun tmps w ho _ => ?_) hs h
  have e1 := ho.evs (marks ds) hv
  have e2 := ho.ev (ds := marks ds) hx
  have h1 : fn.name ≠ "runtime.NumGoroutine" := by simpa using hname
  have h2 : ∀ a : Array Value, (callFunc f a).run P w = .ok (.enter f a) w := fun a => by simp [callFunc, hf, h1, hb]
  simp only [execOp, resolve, Sem.run_bind, List.map_toArray, e1]
  simp [e2, Deferred.ofValue, invoke, h2, Result.andThen]
end
end Go.Eng

/-
  The walks of a sheet's methods on any sheet: At, carried, Send. No condition.
-/
namespace Go.Eng
open Go Go.RowKit
/-- a change that a sheet keeps, and where it lies -/
structure Snt where
  h : Int
  l : List Stp
  left : Bool
  a : Option Addr
  cap : Nat
def Snt.cs (x : Snt) : List Value := sentV x.h x.a x.l.length x.cap x.left
def Snt.it (T : TypeId) (x : Snt) : Item := .row x.a x.cap T 3 (x.l.map Stp.cs)
def Snt.hl (x : Snt) : Int × List Stp := (x.h, x.l)
/-- a text, changed; none where the change does not fit -/
def applyT (s : List UInt8) (l : List Stp) : List UInt8 := match sizesOf l with
  | none => []
  | some (f, _) => if f ≠ s.length then [] else (applyA s (atomsOf l)).getD []
/-- what is wrong with it; 0: nothing -/
def applyE (s : List UInt8) (l : List Stp) : Int := match sizesOf l with
  | none => 2
  | some (f, _) => if f ≠ s.length then 5 else if (applyA s (atomsOf l)).isNone then 270 else 0
theorem applyV_TE (s : List UInt8) (l : List Stp) : applyV s l = .tuple #[str (applyT s l), .int .i64 (applyE s l)] := by
  unfold applyV applyT applyE
  cases hs : sizesOf l with
  | none => rfl
  | some ft =>
    obtain ⟨f, tt⟩ := ft
    simp only
    split
    · rfl
    · cases ha : applyA s (atomsOf l) with
      | none => rfl
      | some t => rfl
theorem applyE_ok {s : List UInt8} {l : List Stp} (h : applyE s l = 0) : ∃ tt, sizesOf l = some ((s.length : Int), tt) ∧ applyA s (atomsOf l) = some (applyT s l) := by
  unfold applyE at h
  unfold applyT
  cases hs : sizesOf l with
  | none => rw [hs] at h; cases h
  | some ft =>
    obtain ⟨f, tt⟩ := ft
    rw [hs] at h
    simp only at h ⊢
    split at h
    · cases h
    · rename_i hf
      have hf2 : f = s.length := by omega
      cases ha : applyA s (atomsOf l) with
      | none => rw [ha] at h; cases h
      | some t => rw [if_neg hf]; exact ⟨tt, by rw [hf2], rfl⟩
theorem applyT_bad {s : List UInt8} {l : List Stp} (h : applyE s l ≠ 0) : applyT s l = [] := by
  unfold applyE at h
  unfold applyT
  cases hs : sizesOf l with
  | none => rfl
  | some ft =>
    obtain ⟨f, tt⟩ := ft
    rw [hs] at h
    simp only at h ⊢
    split at h
    · rename_i hf; rw [if_pos hf]
    · rename_i hf
      cases ha : applyA s (atomsOf l) with
      | none => rw [if_neg hf]; rfl
      | some t => rw [ha] at h; exact absurd rfl h
theorem applyT_len (s : List UInt8) (l : List Stp) : (applyT s l).length ≤ 65536 := by
  by_cases h : applyE s l = 0
  · obtain ⟨tt, h1, h2⟩ := applyE_ok h
    have ht := apply_len _ _ _ h2
    obtain ⟨_, _, _, _, hto, _, _, _, hb⟩ := sized h1
    omega
  · rw [applyT_bad h]; exact Nat.zero_le _
/-- a revision's text -/
def textAt (first : List UInt8) (K : List Snt) : List UInt8 := K.foldl (fun t x => applyT t x.l) first
def atV (now first : List UInt8) (K : List Snt) (rev : Int) : Value := if rev < 0 ∨ (K.length : Int) < rev then .tuple #[str [], .int .i64 5] else if rev = K.length then okV now else okV (textAt first (K.take rev.toNat))
theorem textAt_snoc (first : List UInt8) (K : List Snt) (x : Snt) : textAt first (K ++ [x]) = applyT (textAt first K) x.l := by unfold textAt; rw [List.foldl_append]; rfl
theorem textAt_len {first : List UInt8} (h : first.length ≤ 1000000) (K : List Snt) : (textAt first K).length ≤ 1000000 := by
  rcases List.eq_nil_or_concat K with rfl | ⟨K, x, rfl⟩
  · exact h
  · rw [List.concat_eq_append, textAt_snoc]; have := applyT_len (textAt first K) x.l; omega
/-- what Send hands back -/
def sendR (first now : List UInt8) (K : List Snt) (hand rev : Int) (l : List Stp) : Int ⊕ List Stp :=
  if hand < 0 ∨ sizesOf l = none then .inl 2 else if rev < 0 ∨ (K.length : Int) < rev then .inl 5 else
  if applyE (if rev = K.length then now else textAt first (K.take rev.toNat)) l ≠ 0 then .inl (applyE (if rev = K.length then now else textAt first (K.take rev.toNat)) l) else
  if K.length = 1024 then .inl 3 else carriedP hand ((K.drop rev.toNat).map Snt.hl) (plainOf l)
theorem carried_cases (hand : Int) : ∀ (K : List (Int × List Stp)) (c : List Stp), Fit c → (∃ e : Int, e ≠ 0 ∧ carriedP hand K c = .inl e) ∨ (∃ d, carriedP hand K c = .inr d ∧ Fit d)
  | [], c, h => .inr ⟨c, rfl, h⟩
  | x :: K, c, h => by
    rcases over_cases hand x.1 x.2 c with ⟨e, he, h1⟩ | ⟨V, h1, h2, h3⟩
    · exact .inl ⟨e, he, carried_l h1⟩
    · rw [carried_r h1]; exact carried_cases hand K _ (fit_list h2 h3)
theorem subSl_zero (c : Option Addr) (cp n sz : Nat) : subSl c cp 0 n sz = .slice c n cp := by
  have : (c.map fun x => x.add 0) = c := by cases c with
    | none => rfl
    | some a => simp [Go.Addr.add]
  simp only [subSl, Nat.zero_mul, this, ite_self, Nat.sub_zero]
end Go.Eng
namespace Go.Proofs.Ytelgegefmjlimaa
open Go Go.Eng
set_option maxRecDepth 100000
set_option maxHeartbeats 4000000
set_option linter.all false
attribute [local irreducible] WL WC WQ QFun QLoop Does Q1 QRound QAssign Go.Addr.add
attribute [local irreducible] sizesOf sizesF applyV applyT applyE listOf plainOf applyA textAt carP overP carriedP
theorem at_gen {b : Nat} {now first : List UInt8} {ra : Option Addr} {cra : Nat} {K : List Snt} {rev : Int} (hl : K.length ≤ 1000000) (hf : ∀ x ∈ K, Fit x.l) (hfl : first.length ≤ 1000000) (w0 : World) (m : Mem) (H : SHeap) (hK : ∀ x ∈ K, x.it 59 ∈ H) :
    Does Try.prog 32 #[.pointer (some ⟨b, 0, none⟩), .int .i64 rev] w0 m (.blk b (.cells [str now, str first, .slice ra K.length cra].toArray 131 (0, 0)) :: .row ra cra 136 3 (K.map Snt.cs) :: H) (Gives (atV now first K rev) m (.blk b (.cells [str now, str first, .slice ra K.length cra].toArray 131 (0, 0)) :: .row ra cra 136 3 (K.map Snt.cs) :: H)) := by
  refine Does.of_body (args := [.pointer (some ⟨b, 0, none⟩), .int .i64 rev]) Try.func32 rfl Try.ntmps32 rfl ?_
  have hKl : (K.map Snt.cs).length = K.length := by simp
  unfold atV
  by_cases h0 : rev < 0
  · rw [if_pos (.inl h0)]
    (try (refine st ?_; intros))
    exact q_fin0 (H0 := .blk b (.cells [str now, str first, .slice ra K.length cra].toArray 131 (0, 0)) :: .row ra cra 136 3 (K.map Snt.cs) :: H) (Gives.mk rfl) (hd := zpk)
  · by_cases h1 : (K.length : Int) < rev
    · rw [if_pos (.inr h1)]
      (try (refine st ?_; intros))
      exact q_fin0 (H0 := .blk b (.cells [str now, str first, .slice ra K.length cra].toArray 131 (0, 0)) :: .row ra cra 136 3 (K.map Snt.cs) :: H) (Gives.mk rfl) (hd := zpk)
    · rw [if_neg (by omega)]
      by_cases h2 : rev = K.length
      · rw [if_pos h2]
        (try (refine st ?_; intros))
        exact q_fin0 (H0 := .blk b (.cells [str now, str first, .slice ra K.length cra].toArray 131 (0, 0)) :: .row ra cra 136 3 (K.map Snt.cs) :: H) (Gives.mk rfl) (hd := zpk)
      · rw [if_neg h2]
        obtain ⟨n, rfl⟩ : ∃ n : Nat, rev = (n : Int) := ⟨rev.toNat, by omega⟩
        rw [Int.toNat_natCast]
        refine WC.rowCap (a := ra) zhs fun hcap => ?_
        rw [hKl] at hcap
        (try (refine st ?_; intros))
        rw [subSl_zero]
        (try (refine st ?_; intros))
        refine WC.loopH [(48, .int .i64 ((0) : Int)), (47, .int .i64 (n : Int)), (46, .slice ra n cra), (6, str (first))] ?_ ?_ (fun j r ds m' H' => ∃ (i : Nat) (t : List UInt8), j = n - i ∧ r = [(48, .int .i64 (i : Int)), (47, .int .i64 (n : Int)), (46, .slice ra n cra), (6, str t)] ∧ ds = [] ∧ m = m' ∧ H' = .blk b (.cells [str now, str first, .slice ra K.length cra].toArray 131 (0, 0)) :: .row ra cra 136 3 (K.map Snt.cs) :: H ∧ (i ≤ n) ∧ (t = textAt first (K.take i))) (n - (0)) ⟨0, first, rfl, rfl, rfl, rfl, rfl, Nat.zero_le _, by unfold textAt; rfl⟩ ?_
        · (repeat (first | exact Env.Sub.nil | refine Env.Sub.cons rfl ?_))
        · exact zpk
        rintro j r ds m' H' ⟨i, t, rfl, rfl, rfl, rfl, rfl, hi, ht⟩
        have htl := textAt_len hfl (K.take i)
        rw [← ht] at htl
        by_cases hlt : i < n
        · obtain ⟨x, hx, hget, htk, hmem, hdr⟩ := at_idx (f := Snt.cs) (show i < K.length by omega)
          have hrx : RowR w0 m H 3 x.a (x.l.map Stp.cs) := RowR.row (hK x hmem)
          have hts := textAt_snoc first (K.take i) x
          rw [← htk, ← ht] at hts
          have hxs : x.cs = [.int .i64 x.h, .slice x.a x.l.length x.cap, .bool x.left] := rfl
          rw [hxs] at hget
          refine WC.rowSome (a := ra) (es := K.map Snt.cs) zhs (by omega) ?_
          rintro d0 rfl
          (refine st ?_; intros; rename_i bx)
          refine w_callF Try.func22 ?_ (hs := apply_any (hf x hmem) (by omega) _ _ _ hrx.more.more.more)
          rintro v m H1 ⟨rfl, rfl, rfl⟩
          rw [applyV_TE, ← hts]
          (try (refine st ?_; intros))
          refine WQ.next (n - (i + 1)) ⟨i + 1, textAt first (K.take (i + 1)), rfl, rfl, rfl, rfl, rfl, ?_, ?_⟩ (by omega) zsb zpk
          · omega
          · rfl
        · obtain rfl : i = n := by omega
          rw [ht]
          (try (refine st ?_; intros))
          exact q_fin0 (H0 := .blk b (.cells [str now, str first, .slice ra K.length cra].toArray 131 (0, 0)) :: .row ra cra 136 3 (K.map Snt.cs) :: H) (Gives.mk rfl) (hd := zpk)
theorem carried_gen {b g hb : Nat} {fn : Func} {cb : Code} {now first : List UInt8} {ra a : Option Addr} {cra cap n : Nat} {K : List Snt} {hand : Int} {c : List Stp} (hl : K.length ≤ 1000000) (hn : n ≤ K.length) (hf : ∀ x ∈ K, Fit x.l) (hc : Fit c)
    (hg : Try.prog.funcs[g]? = some fn) (hname : (fn.name == "runtime.NumGoroutine") = false) (hbd : fn.body = some cb) (w0 : World) (m : Mem) (H : SHeap)
    (hclo : ∀ (h : Int) (m : Mem) (H : SHeap), -9223372036854775808 ≤ h ∧ h ≤ 9223372036854775807 → Does Try.prog g #[.int .i64 h, .pointer (some ⟨hb, 0, none⟩)] w0 m (.blk hb (.cells [.int .i64 hand].toArray 3 (0, 0)) :: H) (Gives (.bool (dcd (h ≤ hand))) m (.blk hb (.cells [.int .i64 hand].toArray 3 (0, 0)) :: H)))
    (hh : ∀ x ∈ K, -9223372036854775808 ≤ x.h ∧ x.h ≤ 9223372036854775807) (hK : ∀ x ∈ K, x.it 59 ∈ H) :
    Does Try.prog 64 #[.pointer (some ⟨b, 0, none⟩), .slice a c.length cap, .int .i64 (n : Int), .func (.func g) #[] #[.pointer (some ⟨hb, 0, none⟩)]] w0 m (.blk b (.cells [str now, str first, .slice ra K.length cra].toArray 131 (0, 0)) :: .row ra cra 136 3 (K.map Snt.cs) :: .blk hb (.cells [.int .i64 hand].toArray 3 (0, 0)) :: .row a cap 59 3 (c.map Stp.cs) :: H)
      (fun v m' H' => m' = m ∧ match carriedP hand ((K.drop n).map Snt.hl) c with
        | .inl e => v = .tuple #[.slice none 0 0, .int .i64 e] ∧ H' = .blk b (.cells [str now, str first, .slice ra K.length cra].toArray 131 (0, 0)) :: .row ra cra 136 3 (K.map Snt.cs) :: .blk hb (.cells [.int .i64 hand].toArray 3 (0, 0)) :: H
        | .inr c' => ∃ a' cap', v = .tuple #[.slice a' c'.length cap', .int .i64 0] ∧ H' = .blk b (.cells [str now, str first, .slice ra K.length cra].toArray 131 (0, 0)) :: .row ra cra 136 3 (K.map Snt.cs) :: .blk hb (.cells [.int .i64 hand].toArray 3 (0, 0)) :: .row a' cap' 59 3 (c'.map Stp.cs) :: H) := by
  refine Does.of_body (args := [.pointer (some ⟨b, 0, none⟩), .slice a c.length cap, .int .i64 (n : Int), .func (.func g) #[] #[.pointer (some ⟨hb, 0, none⟩)]]) Try.func64 rfl Try.ntmps64 rfl ?_
  have hKl : (K.map Snt.cs).length = K.length := by simp
  refine WC.rowCap (a := ra) zhs fun hcap => ?_
  rw [hKl] at hcap
  have hsub : ∀ Hx, RowR w0 m (.blk b (.cells [str now, str first, .slice ra K.length cra].toArray 131 (0, 0)) :: .row ra cra 136 3 (K.map Snt.cs) :: Hx) 3 (if cra = n then ra else ra.map (·.add (n * 3))) ((K.drop n).map Snt.cs) := by
    intro Hx
    have h := RowR.subRow (w0 := w0) (m := m) (H := .blk b (.cells [str now, str first, .slice ra K.length cra].toArray 131 (0, 0)) :: .row ra cra 136 3 (K.map Snt.cs) :: Hx) (a := ra) (lo := n) (hi := K.length) zhs ⟨hn, by rw [hKl]; exact Nat.le_refl _⟩
    have e : ((K.map Snt.cs).take K.length).drop n = (K.drop n).map Snt.cs := by rw [List.map_drop, List.take_of_length_le (by rw [hKl]; exact Nat.le_refl _)]
    rwa [e] at h
  (try (refine st ?_; intros))
  unfold subSl
  generalize (if cra = n then ra else ra.map (·.add (n * 3))) = ra2 at *
  have hR : carriedP hand ((K.drop n).map Snt.hl) c = carriedP hand (((K.drop n).drop 0).map Snt.hl) c := by rw [List.drop_zero]
  rw [hR]
  have hDl : (K.drop n).length = K.length - n := by simp
  have hDs : ((K.drop n).map Snt.cs).length = (K.drop n).length := by simp
  have hDf : ∀ x ∈ K.drop n, Fit x.l := fun x hx => hf x (List.mem_of_mem_drop hx)
  have hDh : ∀ x ∈ K.drop n, -9223372036854775808 ≤ x.h ∧ x.h ≤ 9223372036854775807 := fun x hx => hh x (List.mem_of_mem_drop hx)
  have hDK : ∀ x ∈ K.drop n, x.it 59 ∈ H := fun x hx => hK x (List.mem_of_mem_drop hx)
  generalize K.drop n = D at *
  generalize hPo : carriedP hand ((D.drop 0).map Snt.hl) c = res
  refine WC.loopH [(20, .int .i64 ((0) : Int)), (19, .int .i64 ((K.length - n : Nat) : Int)), (18, .slice ra2 (K.length - n) (cra - n)), (1, .slice (a) (c).length (cap)), (3, .func (.func g) #[] #[.pointer (some ⟨hb, 0, none⟩)])] ?_ ?_ (fun j r ds m' H' => ∃ (i : Nat) (c : List Stp) (a : Option Addr) (cap : Nat), j = D.length - i ∧ r = [(20, .int .i64 (i : Int)), (19, .int .i64 ((K.length - n : Nat) : Int)), (18, .slice ra2 (K.length - n) (cra - n)), (1, .slice a c.length cap), (3, .func (.func g) #[] #[.pointer (some ⟨hb, 0, none⟩)])] ∧ ds = [] ∧ m = m' ∧ H' = .blk b (.cells [str now, str first, .slice ra K.length cra].toArray 131 (0, 0)) :: .row ra cra 136 3 (K.map Snt.cs) :: .blk hb (.cells [.int .i64 hand].toArray 3 (0, 0)) :: .row a cap 59 3 (c.map Stp.cs) :: H ∧ (i ≤ D.length) ∧ (Fit c) ∧ (carriedP hand ((D.drop i).map Snt.hl) c = res)) (D.length - (0)) ⟨0, c, a, cap, rfl, rfl, rfl, rfl, rfl, Nat.zero_le _, hc, hPo⟩ ?_
  · (repeat (first | exact Env.Sub.nil | refine Env.Sub.cons rfl ?_))
  · exact zpk
  rintro j r ds m' H' ⟨i, c, a, cap, rfl, rfl, rfl, rfl, rfl, hi, hc, hP⟩
  by_cases hlt : i < D.length
  · obtain ⟨x, hx, hget, htk, hmem, hdr⟩ := at_idx (f := Snt.cs) hlt
    have hrx : RowR w0 m H 3 x.a (x.l.map Stp.cs) := RowR.row (hDK x hmem)
    have hfx := hDf x hmem
    have hhx := hDh x hmem
    have hxs : x.cs = [.int .i64 x.h, .slice x.a x.l.length x.cap, .bool x.left] := rfl
    rw [hxs] at hget
    rw [hdr, List.map_cons] at hP
    have hr1 := hsub (.blk hb (.cells [.int .i64 hand].toArray 3 (0, 0)) :: .row a cap 59 3 (c.map Stp.cs) :: H)
    refine WC.rSome hr1 (by omega) ?_
    rintro d0 rfl
    (refine st ?_; intros; rename_i bx)
    refine WL.heap (H' := .blk hb (.cells [.int .i64 hand].toArray 3 (0, 0)) :: .blk bx (.cells [.int .i64 x.h, .slice x.a x.l.length x.cap, .bool x.left].toArray 136 (0, 0)) :: .blk b (.cells [str now, str first, .slice ra K.length cra].toArray 131 (0, 0)) :: .row ra cra 136 3 (K.map Snt.cs) :: .row a cap 59 3 (c.map Stp.cs) :: H) zpk ?_
    refine WL.callV rfl hg hname hbd (by exact rfl) (by exact rfl) (hclo x.h _ _ hhx) ?_
    rintro v m H1 ⟨rfl, rfl, rfl⟩
    by_cases hle : x.h ≤ hand
    · skip
      (try (refine st ?_; intros))
      refine w_callF Try.func27 ?_ (hs := carry_any hfx hc _ _ _ hrx.more.more.more.more.more (RowR.row (a := a) zhs))
      rintro v m H1 ⟨rfl, hv⟩
      rcases car_cases x.l c with ⟨e, he, h1⟩ | ⟨U, V, h1, h2, h3, h4, h5⟩
      · rw [h1] at hv
        obtain ⟨rfl, rfl⟩ := hv
        rw [carried_l (x := x.hl) (over_le_l hle h1)] at hP
        (try (refine st ?_; intros))
        rw [← hP]
        exact q_fin0 (H0 := .blk b (.cells [str now, str first, .slice ra K.length cra].toArray 131 (0, 0)) :: .row ra cra 136 3 (K.map Snt.cs) :: .blk hb (.cells [.int .i64 hand].toArray 3 (0, 0)) :: H) ⟨rfl, rfl, rfl⟩ (hd := zpk)
      · rw [h1] at hv
        obtain ⟨c2, cp2, c3, cp3, rfl, rfl⟩ := hv
        rw [carried_r (x := x.hl) (over_le_r hle h1)] at hP
        have hfV := fit_list h4 h5
        generalize listOf V = V at *
        (try (refine st ?_; intros))
        refine WQ.next (D.length - (i + 1)) ⟨i + 1, V, c3, cp3, rfl, rfl, rfl, rfl, rfl, ?_, ?_, ?_⟩ (by omega) zsb zpk
        · omega
        · exact hfV
        · exact hP
    · skip
      (try (refine st ?_; intros))
      refine w_callF Try.func27 ?_ (hs := carry_any hc hfx _ _ _ (RowR.row (a := a) zhs) hrx.more.more.more.more.more)
      rintro v m H1 ⟨rfl, hv⟩
      rcases car_cases c x.l with ⟨e, he, h1⟩ | ⟨U, V, h1, h2, h3, h4, h5⟩
      · rw [h1] at hv
        obtain ⟨rfl, rfl⟩ := hv
        rw [carried_l (x := x.hl) (over_gt_l hle h1)] at hP
        (try (refine st ?_; intros))
        rw [← hP]
        exact q_fin0 (H0 := .blk b (.cells [str now, str first, .slice ra K.length cra].toArray 131 (0, 0)) :: .row ra cra 136 3 (K.map Snt.cs) :: .blk hb (.cells [.int .i64 hand].toArray 3 (0, 0)) :: H) ⟨rfl, rfl, rfl⟩ (hd := zpk)
      · rw [h1] at hv
        obtain ⟨c2, cp2, c3, cp3, rfl, rfl⟩ := hv
        rw [carried_r (x := x.hl) (over_gt_r hle h1)] at hP
        have hfU := fit_list h2 h3
        generalize listOf U = U at *
        (try (refine st ?_; intros))
        refine WQ.next (D.length - (i + 1)) ⟨i + 1, U, c2, cp2, rfl, rfl, rfl, rfl, rfl, ?_, ?_, ?_⟩ (by omega) zsb zpk
        · omega
        · exact hfU
        · exact hP
  · obtain rfl : i = D.length := by omega
    rw [List.drop_length, List.map_nil, carriedP] at hP
    (try (refine st ?_; intros))
    rw [← hP]
    exact q_fin0 (H0 := .blk b (.cells [str now, str first, .slice ra K.length cra].toArray 131 (0, 0)) :: .row ra cra 136 3 (K.map Snt.cs) :: .blk hb (.cells [.int .i64 hand].toArray 3 (0, 0)) :: .row a cap 59 3 (c.map Stp.cs) :: H) ⟨rfl, a, cap, rfl, rfl⟩ (hd := zpk)
theorem make_gen {b : Nat} {now first : List UInt8} {ra : Option Addr} {cra : Nat} {K : List Snt} {hand : Int} {a : Option Addr} {cap : Nat} {l : List Stp} {left : Bool} (hl : K.length ≤ 1000000) (hf : Fit l) (hn : now.length ≤ 1000000) (w0 : World) (m : Mem) (H : SHeap) (hr : RowR w0 m H 3 a (l.map Stp.cs)) :
    Does Try.prog 66 #[.pointer (some ⟨b, 0, none⟩), .int .i64 hand, .slice a l.length cap, .bool left] w0 m (.blk b (.cells [str now, str first, .slice ra K.length cra].toArray 131 (0, 0)) :: .row ra cra 136 3 (K.map Snt.cs) :: H)
      (fun v m' H' => m' = m ∧ ∃ c cp ra' cra', v = .slice c l.length cp ∧ H' = .row c cp 59 3 (l.map Stp.cs) :: .blk b (.cells [str (applyT now l), str first, .slice ra' (K ++ [Snt.mk hand l left a cap]).length cra'].toArray 131 (0, 0)) :: .row ra' cra' 136 3 ((K ++ [Snt.mk hand l left a cap]).map Snt.cs) :: H) := by
  refine Does.of_body (args := [.pointer (some ⟨b, 0, none⟩), .int .i64 hand, .slice a l.length cap, .bool left]) Try.func66 rfl Try.ntmps66 rfl ?_
  have hlen := hf.len
  have hKl : (K.map Snt.cs).length = K.length := by simp
  (try (refine st ?_; intros))
  refine w_callF Try.func22 ?_ (hs := apply_any hf (by omega) _ _ _ hr.more.more)
  rintro v m H1 ⟨rfl, rfl, rfl⟩
  rw [applyV_TE]
  (refine st ?_; intros; rename_i q ra2 cra2)
  refine w_callF Try.func77 ?_ (hs := clone_any (by omega) _ _ _ hr.more.more.more)
  rintro v m H1 ⟨rfl, c3, cp3, rfl, rfl⟩
  (try (refine st ?_; intros))
  have e1 : (K ++ [Snt.mk hand l left a cap]).length = K.length + 1 := by simp
  have e2 : (K ++ [Snt.mk hand l left a cap]).map Snt.cs = K.map Snt.cs ++ [sentV hand a l.length cap left] := by rw [List.map_append]; rfl
  rw [hKl]
  exact q_fin0 (H0 := .row c3 cp3 59 3 (l.map Stp.cs) :: .blk b (.cells [str (applyT now l), str first, .slice ra2 (K.length + 1) cra2].toArray 131 (0, 0)) :: .row ra2 cra2 136 3 (K.map Snt.cs ++ [sentV hand a l.length cap left]) :: H) ⟨rfl, c3, cp3, ra2, cra2, rfl, by rw [e1, e2]⟩ (hd := zpk)
theorem first_any {hb : Nat} {hand h : Int} (w0 : World) (m : Mem) (H : SHeap) :
    Does Try.prog 65 #[.int .i64 h, .pointer (some ⟨hb, 0, none⟩)] w0 m (.blk hb (.cells [.int .i64 hand].toArray 3 (0, 0)) :: H) (Gives (.bool (dcd (h ≤ hand))) m (.blk hb (.cells [.int .i64 hand].toArray 3 (0, 0)) :: H)) := by
  refine Does.of_body (args := [.int .i64 h, .pointer (some ⟨hb, 0, none⟩)]) Try.func65 rfl Try.ntmps65 rfl ?_
  (try (refine st ?_; intros))
  exact q_fin0 (H0 := .blk hb (.cells [.int .i64 hand].toArray 3 (0, 0)) :: H) (Gives.mk rfl) (hd := zpk)
def SendG (T1 T2 T3 : TypeId) (b : Nat) (now first : List UInt8) (ra : Option Addr) (cra : Nat) (K : List Snt) (hand : Int) (m : Mem) (H : SHeap) (res : Int ⊕ List Stp) : Value → Mem → SHeap → Prop := fun v m' H' => m' = m ∧ match res with
  | .inl e => v = .tuple #[.slice none 0 0, .int .i64 e] ∧ H' = .blk b (.cells [str now, str first, .slice ra K.length cra].toArray T1 (0, 0)) :: .row ra cra T3 3 (K.map Snt.cs) :: H
  | .inr d => ∃ c cp a cap ra' cra', v = .tuple #[.slice c d.length cp, .int .i64 0] ∧ H' = .row c cp T2 3 (d.map Stp.cs) :: .blk b (.cells [str (applyT now d), str first, .slice ra' (K ++ [Snt.mk hand d true a cap]).length cra'].toArray T1 (0, 0)) :: .row ra' cra' T3 3 ((K ++ [Snt.mk hand d true a cap]).map Snt.cs) :: .row a cap T2 3 (d.map Stp.cs) :: H
theorem sq_E38_1 {G : Prop} (h : G := by (repeat (first | (refine sp ?_; (repeat intro zzc)) | (refine iF 40 rfl ?_; refine w_callG Try.func40 ?_ (hs := sizes_any (by assumption) _ _ _ (by assumption))))); exact WQ.q1 rfl) : G := h
theorem st_E38_1 {G G' : Prop} (next : G') (h : Bx G' → G := by intro zzn; (first | ((refine st ?_; (repeat intro zzc)); (try ((first | (refine iF 40 rfl ?_; refine w_callG Try.func40 ?_ (hs := sizes_any (by assumption) _ _ _ (by assumption))) | ((refine iDraw ?_; (first | refine WC.drawAll rfl (by decide +kernel) ?_ | refine WC.draw 1 rfl (by decide +kernel) ?_ | refine WC.draw 2 rfl (by decide +kernel) ?_ | refine WC.draw 3 rfl (by decide +kernel) ?_ | refine WC.draw 4 rfl (by decide +kernel) ?_ | refine WC.draw 5 rfl (by decide +kernel) ?_ | refine WC.draw 6 rfl (by decide +kernel) ?_ | refine WC.draw 7 rfl (by decide +kernel) ?_ | refine WC.draw 8 rfl (by decide +kernel) ?_ | refine WC.draw 9 rfl (by decide +kernel) ?_ | refine WC.draw 10 rfl (by decide +kernel) ?_ | refine WC.draw 11 rfl (by decide +kernel) ?_ | refine WC.draw 12 rfl (by decide +kernel) ?_ | refine WC.draw 13 rfl (by decide +kernel) ?_ | refine WC.draw 14 rfl (by decide +kernel) ?_ | refine WC.draw 15 rfl (by decide +kernel) ?_ | refine WC.draw 16 rfl (by decide +kernel) ?_ | refine WC.draw 17 rfl (by decide +kernel) ?_ | refine WC.draw 18 rfl (by decide +kernel) ?_ | refine WC.draw 19 rfl (by decide +kernel) ?_ | refine WC.draw 20 rfl (by decide +kernel) ?_ | refine WC.draw 21 rfl (by decide +kernel) ?_ | refine WC.draw 22 rfl (by decide +kernel) ?_ | refine WC.draw 23 rfl (by decide +kernel) ?_ | refine WC.draw 24 rfl (by decide +kernel) ?_)); (repeat (refine WD.cons rfl (fun c h => by cases h) sq_E38_1 ?_)); refine WD.nil ?_)); (try (refine st ?_; (repeat intro zzc)))))) | ((first | (refine iF 40 rfl ?_; refine w_callG Try.func40 ?_ (hs := sizes_any (by assumption) _ _ _ (by assumption))) | ((refine iDraw ?_; (first | refine WC.drawAll rfl (by decide +kernel) ?_ | refine WC.draw 1 rfl (by decide +kernel) ?_ | refine WC.draw 2 rfl (by decide +kernel) ?_ | refine WC.draw 3 rfl (by decide +kernel) ?_ | refine WC.draw 4 rfl (by decide +kernel) ?_ | refine WC.draw 5 rfl (by decide +kernel) ?_ | refine WC.draw 6 rfl (by decide +kernel) ?_ | refine WC.draw 7 rfl (by decide +kernel) ?_ | refine WC.draw 8 rfl (by decide +kernel) ?_ | refine WC.draw 9 rfl (by decide +kernel) ?_ | refine WC.draw 10 rfl (by decide +kernel) ?_ | refine WC.draw 11 rfl (by decide +kernel) ?_ | refine WC.draw 12 rfl (by decide +kernel) ?_ | refine WC.draw 13 rfl (by decide +kernel) ?_ | refine WC.draw 14 rfl (by decide +kernel) ?_ | refine WC.draw 15 rfl (by decide +kernel) ?_ | refine WC.draw 16 rfl (by decide +kernel) ?_ | refine WC.draw 17 rfl (by decide +kernel) ?_ | refine WC.draw 18 rfl (by decide +kernel) ?_ | refine WC.draw 19 rfl (by decide +kernel) ?_ | refine WC.draw 20 rfl (by decide +kernel) ?_ | refine WC.draw 21 rfl (by decide +kernel) ?_ | refine WC.draw 22 rfl (by decide +kernel) ?_ | refine WC.draw 23 rfl (by decide +kernel) ?_ | refine WC.draw 24 rfl (by decide +kernel) ?_)); (repeat (refine WD.cons rfl (fun c h => by cases h) sq_E38_1 ?_)); refine WD.nil ?_)); (try (refine st ?_; (repeat intro zzc))))); (repeat ((first | (refine iF 40 rfl ?_; refine w_callG Try.func40 ?_ (hs := sizes_any (by assumption) _ _ _ (by assumption))) | ((refine iDraw ?_; (first | refine WC.drawAll rfl (by decide +kernel) ?_ | refine WC.draw 1 rfl (by decide +kernel) ?_ | refine WC.draw 2 rfl (by decide +kernel) ?_ | refine WC.draw 3 rfl (by decide +kernel) ?_ | refine WC.draw 4 rfl (by decide +kernel) ?_ | refine WC.draw 5 rfl (by decide +kernel) ?_ | refine WC.draw 6 rfl (by decide +kernel) ?_ | refine WC.draw 7 rfl (by decide +kernel) ?_ | refine WC.draw 8 rfl (by decide +kernel) ?_ | refine WC.draw 9 rfl (by decide +kernel) ?_ | refine WC.draw 10 rfl (by decide +kernel) ?_ | refine WC.draw 11 rfl (by decide +kernel) ?_ | refine WC.draw 12 rfl (by decide +kernel) ?_ | refine WC.draw 13 rfl (by decide +kernel) ?_ | refine WC.draw 14 rfl (by decide +kernel) ?_ | refine WC.draw 15 rfl (by decide +kernel) ?_ | refine WC.draw 16 rfl (by decide +kernel) ?_ | refine WC.draw 17 rfl (by decide +kernel) ?_ | refine WC.draw 18 rfl (by decide +kernel) ?_ | refine WC.draw 19 rfl (by decide +kernel) ?_ | refine WC.draw 20 rfl (by decide +kernel) ?_ | refine WC.draw 21 rfl (by decide +kernel) ?_ | refine WC.draw 22 rfl (by decide +kernel) ?_ | refine WC.draw 23 rfl (by decide +kernel) ?_ | refine WC.draw 24 rfl (by decide +kernel) ?_)); (repeat (refine WD.cons rfl (fun c h => by cases h) sq_E38_1 ?_)); refine WD.nil ?_)); (try (refine st ?_; (repeat intro zzc))))); (repeat revert zzc); exact zzn.out) : G := h ⟨next⟩
theorem send_gen {b : Nat} {now first : List UInt8} {ra : Option Addr} {cra : Nat} {K : List Snt} {hand rev : Int} {pa : Option Addr} {ca : Nat} {l : List Stp} (hl : K.length ≤ 1000000) (hf : ∀ x ∈ K, Fit x.l) (hh : ∀ x ∈ K, -9223372036854775808 ≤ x.h ∧ x.h ≤ 9223372036854775807)
    (hfl : first.length ≤ 1000000) (hnl : now.length ≤ 1000000) (hfit : Fit l) (w0 : World) (m : Mem) (H : SHeap) (hK : ∀ x ∈ K, x.it 59 ∈ H) (hr0 : RowR w0 m H 3 pa (l.map Stp.cs)) :
    Does Try.prog 31 #[.pointer (some ⟨b, 0, none⟩), .int .i64 hand, .int .i64 rev, .slice pa l.length ca] w0 m (.blk b (.cells [str now, str first, .slice ra K.length cra].toArray 131 (0, 0)) :: .row ra cra 136 3 (K.map Snt.cs) :: H) (SendG 131 59 136 b now first ra cra K hand m H (sendR first now K hand rev l)) := by
  refine Does.of_body (args := [.pointer (some ⟨b, 0, none⟩), .int .i64 hand, .int .i64 rev, .slice pa l.length ca]) Try.func31 rfl Try.ntmps31 rfl ?_
  (refine st_E38_1 ?_; intros; rename_i bh)
  refine w_callF Try.func40 ?_ (hs := sizes_any hfit _ _ _ hr0.more.more.more)
  rintro v m H1 ⟨rfl, rfl, rfl⟩
  generalize hR : sendR first now K hand rev l = R
  unfold sendR at hR
  cases hs : sizesOf l with
  | none =>
    rw [if_pos (.inr hs)] at hR
    subst hR
    rw [show szP none = .tuple #[.int .i64 0, .int .i64 0, .int .i64 2] from rfl]
    by_cases hh0 : hand < 0
    · (try (refine st_E38_1 ?_; intros))
      exact q_fin0 (H0 := .blk b (.cells [str now, str first, .slice ra K.length cra].toArray 131 (0, 0)) :: .row ra cra 136 3 (K.map Snt.cs) :: H) ⟨rfl, rfl, rfl⟩ (hd := zpk)
    · (try (refine st_E38_1 ?_; intros))
      exact q_fin0 (H0 := .blk b (.cells [str now, str first, .slice ra K.length cra].toArray 131 (0, 0)) :: .row ra cra 136 3 (K.map Snt.cs) :: H) ⟨rfl, rfl, rfl⟩ (hd := zpk)
  | some ft =>
    obtain ⟨f, t⟩ := ft
    rw [show szP (some (f, t)) = .tuple #[.int .i64 f, .int .i64 t, .int .i64 0] from rfl]
    obtain ⟨hok, hal, hpl, _⟩ := sized hs
    have hfp := fit_plain hs
    by_cases hh0 : hand < 0
    · rw [if_pos (.inl hh0)] at hR
      subst hR
      (try (refine st_E38_1 ?_; intros))
      exact q_fin0 (H0 := .blk b (.cells [str now, str first, .slice ra K.length cra].toArray 131 (0, 0)) :: .row ra cra 136 3 (K.map Snt.cs) :: H) ⟨rfl, rfl, rfl⟩ (hd := zpk)
    · rw [if_neg (by rw [hs]; simp; omega)] at hR
      (try (refine st_E38_1 ?_; intros))
      refine WL.heap (H' := .blk b (.cells [str now, str first, .slice ra K.length cra].toArray 131 (0, 0)) :: .row ra cra 136 3 (K.map Snt.cs) :: .blk bh (.cells [.int .i64 hand].toArray 3 (0, 0)) :: H) zpk ?_
      refine w_callF Try.func32 ?_ (hs := at_gen hl hf hfl _ _ _ (fun x hx => List.mem_cons_of_mem _ (hK x hx)))
      rintro v m H1 ⟨rfl, rfl, rfl⟩
      unfold atV
      by_cases hrv : rev < 0 ∨ (K.length : Int) < rev
      · rw [if_pos hrv] at hR ⊢
        subst hR
        (try (refine st_E38_1 ?_; intros))
        exact q_fin0 (H0 := .blk b (.cells [str now, str first, .slice ra K.length cra].toArray 131 (0, 0)) :: .row ra cra 136 3 (K.map Snt.cs) :: H) ⟨rfl, rfl, rfl⟩ (hd := zpk)
      · rw [if_neg hrv] at hR ⊢
        obtain ⟨u, hu, hul⟩ : ∃ u : List UInt8, (if rev = K.length then now else textAt first (K.take rev.toNat)) = u ∧ u.length ≤ 1000000 := by
          refine ⟨_, rfl, ?_⟩
          split
          · exact hnl
          · exact textAt_len hfl _
        have ev : (if rev = K.length then okV now else okV (textAt first (K.take rev.toNat))) = okV u := by rw [← hu]; split <;> rfl
        rw [hu] at hR
        rw [ev, okV]
        obtain ⟨n, rfl⟩ : ∃ n : Nat, rev = (n : Int) := ⟨rev.toNat, by omega⟩
        (try (refine st_E38_1 ?_; intros))
        refine w_callF Try.func22 ?_ (hs := apply_any hfit (by omega) _ _ _ hr0.more.more.more)
        rintro v m H1 ⟨rfl, rfl, rfl⟩
        rw [applyV_TE]
        by_cases hea : applyE u l = 0
        rotate_left
        · rw [if_pos hea] at hR
          subst hR
          (try (refine st_E38_1 ?_; intros))
          exact q_fin0 (H0 := .blk b (.cells [str now, str first, .slice ra K.length cra].toArray 131 (0, 0)) :: .row ra cra 136 3 (K.map Snt.cs) :: H) ⟨rfl, rfl, rfl⟩ (hd := zpk)
        · rw [if_neg (by simp [hea])] at hR
          by_cases hm1 : K.length = 1024
          · rw [if_pos hm1] at hR
            subst hR
            (try (refine st_E38_1 ?_; intros))
            exact q_fin0 (H0 := .blk b (.cells [str now, str first, .slice ra K.length cra].toArray 131 (0, 0)) :: .row ra cra 136 3 (K.map Snt.cs) :: H) ⟨rfl, rfl, rfl⟩ (hd := zpk)
          · rw [if_neg hm1, Int.toNat_natCast] at hR
            (try (refine st_E38_1 ?_; intros))
            refine w_callF Try.func42 ?_ (hs := plain_any hok (by omega) _ _ _ hr0.more.more.more)
            rintro v m H1 ⟨rfl, c1, cp1, rfl, rfl⟩
            (try (refine st_E38_1 ?_; intros))
            refine WL.heap (H' := .blk b (.cells [str now, str first, .slice ra K.length cra].toArray 131 (0, 0)) :: .row ra cra 136 3 (K.map Snt.cs) :: .blk bh (.cells [.int .i64 hand].toArray 3 (0, 0)) :: .row c1 cp1 59 3 ((plainOf l).map Stp.cs) :: H) zpk ?_
            refine w_callF Try.func64 ?_ (hs := carried_gen hl (by omega) hf hfp Try.func65 rfl rfl _ _ _ (fun h m H _ => first_any _ m H) hh hK)
            rintro v m H1 ⟨rfl, hv⟩
            rw [hR] at hv
            rcases carried_cases hand ((K.drop n).map Snt.hl) _ hfp with ⟨e, he, h1⟩ | ⟨d, h1, hfd⟩
            · rw [h1] at hR
              subst hR
              obtain ⟨rfl, rfl⟩ := hv
              (try (refine st_E38_1 ?_; intros))
              exact q_fin0 (H0 := .blk b (.cells [str now, str first, .slice ra K.length cra].toArray 131 (0, 0)) :: .row ra cra 136 3 (K.map Snt.cs) :: H) ⟨rfl, rfl, rfl⟩ (hd := zpk)
            · rw [h1] at hR
              subst hR
              obtain ⟨a2, cap2, rfl, rfl⟩ := hv
              (try (refine st_E38_1 ?_; intros))
              refine WL.heap (H' := .blk b (.cells [str now, str first, .slice ra K.length cra].toArray 131 (0, 0)) :: .row ra cra 136 3 (K.map Snt.cs) :: .row a2 cap2 59 3 (d.map Stp.cs) :: H) zpk ?_
              refine w_callF Try.func66 ?_ (hs := make_gen hl hfd hnl _ _ _ (RowR.row (a := a2) zhs))
              rintro v m H1 ⟨rfl, c, cp, ra3, cra3, rfl, rfl⟩
              (try (refine st_E38_1 ?_; intros))
              exact q_fin0 (H0 := .row c cp 59 3 (d.map Stp.cs) :: .blk b (.cells [str (applyT now d), str first, .slice ra3 (K ++ [Snt.mk hand d true a2 cap2]).length cra3].toArray 131 (0, 0)) :: .row ra3 cra3 136 3 ((K ++ [Snt.mk hand d true a2 cap2]).map Snt.cs) :: .row a2 cap2 59 3 (d.map Stp.cs) :: H) ⟨rfl, c, cp, a2, cap2, ra3, cra3, rfl, rfl⟩ (hd := zpk)
end Go.Proofs.Ytelgegefmjlimaa

/-
  Plain facts on changes: turned about; their one form. No condition.
-/
namespace Go.Eng
open Go
def Atm.inv : Atm → Atm
  | .k => .k
  | .d b => .p b
  | .p b => .d b
def Stp.inv (s : Stp) : Stp := ⟨s.k, s.p, s.d⟩
def Gap.inv (g : Gap) : Gap := ⟨g.d, g.p⟩
def Gs.inv (g : Gs) : Gs := ⟨g.done.map Gap.inv, g.cur.inv⟩
theorem inv_ok {s : Stp} (h : stpOk s) : stpOk s.inv := by
  rcases h with ⟨h1, h2, h3⟩ | ⟨h1, h2, h3⟩ | ⟨h1, h2, h3⟩
  · exact .inl ⟨h1, h3, h2⟩
  · exact .inr (.inr ⟨h1, h3, h2⟩)
  · exact .inr (.inl ⟨h1, h3, h2⟩)
theorem inv_atoms {s : Stp} (h : stpOk s) : s.inv.atoms = s.atoms.map Atm.inv := by
  have hk : ∀ n, (List.replicate n Atm.k).map Atm.inv = List.replicate n Atm.k := fun n => by simp [Atm.inv]
  have hd : ∀ l : List UInt8, (l.map Atm.d).map Atm.inv = l.map Atm.p := fun l => by rw [List.map_map]; rfl
  have hp : ∀ l : List UInt8, (l.map Atm.p).map Atm.inv = l.map Atm.d := fun l => by rw [List.map_map]; rfl
  rcases h with ⟨h1, h2, h3⟩ | ⟨h1, h2, h3⟩ | ⟨h1, h2, h3⟩ <;> simp only [Stp.atoms, Stp.inv, h1, h2, h3, List.map_append, hk, hd, hp, List.map_nil, List.append_nil, List.nil_append]
  all_goals simp
theorem inv_ps (l : List UInt8) : (l.map Atm.p).map Atm.inv = l.map Atm.d := by rw [List.map_map]; rfl
theorem fromA_le : ∀ l : List Atm, fromA l ≤ l.length
  | [] => Nat.le_refl _
  | .k :: l => by have := fromA_le l; simp only [fromA, List.length_cons]; omega
  | .d _ :: l => by have := fromA_le l; simp only [fromA, List.length_cons]; omega
  | .p _ :: l => by have := fromA_le l; simp only [fromA, List.length_cons]; omega
theorem gs_inv_atom (g : Gs) (a : Atm) : g.inv.atom a.inv = (g.atom a).inv := by
  cases a <;> simp [Gs.inv, Gs.atom, Atm.inv, Gap.inv]
theorem gs_inv_run : ∀ (L : List Atm) (g : Gs), g.inv.run (L.map Atm.inv) = (g.run L).inv
  | [], _ => rfl
  | a :: L, g => by
    rw [List.map_cons, show g.inv.run (a.inv :: L.map Atm.inv) = (g.inv.atom a.inv).run (L.map Atm.inv) from rfl, gs_inv_atom, gs_inv_run L (g.atom a)]; rfl
theorem start_inv (L : List Atm) : Gs.start.run (L.map Atm.inv) = (Gs.start.run L).inv := gs_inv_run L Gs.start
theorem list_same {L M : List Atm} (h : Gs.start.run L = Gs.start.run M) : listOf L = listOf M := by unfold listOf; rw [start_run, start_run, h]
/-- what is turned about, from a change's steps and from its one form -/
theorem inv_nf (l : List Stp) (h : ∀ s ∈ l, stpOk s) : listOf ((atomsOf l).map Atm.inv) = listOf ((nfOf (gapsOf l)).map Atm.inv) := by
  refine list_same ?_
  rw [start_inv, start_inv, run_nf, gapsOf_run l h]
theorem inv_from : ∀ L : List Atm, fromA (L.map Atm.inv) = toA L ∧ toA (L.map Atm.inv) = fromA L
  | [] => ⟨rfl, rfl⟩
  | .k :: L => by simp [Atm.inv, fromA, toA, inv_from L]
  | .d _ :: L => by simp [Atm.inv, fromA, toA, inv_from L]
  | .p _ :: L => by simp [Atm.inv, fromA, toA, inv_from L]
/-- what is turned about undoes it -/
theorem inv_apply : ∀ (L : List Atm) (s t : List UInt8), applyA s L = some t → fromA L = s.length → applyA t (L.map Atm.inv) = some s
  | [], s, t, h, hf => by
    rw [applyA_nil] at h
    cases h
    rw [List.map_nil, applyA_nil, List.eq_nil_of_length_eq_zero hf.symm]
  | .p b :: L, s, t, h, hf => by
    rw [applyA_p] at h
    obtain ⟨t', h', rfl⟩ := Option.map_eq_some_iff.1 h
    rw [List.map_cons, show Atm.inv (.p b) = .d b from rfl, applyA_dc, if_pos rfl]
    exact inv_apply L s t' h' hf
  | .k :: L, [], t, h, hf => by cases h
  | .k :: L, c :: s, t, h, hf => by
    rw [applyA] at h
    obtain ⟨t', h', rfl⟩ := Option.map_eq_some_iff.1 h
    rw [List.map_cons, show Atm.inv .k = .k from rfl, applyA, inv_apply L s t' h' (by simpa [fromA] using hf)]; rfl
  | .d b :: L, [], t, h, hf => by cases h
  | .d b :: L, c :: s, t, h, hf => by
    rw [applyA_dc] at h
    split at h
    · rename_i hc
      subst hc
      rw [List.map_cons, show Atm.inv (.d c) = .p c from rfl, applyA_p, inv_apply L s t h (by simpa [fromA] using hf)]; rfl
    · cases h
/-- the one form makes the same -/
theorem plain_apply (l : List Stp) (h : ∀ s ∈ l, stpOk s) (s : List UInt8) : applyA s (atomsOf (plainOf l)) = applyA s (atomsOf l) := by rw [plain_atoms, apply_nf l h]
theorem plain_sizes {l : List Stp} {f t : Int} (hs : sizesOf l = some (f, t)) : sizesOf (plainOf l) = some (f, t) := by
  obtain ⟨h1, h2, h3, h4, h5⟩ := sizesOf_some hs
  have hok : ∀ s ∈ l, stpOk s := fun s hs => (h1 s hs).1
  obtain ⟨n1, n2⟩ := nf_sizes l hok
  unfold maxT at h4 h5
  rw [sizesOf_of (plain_ok l) (by rw [plain_atoms]; omega) (by rw [plain_atoms]; omega), plain_atoms, n1, n2, h2, h3]
theorem applyA_kc (c : UInt8) (s : List UInt8) (l : List Atm) : applyA (c :: s) (.k :: l) = (applyA s l).map (c :: ·) := rfl
end Go.Eng

/-
  Plain facts on chains of changes: what is carried over them fits their last text. No condition.
-/
namespace Go.Eng
open Go
/-- each of two changes carried over the other one comes to one text -/
theorem converge {s t u : List UInt8} {a b : List Stp} {ta tb : Int} (hsa : sizesOf a = some ((s.length : Int), ta)) (hsb : sizesOf b = some ((s.length : Int), tb)) (h1 : applyA s (atomsOf a) = some t) (h2 : applyA s (atomsOf b) = some u) :
    t.length ≤ 65536 ∧ u.length ≤ 65536 ∧ ∃ O U v, carP a b = (if 65536 < v.length then .inl 3 else .inr (listOf O, listOf U)) ∧ v.length ≤ t.length + u.length ∧
      (v.length ≤ 65536 → applyV t (listOf U) = okV v ∧ applyV u (listOf O) = okV v ∧ Fit (listOf O) ∧ Fit (listOf U) ∧
        ∃ C D, comP a (listOf U) = .inr (listOf C) ∧ comP b (listOf O) = .inr (listOf D) ∧ applyV s (listOf C) = okV v ∧ applyV s (listOf D) = okV v ∧ Fit (listOf C) ∧ Fit (listOf D)) := by
  obtain ⟨oka, _, _, fa, toa, _, _, _, ba⟩ := sized hsa
  obtain ⟨okb, _, _, fb, tob, _, _, _, bb⟩ := sized hsb
  obtain ⟨na1, na2⟩ := nf_sizes a oka
  obtain ⟨nb1, nb2⟩ := nf_sizes b okb
  have lt := apply_len _ _ _ h1
  have lu := apply_len _ _ _ h2
  rw [← apply_nf a oka] at h1
  rw [← apply_nf b okb] at h2
  obtain ⟨O, U, v, e1, e2, e3, e4, e5, e6, e7, e8⟩ := conv_car _ _ _ _ _ h1 h2 (by omega) (by omega)
  refine ⟨by omega, by omega, O, U, v, ?_, e8, fun hv => ?_⟩
  · unfold carP
    rw [hsa, hsb]
    simp only
    rw [if_neg (by simp), carT_list, e1]
    simp only [Option.map_some]
    rw [Nat.zero_add, e6]
  · have u1 : applyA t (nfOf (Gs.start.run U)) = some v := by rw [apply_start]; exact e2
    have u2 : applyA u (nfOf (Gs.start.run O)) = some v := by rw [apply_start]; exact e3
    have n1 : fromA (nfOf (Gs.start.run U)) = fromA U := by have := (list_sizes U).1; rwa [(list_ok U).2] at this
    have n2 : fromA (nfOf (Gs.start.run O)) = fromA O := by have := (list_sizes O).1; rwa [(list_ok O).2] at this
    obtain ⟨C, c1, c2, c3, c4⟩ := conv_comp _ _ _ _ _ h1 u1 (by omega) (by omega)
    obtain ⟨D, d1, d2, d3, d4⟩ := conv_comp _ _ _ _ _ h2 u2 (by omega) (by omega)
    refine ⟨apply_listV e4 e2 (by omega) (by omega), apply_listV e5 e3 (by omega) (by omega), fit_list (by omega) (by omega), fit_list (by omega) (by omega), C, D, ?_, ?_, apply_listV c3 c2 (by omega) (by omega), apply_listV d3 d2 (by omega) (by omega), fit_list (by omega) (by omega), fit_list (by omega) (by omega)⟩
    · unfold comP
      rw [hsa, sizes_list U (by omega) (by omega)]
      simp only
      rw [if_neg (by omega), cmpT_list, list_gaps, c1]; rfl
    · unfold comP
      rw [hsb, sizes_list O (by omega) (by omega)]
      simp only
      rw [if_neg (by omega), cmpT_list, list_gaps, d1]; rfl
theorem okV_of {s t : List UInt8} {l : List Stp} (h : applyV s l = okV t) : ∃ tt, sizesOf l = some ((s.length : Int), tt) ∧ applyA s (atomsOf l) = some t := by
  rcases apply_cases s l with ⟨e, he, h1⟩ | ⟨u, tt, h1, h2, h3⟩
  · rw [h1, okV] at h
    simp only [Value.tuple.injEq] at h
    simp at h
    exact absurd h.2 he
  · refine ⟨tt, h1, ?_⟩
    unfold applyV at h
    rw [h1] at h
    simp only [ne_eq, not_true, if_false] at h
    cases ha : applyA s (atomsOf l) with
    | none =>
      rw [ha] at h2; cases h2
    | some w =>
      rw [ha, okV] at h
      simp only [Value.tuple.injEq] at h
      simp [str] at h
      rw [h]
/-- each change is of the text that the one ahead of it made -/
def Chain : List UInt8 → List (List Stp) → List UInt8 → Prop
  | s, [], t => s = t
  | s, x :: K, t => ∃ u tt, sizesOf x = some ((s.length : Int), tt) ∧ applyA s (atomsOf x) = some u ∧ Chain u K t
theorem chain_append : ∀ (K : List (List Stp)) (s t u : List UInt8) (K2 : List (List Stp)), Chain s K t → Chain t K2 u → Chain s (K ++ K2) u
  | [], s, t, u, K2, h, h2 => by cases h; exact h2
  | x :: K, s, t, u, K2, ⟨w, tt, a, b, c⟩, h2 => ⟨w, tt, a, b, chain_append K w t u K2 c h2⟩
theorem chain_split : ∀ (K : List (List Stp)) (s u : List UInt8) (K2 : List (List Stp)), Chain s (K ++ K2) u → ∃ t, Chain s K t ∧ Chain t K2 u
  | [], s, u, K2, h => ⟨s, rfl, h⟩
  | x :: K, s, u, K2, ⟨w, tt, a, b, c⟩ => by
    obtain ⟨t, h1, h2⟩ := chain_split K w u K2 c
    exact ⟨t, ⟨w, tt, a, b, h1⟩, h2⟩
theorem over_good {hand h : Int} {x c : List Stp} {s u1 u2 : List UInt8} {t1 t2 : Int} (h1 : sizesOf x = some ((s.length : Int), t1)) (h2 : applyA s (atomsOf x) = some u1) (h3 : sizesOf c = some ((s.length : Int), t2)) (h4 : applyA s (atomsOf c) = some u2) :
    overP hand h x c = .inl 3 ∨ ∃ V v tv, overP hand h x c = .inr (listOf V) ∧ sizesOf (listOf V) = some ((u1.length : Int), tv) ∧ applyA u1 (atomsOf (listOf V)) = some v := by
  by_cases hh : h ≤ hand
  · obtain ⟨_, _, O, U, v, e1, _, e2⟩ := converge h1 h3 h2 h4
    by_cases hv : 65536 < v.length
    · rw [if_pos hv] at e1; exact .inl (over_le_l hh e1)
    · rw [if_neg hv] at e1
      obtain ⟨tt, g1, g2⟩ := okV_of (e2 (by omega)).1
      exact .inr ⟨U, v, tt, over_le_r hh e1, g1, g2⟩
  · obtain ⟨_, _, O, U, v, e1, _, e2⟩ := converge h3 h1 h4 h2
    by_cases hv : 65536 < v.length
    · rw [if_pos hv] at e1; exact .inl (over_gt_l hh e1)
    · rw [if_neg hv] at e1
      obtain ⟨tt, g1, g2⟩ := okV_of (e2 (by omega)).2.1
      exact .inr ⟨O, v, tt, over_gt_r hh e1, g1, g2⟩
theorem carried_good (hand : Int) : ∀ (K : List (Int × List Stp)) (s t u : List UInt8) (C : List Atm) (tc : Int), Chain s (K.map (·.2)) t → sizesOf (listOf C) = some ((s.length : Int), tc) → applyA s (atomsOf (listOf C)) = some u →
    carriedP hand K (listOf C) = .inl 3 ∨ ∃ V v tv, carriedP hand K (listOf C) = .inr (listOf V) ∧ sizesOf (listOf V) = some ((t.length : Int), tv) ∧ applyA t (atomsOf (listOf V)) = some v
  | [], s, t, u, C, tc, h, h1, h2 => by cases h; exact .inr ⟨C, u, tc, rfl, h1, h2⟩
  | x :: K, s, t, u, C, tc, ⟨w, tt, a, b, c⟩, h1, h2 => by
    rcases over_good (hand := hand) (h := x.1) a b h1 h2 with e | ⟨V, v, tv, e1, e2, e3⟩
    · exact .inl (carried_l e)
    · rw [carried_r e1]
      exact carried_good hand K w t v V tv c e2 e3
theorem mvF_to (last : List UInt8) (b : Bool) : ∀ (ps : List Pos) (p : Nat), mvF ps last p b ≤ toA (sdA ps last)
  | [], p => by rw [sdA_nil, toA_p]; unfold mvF; split <;> omega
  | x :: ps, 0 => by rw [sdA_cons, toA_append, toA_p]; unfold mvF; split <;> omega
  | x :: ps, p + 1 => by
    have := mvF_to last b ps p
    rw [sdA_cons, toA_append, toA_p]
    unfold mvF
    cases x.2.1 <;> simp only [Bool.false_eq_true, if_false, if_true, toA] <;> omega
theorem moved_to {l : List Stp} {f t : Int} (hs : sizesOf l = some (f, t)) (p : Nat) (b : Bool) : (movedF l p b : Int) ≤ t := by
  obtain ⟨_, _, h3⟩ := nf_len hs
  have := mvF_to (lastOf (gapsOf l)) b (posOf (gapsOf l)) p
  rw [sd_atoms] at this
  unfold movedF; omega
theorem plain_self (L : List Atm) : plainOf (listOf L) = listOf L := by
  rw [plain_list, list_gaps]
  exact list_same (run_nf _)
end Go.Eng

/-
  The walks of a sheet's Hand, Follow and Since on any sheet. No condition.
-/
namespace Go.Eng
open Go Go.RowKit
def handN (K : List Snt) (i : Nat) : Int := (K[i]?.map Snt.h).getD 0
def handV (K : List Snt) (rev : Int) : Value := if rev < 1 ∨ (K.length : Int) < rev then .tuple #[.int .i64 0, .int .i64 5] else .tuple #[.int .i64 (handN K (rev.toNat - 1)), .int .i64 0]
theorem chain_text : ∀ (K : List Snt) (s t : List UInt8), Chain s (K.map (·.l)) t → textAt s K = t
  | [], s, t, h => by cases h; rfl
  | x :: K, s, t, ⟨u, tt, h1, h2, h3⟩ => by
    have e : applyT s x.l = u := by unfold applyT; rw [h1]; simp [h2]
    have := chain_text K u t h3
    unfold textAt at this ⊢
    rw [List.foldl_cons, e]; exact this
/-- where a place has gone, over many -/
def followN (b : Bool) : List (List Stp) → Nat → Nat
  | [], a => a
  | x :: K, a => followN b K (movedF x a b)
def keepL (n : Nat) : List Stp := if n = 0 then [] else [⟨(n : Int), [], []⟩]
def comL (c x : List Stp) : List Stp := match comP c x with | .inr l => l | .inl _ => []
/-- all that many changes come to -/
def sinceL : List (List Stp) → List Stp → List Stp
  | [], c => c
  | x :: K, c => sinceL K (comL c x)
theorem keep_list (n : Nat) : (Bld.start.keep (n : Int)).close.l = keepL n := by
  unfold Bld.keep keepL
  by_cases h : n = 0
  · subst h; simp [Bld.start, Bld.close]
  · rw [if_neg (by omega), if_neg h]; simp [Bld.start, Bld.close, addKeep]
theorem keep_good (t : List UInt8) (h : t.length ≤ 65536) : (∃ C, keepL t.length = listOf C) ∧ sizesOf (keepL t.length) = some ((t.length : Int), (t.length : Int)) ∧ applyA t (atomsOf (keepL t.length)) = some t := by
  have e : keepL t.length = listOf (List.replicate t.length .k) := by
    rw [← keep_list]; unfold listOf; rw [run_k]
  refine ⟨⟨_, e⟩, ?_, ?_⟩
  · rw [e, sizes_list _ (by rw [fromA_k]; omega) (by rw [toA_k]; omega), fromA_k, toA_k]
  · rw [e, apply_list]
    have := applyA_ks t.length t [] (Nat.le_refl _)
    rw [List.append_nil, List.drop_length, List.take_length, applyA_nil] at this
    rw [this]; simp
theorem com_good {a b : List Stp} {s t v : List UInt8} {ta tb : Int} (h1 : sizesOf a = some ((s.length : Int), ta)) (h2 : applyA s (atomsOf a) = some t) (h3 : sizesOf b = some ((t.length : Int), tb)) (h4 : applyA t (atomsOf b) = some v) :
    ∃ C tc, comP a b = .inr (listOf C) ∧ comL a b = listOf C ∧ sizesOf (listOf C) = some ((s.length : Int), tc) ∧ applyA s (atomsOf (listOf C)) = some v ∧ fromA C ≤ 65536 ∧ toA C ≤ 65536 := by
  obtain ⟨oka, _, _, fa, toa, _, _, _, ba⟩ := sized h1
  obtain ⟨okb, _, _, fb, tob, _, _, _, bb⟩ := sized h3
  obtain ⟨na1, na2⟩ := nf_sizes a oka
  obtain ⟨nb1, nb2⟩ := nf_sizes b okb
  have lt := apply_len _ _ _ h2
  have lv := apply_len _ _ _ h4
  rw [← apply_nf a oka] at h2
  rw [← apply_nf b okb] at h4
  obtain ⟨C, c1, c2, c3, c4⟩ := conv_comp _ _ _ _ _ h2 h4 (by omega) (by omega)
  have e : comP a b = .inr (listOf C) := by
    unfold comP
    rw [h1, h3]
    simp only
    rw [if_neg (by omega), cmpT_list, c1]; rfl
  refine ⟨C, (toA C : Int), e, by unfold comL; rw [e], ?_, by rw [apply_list]; exact c2, by omega, by omega⟩
  rw [sizes_list C (by omega) (by omega), c3]
theorem since_good : ∀ (K : List (List Stp)) (s t u : List UInt8) (c : List Stp) (tc : Int), Chain t K u → sizesOf c = some ((s.length : Int), tc) → applyA s (atomsOf c) = some t → ∃ tv, sizesOf (sinceL K c) = some ((s.length : Int), tv) ∧ applyA s (atomsOf (sinceL K c)) = some u
  | [], s, t, u, c, tc, h, h1, h2 => by cases h; exact ⟨tc, h1, h2⟩
  | x :: K, s, t, u, c, tc, ⟨w, tt, a, b, d⟩, h1, h2 => by
    obtain ⟨C, tc', e1, e2, e3, e4, _⟩ := com_good h1 h2 a b
    rw [sinceL, e2]
    exact since_good K s w u _ tc' d e3 e4
theorem fit_sized {l : List Stp} {f t : Int} (hs : sizesOf l = some (f, t)) : Fit l := by
  obtain ⟨hok, hal, _⟩ := sized hs
  have hl := steps_le l hok
  refine ⟨by omega, fun x hx => ?_, fun x hx => ?_, fun x hx => ?_⟩
  all_goals
    have h1 := mem_atoms hx
    have h2 := stp_bounds (hok x hx)
    omega
theorem chain_mem : ∀ (K : List (List Stp)) (s t : List UInt8), Chain s K t → ∀ x ∈ K, ∃ f tt : Int, sizesOf x = some (f, tt)
  | [], _, _, _, x, h => by cases h
  | y :: K, s, t, ⟨u, tt, h1, _, h3⟩, x, h => by
    rcases List.mem_cons.1 h with rfl | h
    · exact ⟨_, _, h1⟩
    · exact chain_mem K u t h3 x h
/-- a sheet whose changes fit -/
structure GoodS (first : List UInt8) (K : List Snt) (now : List UInt8) : Prop where
  chain : Chain first (K.map (·.l)) now
  nf : ∀ x ∈ K, ∃ V, x.l = listOf V
  fl : first.length ≤ 65536
  h : ∀ x ∈ K, -9223372036854775808 ≤ x.h ∧ x.h ≤ 9223372036854775807
theorem GoodS.sized {first now : List UInt8} {K : List Snt} (g : GoodS first K now) {x : Snt} (hx : x ∈ K) : ∃ f tt : Int, sizesOf x.l = some (f, tt) := chain_mem _ _ _ g.chain _ (List.mem_map.2 ⟨x, hx, rfl⟩)
theorem GoodS.fit {first now : List UInt8} {K : List Snt} (g : GoodS first K now) : ∀ x ∈ K, Fit x.l := fun x hx => by
  obtain ⟨f, tt, h⟩ := g.sized hx; exact fit_sized h
theorem GoodS.at_ {first now : List UInt8} {K : List Snt} (g : GoodS first K now) (n : Nat) : Chain first ((K.take n).map (·.l)) (textAt first (K.take n)) ∧ Chain (textAt first (K.take n)) ((K.drop n).map (·.l)) now := by
  have h := g.chain
  rw [← List.take_append_drop n K, List.map_append] at h
  obtain ⟨t, h1, h2⟩ := chain_split _ _ _ _ h
  rw [chain_text _ _ _ h1]; exact ⟨h1, h2⟩
theorem GoodS.now_ {first now : List UInt8} {K : List Snt} (g : GoodS first K now) : textAt first K = now := chain_text _ _ _ g.chain
theorem GoodS.atV {first now : List UInt8} {K : List Snt} (g : GoodS first K now) (rev : Int) : atV now first K rev = if rev < 0 ∨ (K.length : Int) < rev then .tuple #[str [], .int .i64 5] else okV (textAt first (K.take rev.toNat)) := by
  unfold Go.Eng.atV
  split
  · rfl
  · split
    · rename_i h
      rw [h, Int.toNat_natCast, List.take_length, g.now_]
    · rfl
theorem text_small {first now : List UInt8} {K : List Snt} (g : GoodS first K now) (n : Nat) : (textAt first (K.take n)).length ≤ 65536 := by
  rcases List.eq_nil_or_concat (K.take n) with h | ⟨L, x, h⟩
  · rw [h]; exact g.fl
  · rw [h, List.concat_eq_append, textAt_snoc]; exact applyT_len _ _
def followV (first : List UInt8) (K : List Snt) (at_ rev : Int) (b : Bool) : Value := if (rev < 0 ∨ (K.length : Int) < rev) ∨ (at_ < 0 ∨ ((textAt first (K.take rev.toNat)).length : Int) < at_) then .tuple #[.int .i64 0, .int .i64 5] else .tuple #[.int .i64 (followN b ((K.drop rev.toNat).map (·.l)) at_.toNat : Int), .int .i64 0]
def sinceR (first : List UInt8) (K : List Snt) (rev : Int) : Int ⊕ List Stp := if rev < 0 ∨ (K.length : Int) < rev then .inl 5 else .inr (sinceL ((K.drop rev.toNat).map (·.l)) (keepL (textAt first (K.take rev.toNat)).length))
theorem move_self {V : List Atm} {f t : Int} (hs : sizesOf (listOf V) = some (f, t)) {a : Nat} (ha : (a : Int) ≤ f) (b : Bool) : moveOf (listOf V) a b = (movedF (listOf V) a b : Int) := by
  obtain ⟨hok, _, _, hf, _⟩ := sized hs
  have h := move_all (listOf V) a b (by
    have := drops_from (listOf V) hok
    unfold posOf
    obtain ⟨l1, l2⟩ := said_len (gapsOf (listOf V))
    simp only [List.length_zip]; omega)
  rwa [plain_self] at h
end Go.Eng
namespace Go.Proofs.Ytelgegefmjlimaa
open Go Go.Eng
set_option maxRecDepth 100000
set_option maxHeartbeats 4000000
set_option linter.all false
attribute [local irreducible] WL WC WQ QFun QLoop Does Q1 QRound QAssign Go.Addr.add
attribute [local irreducible] sizesOf sizesF applyV applyT applyE listOf plainOf applyA textAt carP overP carriedP comP comL sinceL movedF moveOf followN
theorem hand_gen {b : Nat} {now first : List UInt8} {ra : Option Addr} {cra : Nat} {K : List Snt} {rev : Int} (hrv : -9223372036854775808 ≤ rev ∧ rev ≤ 9223372036854775807) (hl : K.length ≤ 1000000) (w0 : World) (m : Mem) (H : SHeap) :
    Does Try.prog 71 #[.pointer (some ⟨b, 0, none⟩), .int .i64 rev] w0 m (.blk b (.cells [str now, str first, .slice ra K.length cra].toArray 131 (0, 0)) :: .row ra cra 136 3 (K.map Snt.cs) :: H) (Gives (handV K rev) m (.blk b (.cells [str now, str first, .slice ra K.length cra].toArray 131 (0, 0)) :: .row ra cra 136 3 (K.map Snt.cs) :: H)) := by
  refine Does.of_body (args := [.pointer (some ⟨b, 0, none⟩), .int .i64 rev]) Try.func71 rfl Try.ntmps71 rfl ?_
  have hKl : (K.map Snt.cs).length = K.length := by simp
  unfold handV
  by_cases h0 : rev < 1
  · rw [if_pos (.inl h0)]
    (try (refine st ?_; intros))
    exact q_fin0 (H0 := .blk b (.cells [str now, str first, .slice ra K.length cra].toArray 131 (0, 0)) :: .row ra cra 136 3 (K.map Snt.cs) :: H) (Gives.mk rfl) (hd := zpk)
  · by_cases h1 : (K.length : Int) < rev
    · rw [if_pos (.inr h1)]
      (try (refine st ?_; intros))
      exact q_fin0 (H0 := .blk b (.cells [str now, str first, .slice ra K.length cra].toArray 131 (0, 0)) :: .row ra cra 136 3 (K.map Snt.cs) :: H) (Gives.mk rfl) (hd := zpk)
    · rw [if_neg (by omega)]
      obtain ⟨n, rfl⟩ : ∃ n : Nat, rev = ((n + 1 : Nat) : Int) := ⟨rev.toNat - 1, by omega⟩
      have hn : n < K.length := by omega
      have en : ((n + 1 : Nat) : Int) - 1 = (n : Int) := by omega
      obtain ⟨x, hx, hget, htk, hmem, hdr⟩ := at_idx (f := Snt.cs) hn
      have hxs : x.cs = [.int .i64 x.h, .slice x.a x.l.length x.cap, .bool x.left] := rfl
      rw [hxs] at hget
      have hh : handN K (((n + 1 : Nat) : Int).toNat - 1) = x.h := by
        unfold handN
        rw [show ((n + 1 : Nat) : Int).toNat - 1 = n by omega, hx]; rfl
      rw [hh]
      refine WC.rowSome (a := ra) (es := K.map Snt.cs) zhs (by omega) ?_
      rintro d0 rfl
      (try (refine st ?_; intros))
      rw [en]
      (try (refine st ?_; intros))
      exact q_fin0 (H0 := .blk b (.cells [str now, str first, .slice (some d0) K.length cra].toArray 131 (0, 0)) :: .row (some d0) cra 136 3 (K.map Snt.cs) :: H) (Gives.mk rfl) (hd := zpk)
theorem follow_gen {b : Nat} {now first : List UInt8} {ra : Option Addr} {cra : Nat} {K : List Snt} {at_ rev : Int} {bh : Bool} (hl : K.length ≤ 1000000) (g : GoodS first K now) (w0 : World) (m : Mem) (H : SHeap) (hK : ∀ x ∈ K, x.it 59 ∈ H) :
    Does Try.prog 38 #[.pointer (some ⟨b, 0, none⟩), .int .i64 at_, .int .i64 rev, .bool bh] w0 m (.blk b (.cells [str now, str first, .slice ra K.length cra].toArray 131 (0, 0)) :: .row ra cra 136 3 (K.map Snt.cs) :: H) (Gives (followV first K at_ rev bh) m (.blk b (.cells [str now, str first, .slice ra K.length cra].toArray 131 (0, 0)) :: .row ra cra 136 3 (K.map Snt.cs) :: H)) := by
  refine Does.of_body (args := [.pointer (some ⟨b, 0, none⟩), .int .i64 at_, .int .i64 rev, .bool bh]) Try.func38 rfl Try.ntmps38 rfl ?_
  have hKl : (K.map Snt.cs).length = K.length := by simp
  have hfl := g.fl
  refine WC.rowCap (a := ra) zhs fun hcap => ?_
  rw [hKl] at hcap
  unfold followV
  (try (refine st ?_; intros))
  refine w_callF Try.func32 ?_ (hs := at_gen hl g.fit (by omega) _ _ _ hK)
  rintro v m H1 ⟨rfl, rfl, rfl⟩
  rw [g.atV]
  by_cases hrv : rev < 0 ∨ (K.length : Int) < rev
  · rw [if_pos hrv, if_pos (.inl hrv)]
    (try (refine st ?_; intros))
    exact q_fin0 (H0 := .blk b (.cells [str now, str first, .slice ra K.length cra].toArray 131 (0, 0)) :: .row ra cra 136 3 (K.map Snt.cs) :: H) (Gives.mk rfl) (hd := zpk)
  · rw [if_neg hrv]
    obtain ⟨n, rfl⟩ : ∃ n : Nat, rev = (n : Int) := ⟨rev.toNat, by omega⟩
    rw [Int.toNat_natCast]
    obtain ⟨_, hch⟩ := g.at_ n
    have hts := text_small g n
    generalize textAt first (K.take n) = t at *
    rw [okV]
    by_cases ha0 : at_ < 0
    · rw [if_pos (.inr (.inl ha0))]
      (try (refine st ?_; intros))
      exact q_fin0 (H0 := .blk b (.cells [str now, str first, .slice ra K.length cra].toArray 131 (0, 0)) :: .row ra cra 136 3 (K.map Snt.cs) :: H) (Gives.mk rfl) (hd := zpk)
    · by_cases ha1 : (t.length : Int) < at_
      · rw [if_pos (.inr (.inr ha1))]
        (try (refine st ?_; intros))
        exact q_fin0 (H0 := .blk b (.cells [str now, str first, .slice ra K.length cra].toArray 131 (0, 0)) :: .row ra cra 136 3 (K.map Snt.cs) :: H) (Gives.mk rfl) (hd := zpk)
      · rw [if_neg (by omega)]
        obtain ⟨a, rfl⟩ : ∃ a : Nat, at_ = (a : Int) := ⟨at_.toNat, by omega⟩
        rw [Int.toNat_natCast]
        have hn : n ≤ K.length := by omega
        have hsub : ∀ Hx, RowR w0 m (.blk b (.cells [str now, str first, .slice ra K.length cra].toArray 131 (0, 0)) :: .row ra cra 136 3 (K.map Snt.cs) :: Hx) 3 (if cra = n then ra else ra.map (·.add (n * 3))) ((K.drop n).map Snt.cs) := by
          intro Hx
          have h := RowR.subRow (w0 := w0) (m := m) (H := .blk b (.cells [str now, str first, .slice ra K.length cra].toArray 131 (0, 0)) :: .row ra cra 136 3 (K.map Snt.cs) :: Hx) (a := ra) (lo := n) (hi := K.length) zhs ⟨hn, by rw [hKl]; exact Nat.le_refl _⟩
          have e : ((K.map Snt.cs).take K.length).drop n = (K.drop n).map Snt.cs := by rw [List.map_drop, List.take_of_length_le (by rw [hKl]; exact Nat.le_refl _)]
          rwa [e] at h
        (try (refine st ?_; intros))
        unfold subSl
        generalize (if cra = n then ra else ra.map (·.add (n * 3))) = ra2 at *
        have hDl : (K.drop n).length = K.length - n := by simp
        have hDm : ∀ x ∈ K.drop n, x ∈ K := fun x hx => List.mem_of_mem_drop hx
        generalize K.drop n = D at *
        generalize hP0 : followN bh (D.map (·.l)) a = res
        refine WC.loopH [(40, .int .i64 ((0) : Int)), (39, .int .i64 ((K.length - n : Nat) : Int)), (38, .slice ra2 (K.length - n) (cra - n)), (1, .int .i64 ((a) : Int)), (3, .bool bh)] ?_ ?_ (fun j r ds m' H' => ∃ (i : Nat) (t : List UInt8) (a : Nat), j = D.length - i ∧ r = [(40, .int .i64 (i : Int)), (39, .int .i64 ((K.length - n : Nat) : Int)), (38, .slice ra2 (K.length - n) (cra - n)), (1, .int .i64 (a : Int)), (3, .bool bh)] ∧ ds = [] ∧ m = m' ∧ H' = .blk b (.cells [str now, str first, .slice ra K.length cra].toArray 131 (0, 0)) :: .row ra cra 136 3 (K.map Snt.cs) :: H ∧ (i ≤ D.length) ∧ (Chain t ((D.drop i).map (·.l)) now) ∧ (a ≤ t.length ∧ t.length ≤ 65536) ∧ (followN bh ((D.drop i).map (·.l)) a = res)) (D.length - (0)) ⟨0, t, a, rfl, rfl, rfl, rfl, rfl, Nat.zero_le _, hch, by omega, hP0⟩ ?_
        · (repeat (first | exact Env.Sub.nil | refine Env.Sub.cons rfl ?_))
        · exact zpk
        rintro j r ds m' H' ⟨i, t, a, rfl, rfl, rfl, rfl, rfl, hi, hch, hat, hP⟩
        have hDs : (D.map Snt.cs).length = D.length := by simp
        by_cases hlt : i < D.length
        · obtain ⟨x, hx, hget, htk, hmem, hdr⟩ := at_idx (f := Snt.cs) hlt
          have hrx : RowR w0 m H 3 x.a (x.l.map Stp.cs) := RowR.row (hK x (hDm x hmem))
          have hxs : x.cs = [.int .i64 x.h, .slice x.a x.l.length x.cap, .bool x.left] := rfl
          rw [hxs] at hget
          rw [hdr, List.map_cons] at hch hP
          obtain ⟨u, tt, c1, c2, c3⟩ := hch
          rw [followN] at hP
          obtain ⟨V, hV⟩ := g.nf x (hDm x hmem)
          have hmv := move_self (hV ▸ c1) (a := a) (by omega) bh
          rw [← hV] at hmv
          have hmt := moved_to c1 a bh
          have hul := apply_len _ _ _ c2
          obtain ⟨hok, hal, _, _, hto, _, _, _, hb⟩ := sized c1
          have hr1 := hsub H
          refine WC.rSome hr1 (by omega) ?_
          rintro d0 rfl
          (refine st ?_; intros; rename_i bx)
          refine w_callF Try.func41 ?_ (hs := move_any (at_ := (a : Int)) (bh := bh) hok (by omega) (by omega) _ _ _ hrx.more.more.more)
          rintro v m H1 ⟨rfl, rfl, rfl⟩
          rw [hmv]
          (try (refine st ?_; intros))
          refine WQ.next (D.length - (i + 1)) ⟨i + 1, u, movedF x.l a bh, rfl, rfl, rfl, rfl, rfl, ?_, ?_, ?_, ?_⟩ (by omega) zsb zpk
          · omega
          · exact c3
          · omega
          · exact hP
        · obtain rfl : i = D.length := by omega
          rw [List.drop_length, List.map_nil, followN] at hP
          (try (refine st ?_; intros))
          rw [hP]
          exact q_fin0 (H0 := .blk b (.cells [str now, str first, .slice ra K.length cra].toArray 131 (0, 0)) :: .row ra cra 136 3 (K.map Snt.cs) :: H) (Gives.mk rfl) (hd := zpk)
theorem since_gen {b : Nat} {now first : List UInt8} {ra : Option Addr} {cra : Nat} {K : List Snt} {rev : Int} (hl : K.length ≤ 1000000) (g : GoodS first K now) (w0 : World) (m : Mem) (H : SHeap) (hK : ∀ x ∈ K, x.it 59 ∈ H) :
    Does Try.prog 70 #[.pointer (some ⟨b, 0, none⟩), .int .i64 rev] w0 m (.blk b (.cells [str now, str first, .slice ra K.length cra].toArray 131 (0, 0)) :: .row ra cra 136 3 (K.map Snt.cs) :: H) (ListP 59 (sinceR first K rev) .i64 m (.blk b (.cells [str now, str first, .slice ra K.length cra].toArray 131 (0, 0)) :: .row ra cra 136 3 (K.map Snt.cs) :: H)) := by
  refine Does.of_body (args := [.pointer (some ⟨b, 0, none⟩), .int .i64 rev]) Try.func70 rfl Try.ntmps70 rfl ?_
  have hKl : (K.map Snt.cs).length = K.length := by simp
  have hfl := g.fl
  refine WC.rowCap (a := ra) zhs fun hcap => ?_
  rw [hKl] at hcap
  unfold sinceR
  (try (refine st ?_; intros))
  refine w_callF Try.func32 ?_ (hs := at_gen hl g.fit (by omega) _ _ _ hK)
  rintro v m H1 ⟨rfl, rfl, rfl⟩
  rw [g.atV]
  by_cases hrv : rev < 0 ∨ (K.length : Int) < rev
  · rw [if_pos hrv, if_pos hrv]
    (try (refine st ?_; intros))
    exact q_fin0 (H0 := .blk b (.cells [str now, str first, .slice ra K.length cra].toArray 131 (0, 0)) :: .row ra cra 136 3 (K.map Snt.cs) :: H) ⟨rfl, rfl, rfl⟩ (hd := zpk)
  · rw [if_neg hrv, if_neg hrv]
    obtain ⟨n, rfl⟩ : ∃ n : Nat, rev = (n : Int) := ⟨rev.toNat, by omega⟩
    rw [Int.toNat_natCast]
    obtain ⟨_, hch⟩ := g.at_ n
    have hts := text_small g n
    generalize textAt first (K.take n) = t at *
    rw [okV]
    have hn : n ≤ K.length := by omega
    have hsub : ∀ Hx, RowR w0 m (.blk b (.cells [str now, str first, .slice ra K.length cra].toArray 131 (0, 0)) :: .row ra cra 136 3 (K.map Snt.cs) :: Hx) 3 (if cra = n then ra else ra.map (·.add (n * 3))) ((K.drop n).map Snt.cs) := by
      intro Hx
      have h := RowR.subRow (w0 := w0) (m := m) (H := .blk b (.cells [str now, str first, .slice ra K.length cra].toArray 131 (0, 0)) :: .row ra cra 136 3 (K.map Snt.cs) :: Hx) (a := ra) (lo := n) (hi := K.length) zhs ⟨hn, by rw [hKl]; exact Nat.le_refl _⟩
      have e : ((K.map Snt.cs).take K.length).drop n = (K.drop n).map Snt.cs := by rw [List.map_drop, List.take_of_length_le (by rw [hKl]; exact Nat.le_refl _)]
      rwa [e] at h
    (refine st ?_; intros; rename_i bd)
    refine WL.newRow (T := 59) (sz := 3) ?_
    refine WL.heap (H' := .blk bd (.cells [.slice none Bld.start.l.length 0, str Bld.start.p, str Bld.start.d].toArray 98 (0, 0)) :: .row none 0 59 3 (Bld.start.l.map Stp.cs) :: .blk b (.cells [str now, str first, .slice ra K.length cra].toArray 131 (0, 0)) :: .row ra cra 136 3 (K.map Snt.cs) :: H) zpk ?_
    refine w_callF Try.func55 ?_ (hs := keep_any Bld.start t.length (by omega) (BFit.start.mono (by omega)) _ _ _)
    rintro v m H2 ⟨rfl, rfl, c1, cp1, rfl⟩
    have hB0 := BFit.start.keep (n := t.length)
    have hkl := keep_list t.length
    obtain ⟨⟨C0, k0⟩, k1, k2⟩ := keep_good t hts
    generalize Bld.start.keep (t.length : Int) = B0 at *
    have hBl := hB0.len
    (try (refine st ?_; intros))
    refine w_callF Try.func48 ?_ (hs := done_any B0 (by omega) _ _ _)
    rintro v m H2 ⟨rfl, c3, cp3, rfl, rfl⟩
    rw [hkl]
    (try (refine st ?_; intros))
    unfold subSl
    generalize (if cra = n then ra else ra.map (·.add (n * 3))) = ra2 at *
    have hDl : (K.drop n).length = K.length - n := by simp
    have hDm : ∀ x ∈ K.drop n, x ∈ K := fun x hx => List.mem_of_mem_drop hx
    generalize K.drop n = D at *
    generalize keepL t.length = c at *
    generalize hP0 : sinceL (D.map (·.l)) c = res
    refine WC.loopH [(32, .int .i64 ((0) : Int)), (31, .int .i64 ((K.length - n : Nat) : Int)), (30, .slice ra2 (K.length - n) (cra - n)), (9, .slice (c3) (c).length (cp3))] ?_ ?_ (fun j r ds m' H' => ∃ (i : Nat) (u : List UInt8) (c : List Stp) (tc : Int) (ca : Option Addr) (cpa : Nat), j = D.length - i ∧ r = [(32, .int .i64 (i : Int)), (31, .int .i64 ((K.length - n : Nat) : Int)), (30, .slice ra2 (K.length - n) (cra - n)), (9, .slice ca c.length cpa)] ∧ ds = [] ∧ m = m' ∧ H' = .row ca cpa 59 3 (c.map Stp.cs) :: .blk b (.cells [str now, str first, .slice ra K.length cra].toArray 131 (0, 0)) :: .row ra cra 136 3 (K.map Snt.cs) :: H ∧ (i ≤ D.length) ∧ (Chain u ((D.drop i).map (·.l)) now) ∧ (sizesOf c = some ((t.length : Int), tc)) ∧ (applyA t (atomsOf c) = some u) ∧ (sinceL ((D.drop i).map (·.l)) c = res)) (D.length - (0)) ⟨0, t, c, (t.length : Int), c3, cp3, rfl, rfl, rfl, rfl, rfl, Nat.zero_le _, hch, k1, k2, hP0⟩ ?_
    · (repeat (first | exact Env.Sub.nil | refine Env.Sub.cons rfl ?_))
    · exact zpk
    rintro j r ds m' H' ⟨i, u, c, tc, ca, cpa, rfl, rfl, rfl, rfl, rfl, hi, hch, hc1, hc2, hP⟩
    have hDs : (D.map Snt.cs).length = D.length := by simp
    have hfc := fit_sized hc1
    by_cases hlt : i < D.length
    · obtain ⟨x, hx, hget, htk, hmem, hdr⟩ := at_idx (f := Snt.cs) hlt
      have hrx : RowR w0 m H 3 x.a (x.l.map Stp.cs) := RowR.row (hK x (hDm x hmem))
      have hxs : x.cs = [.int .i64 x.h, .slice x.a x.l.length x.cap, .bool x.left] := rfl
      rw [hxs] at hget
      rw [hdr, List.map_cons] at hch hP
      obtain ⟨w, tt, d1, d2, d3⟩ := hch
      rw [sinceL] at hP
      obtain ⟨C, tc2, e1, e2, e3, e4, _⟩ := com_good hc1 hc2 d1 d2
      rw [e2] at hP
      have hfx := fit_sized d1
      have hr1 : RowR w0 m (.row ca cpa 59 3 (c.map Stp.cs) :: .blk b (.cells [str now, str first, .slice ra K.length cra].toArray 131 (0, 0)) :: .row ra cra 136 3 (K.map Snt.cs) :: H) 3 ra2 (D.map Snt.cs) := (hsub H).more
      refine WC.rSome hr1 (by omega) ?_
      rintro d0 rfl
      (refine st ?_; intros; rename_i bx)
      refine w_callF Try.func17 ?_ (hs := compose_any hfc hfx _ _ _ (RowR.row (a := ca) zhs) hrx.more.more.more.more)
      rintro v m H1 ⟨rfl, hv⟩
      rw [e1] at hv
      obtain ⟨c5, cp5, rfl, rfl⟩ := hv
      (try (refine st ?_; intros))
      refine WQ.next (D.length - (i + 1)) ⟨i + 1, w, listOf C, tc2, c5, cp5, rfl, rfl, rfl, rfl, rfl, ?_, ?_, ?_, ?_, ?_⟩ (by omega) zsb zpk
      · omega
      · exact d3
      · exact e3
      · exact e4
      · exact hP
    · obtain rfl : i = D.length := by omega
      rw [List.drop_length, List.map_nil, sinceL] at hP
      (try (refine st ?_; intros))
      rw [← hP]
      exact q_fin0 (H0 := .row ca cpa 59 3 (c.map Stp.cs) :: .blk b (.cells [str now, str first, .slice ra K.length cra].toArray 131 (0, 0)) :: .row ra cra 136 3 (K.map Snt.cs) :: H) ⟨rfl, ca, cpa, rfl, rfl⟩ (hd := zpk)
end Go.Proofs.Ytelgegefmjlimaa

/-
  The walks of package edit, fifth part: the end of the maker of the reference. No condition.
-/
namespace Go.Proofs.Ytelgegefmjlimaa
open Go Go.Eng
set_option maxRecDepth 100000
set_option maxHeartbeats 4000000
set_option linter.all false
attribute [local irreducible] WL WC WQ QFun QLoop Does Q1 QRound QAssign Go.Addr.add
theorem end_any {b : Nat} {c : Option Addr} {cp : Nat} (B : Bld) (hB : B.l.length ≤ 1000000000000) (w0 : World) (m : Mem) (H : SHeap) :
    Does Try.prog 51 #[.pointer (some ⟨b, 0, none⟩)] w0 m (.blk b (.cells [.slice c B.l.length cp, str B.p, str B.d].toArray 109 (0, 0)) :: .row c cp 84 3 (B.l.map Stp.cs) :: H)
      (fun v m' H' => v = .tuple #[] ∧ m' = m ∧ ∃ c' cp', H' = .blk b (.cells [.slice c' B.close.l.length cp', str [], str []].toArray 109 (0, 0)) :: .row c' cp' 84 3 (B.close.l.map Stp.cs) :: H) := by
  refine Does.of_body (args := [.pointer (some ⟨b, 0, none⟩)]) Try.func51 rfl Try.ntmps51 rfl ?_
  have hml : (B.l.map Stp.cs).length = B.l.length := by simp
  by_cases hp : B.p = [] <;> by_cases hd : B.d = []
  · (try (refine st ?_; intros))
    have e : B.close.l = B.l := by simp [Bld.close, hp, hd]
    rw [hp, hd]
    exact q_finNorm0 (H0 := .blk b (.cells [.slice c B.l.length cp, str [], str []].toArray 109 (0, 0)) :: .row c cp 84 3 (B.l.map Stp.cs) :: H) ⟨rfl, rfl, c, cp, by rw [e]⟩ (hd := zpk)
  · (try (refine st ?_; intros))
    refine WC.drawE 14 ([.blk b (.cells [.slice c B.l.length cp, str B.p, str B.d].toArray 109 (0, 0))]) (.row c cp 84 3 (B.l.map Stp.cs) :: H) rfl (by decide +kernel) zpk ?_
    (refine cm0 ?_)
    refine WE.act1 10 (by decide +kernel) rfl rfl (fun c h => by cases h) ?_
    (refine st ?_; intros; rename_i q0)
    refine WQ.acted (B := []) (U := .blk q0 (.cells [.int .i64 0, str B.d, str []].toArray 84 (0, 0)) :: .row c cp 84 3 (B.l.map Stp.cs) :: H) rfl (Mem.le.refl _) zpk ?_
    refine WE.act1 11 (by decide +kernel) rfl rfl (fun c h => by cases h) ?_
    (refine st ?_; intros; rename_i c2 cp2)
    refine WQ.acted (B := []) (U := .row c2 cp2 84 3 (B.l.map Stp.cs ++ [[.int .i64 0, str B.d, str []]]) :: H) rfl (Mem.le.refl _) zpk ?_
    (refine cm0 ?_)
    refine WE.done (by decide +kernel) ?_
    (try (refine st ?_; intros))
    rw [hml, hp]
    have e : B.close.l = B.l ++ [⟨0, B.d, []⟩] := by simp [Bld.close, hp, hd]
    exact q_finNorm0 (H0 := .blk b (.cells [.slice c2 (B.l.length + 1) cp2, str [], str []].toArray 109 (0, 0)) :: .row c2 cp2 84 3 (B.l.map Stp.cs ++ [[.int .i64 0, str B.d, str []]]) :: H) ⟨rfl, rfl, c2, cp2, by rw [e]; simp [Stp.cs]⟩ (hd := zpk)
  · (try (refine st ?_; intros))
    refine WC.drawE 14 ([.blk b (.cells [.slice c B.l.length cp, str B.p, str B.d].toArray 109 (0, 0))]) (.row c cp 84 3 (B.l.map Stp.cs) :: H) rfl (by decide +kernel) zpk ?_
    (refine cm0 ?_)
    refine WE.act1 10 (by decide +kernel) rfl rfl (fun c h => by cases h) ?_
    (refine st ?_; intros; rename_i q0)
    refine WQ.acted (B := []) (U := .blk q0 (.cells [.int .i64 0, str [], str B.p].toArray 84 (0, 0)) :: .row c cp 84 3 (B.l.map Stp.cs) :: H) rfl (Mem.le.refl _) zpk ?_
    refine WE.act1 11 (by decide +kernel) rfl rfl (fun c h => by cases h) ?_
    (refine st ?_; intros; rename_i c2 cp2)
    refine WQ.acted (B := []) (U := .row c2 cp2 84 3 (B.l.map Stp.cs ++ [[.int .i64 0, str [], str B.p]]) :: H) rfl (Mem.le.refl _) zpk ?_
    (refine cm0 ?_)
    refine WE.done (by decide +kernel) ?_
    (try (refine st ?_; intros))
    rw [hml, hd]
    have e : B.close.l = B.l ++ [⟨0, [], B.p⟩] := by simp [Bld.close, hp, hd]
    exact q_finNorm0 (H0 := .blk b (.cells [.slice c2 (B.l.length + 1) cp2, str [], str []].toArray 109 (0, 0)) :: .row c2 cp2 84 3 (B.l.map Stp.cs ++ [[.int .i64 0, str [], str B.p]]) :: H) ⟨rfl, rfl, c2, cp2, by rw [e]; simp [Stp.cs]⟩ (hd := zpk)
  · have hml1 : (B.l.map Stp.cs ++ [[.int .i64 0, str [], str B.p]]).length = B.l.length + 1 := by simp
    (try (refine st ?_; intros))
    refine WC.drawE 14 ([.blk b (.cells [.slice c B.l.length cp, str B.p, str B.d].toArray 109 (0, 0))]) (.row c cp 84 3 (B.l.map Stp.cs) :: H) rfl (by decide +kernel) zpk ?_
    (refine cm0 ?_)
    refine WE.act1 10 (by decide +kernel) rfl rfl (fun c h => by cases h) ?_
    (refine st ?_; intros; rename_i q0)
    refine WQ.acted (B := []) (U := .blk q0 (.cells [.int .i64 0, str [], str B.p].toArray 84 (0, 0)) :: .row c cp 84 3 (B.l.map Stp.cs) :: H) rfl (Mem.le.refl _) zpk ?_
    refine WE.act1 11 (by decide +kernel) rfl rfl (fun c h => by cases h) ?_
    (refine st ?_; intros; rename_i c2 cp2)
    refine WQ.acted (B := []) (U := .row c2 cp2 84 3 (B.l.map Stp.cs ++ [[.int .i64 0, str [], str B.p]]) :: H) rfl (Mem.le.refl _) zpk ?_
    (refine cm0 ?_)
    refine WE.done (by decide +kernel) ?_
    (try (refine st ?_; intros))
    rw [hml]
    refine WC.drawE 14 ([.blk b (.cells [.slice c2 (B.l.length + 1) cp2, str B.p, str B.d].toArray 109 (0, 0))]) (.row c2 cp2 84 3 (B.l.map Stp.cs ++ [[.int .i64 0, str [], str B.p]]) :: H) rfl (by decide +kernel) zpk ?_
    (refine cm0 ?_)
    refine WE.act1 10 (by decide +kernel) rfl rfl (fun c h => by cases h) ?_
    (refine st ?_; intros; rename_i q0)
    refine WQ.acted (B := []) (U := .blk q0 (.cells [.int .i64 0, str B.d, str []].toArray 84 (0, 0)) :: .row c2 cp2 84 3 (B.l.map Stp.cs ++ [[.int .i64 0, str [], str B.p]]) :: H) rfl (Mem.le.refl _) zpk ?_
    refine WE.act1 11 (by decide +kernel) rfl rfl (fun c h => by cases h) ?_
    (refine st ?_; intros; rename_i c3 cp3)
    refine WQ.acted (B := []) (U := .row c3 cp3 84 3 (B.l.map Stp.cs ++ [[.int .i64 0, str [], str B.p]] ++ [[.int .i64 0, str B.d, str []]]) :: H) rfl (Mem.le.refl _) zpk ?_
    (refine cm0 ?_)
    refine WE.done (by decide +kernel) ?_
    (try (refine st ?_; intros))
    rw [hml1]
    have e : B.close.l = B.l ++ [⟨0, [], B.p⟩] ++ [⟨0, B.d, []⟩] := by simp [Bld.close, hp, hd]
    exact q_finNorm0 (H0 := .blk b (.cells [.slice c3 (B.l.length + 1 + 1) cp3, str [], str []].toArray 109 (0, 0)) :: .row c3 cp3 84 3 (B.l.map Stp.cs ++ [[.int .i64 0, str [], str B.p]] ++ [[.int .i64 0, str B.d, str []]]) :: H) ⟨rfl, rfl, c3, cp3, by rw [e]; simp [Stp.cs]⟩ (hd := zpk)
end Go.Proofs.Ytelgegefmjlimaa

/-
  The walks of package edit, seventh part: the keep of the maker of the reference. No condition.
-/
namespace Go.Proofs.Ytelgegefmjlimaa
open Go Go.Eng
set_option maxRecDepth 100000
set_option maxHeartbeats 4000000
set_option linter.all false
attribute [local irreducible] WL WC WQ QFun QLoop Does Q1 QRound QAssign Go.Addr.add
theorem mkeep_any {b : Nat} {c : Option Addr} {cp : Nat} (B : Bld) (n : Nat) (hn : n ≤ 100000000000) (hB : BFit 100000000000 B) (w0 : World) (m : Mem) (H : SHeap) :
    Does Try.prog 50 #[.pointer (some ⟨b, 0, none⟩), .int .i64 (n : Int)] w0 m (.blk b (.cells [.slice c B.l.length cp, str B.p, str B.d].toArray 109 (0, 0)) :: .row c cp 84 3 (B.l.map Stp.cs) :: H)
      (fun v m' H' => v = .tuple #[] ∧ m' = m ∧ ∃ c' cp', H' = .blk b (.cells [.slice c' (B.keep n).l.length cp', str (B.keep n).p, str (B.keep n).d].toArray 109 (0, 0)) :: .row c' cp' 84 3 ((B.keep n).l.map Stp.cs) :: H) := by
  refine Does.of_body (args := [.pointer (some ⟨b, 0, none⟩), .int .i64 (n : Int)]) Try.func50 rfl Try.ntmps50 rfl ?_
  have hlen := hB.len
  by_cases h0 : n = 0
  · subst h0
    (try (refine st ?_; intros))
    exact q_fin0 (H0 := .blk b (.cells [.slice c B.l.length cp, str B.p, str B.d].toArray 109 (0, 0)) :: .row c cp 84 3 (B.l.map Stp.cs) :: H) ⟨rfl, rfl, c, cp, rfl⟩ (hd := zpk)
  · (try (refine st ?_; intros))
    refine w_callF Try.func51 ?_ (hs := end_any B (by omega) _ _ _)
    rintro v m1 H1 ⟨rfl, rfl, c1, cp1, rfl⟩
    have hkeep : B.keep n = ⟨addKeep B.close.l n, [], []⟩ := by unfold Bld.keep; rw [if_neg (by omega)]
    have hc := hB.close
    rw [hkeep]
    have hcl := hc.len
    have hck := hc.k
    generalize B.close.l = L at *
    have hml : (L.map Stp.cs).length = L.length := by simp
    rcases snoc_cases L with hL | ⟨ys, s, hL⟩
    · have hl0 : L.length = 0 := by rw [hL]; rfl
      (refine st ?_; intros; rename_i x2 c2 cp2)
      rw [hml]
      have e : addKeep L n = L ++ [⟨n, [], []⟩] := by rw [hL]; rfl
      exact q_finNorm0 (H0 := .blk b (.cells [.slice c2 (L.length + 1) cp2, str [], str []].toArray 109 (0, 0)) :: .row c2 cp2 84 3 (L.map Stp.cs ++ [[.int .i64 n, str [], str []]]) :: H) ⟨rfl, rfl, c2, cp2, by rw [e]; simp [Stp.cs]⟩ (hd := zpk)
    · have hl1 : L.length = ys.length + 1 := by rw [hL]; simp
      have hget : (L.map Stp.cs)[L.length - 1]? = some s.cs := by rw [hL]; simp
      have hsk := hck s (by rw [hL]; simp)
      refine WL.rowSome (a := c1) zhs (by omega) ?_
      rintro c0 rfl
      by_cases hs : 0 < s.k
      · (try (refine st ?_; intros))
        have e : (addKeep L n).length = L.length ∧ (addKeep L n).map Stp.cs = (L.map Stp.cs).set (L.length - 1) [.int .i64 (s.k + n), str s.d, str s.p] := by
          rw [hL]; constructor <;> simp [addKeep, hs, Stp.cs]
        exact q_fin0 (H0 := .blk b (.cells [.slice (some c0) L.length cp1, str [], str []].toArray 109 (0, 0)) :: .row (some c0) cp1 84 3 ((L.map Stp.cs).set (L.length - 1) [.int .i64 (s.k + n), str s.d, str s.p]) :: H) ⟨rfl, rfl, some c0, cp1, by rw [e.1, e.2]⟩ (hd := zpk)
      · (refine st ?_; intros; rename_i x2 c2 cp2)
        rw [hml]
        have e : addKeep L n = L ++ [⟨n, [], []⟩] := by rw [hL]; simp [addKeep, hs]
        exact q_finNorm0 (H0 := .blk b (.cells [.slice c2 (L.length + 1) cp2, str [], str []].toArray 109 (0, 0)) :: .row c2 cp2 84 3 (L.map Stp.cs ++ [[.int .i64 n, str [], str []]]) :: H) ⟨rfl, rfl, c2, cp2, by rw [e]; simp [Stp.cs]⟩ (hd := zpk)
end Go.Proofs.Ytelgegefmjlimaa

/-
  The walks of package edit, third part: the sizes of a change, by the reference. No condition.
-/
namespace Go.Proofs.Ytelgegefmjlimaa
open Go Go.Eng
set_option maxRecDepth 100000
set_option maxHeartbeats 4000000
set_option linter.all false
attribute [local irreducible] WL WC WQ QFun QLoop Does Q1 QRound QAssign Go.Addr.add
attribute [local irreducible] sizesF sizesOf
theorem refSizes_any {a : Option Addr} {cap : Nat} {l : List Stp} (hf : Fit l) (w0 : World) (m : Mem) (H : SHeap) (hr : RowR w0 m H 3 a (l.map Stp.cs)) :
    Does Try.prog 14 #[.slice a l.length cap] w0 m H (Gives (szR (sizesOf l)) m H) := by
  refine Does.of_body (args := [.slice a l.length cap]) Try.func14 rfl Try.ntmps14 rfl ?_
  have hln : (l.map Stp.cs).length = l.length := by simp
  have hlen := hf.len
  (try (refine st ?_; intros))
  refine WC.loopH [(7, .int .i64 ((0) : Int)), (0, .slice a l.length cap), (5, .int .i64 (0)), (6, .int .i64 (0))] ?_ ?_ (fun j r ds m' H' => ∃ (i : _) (f : Int) (t : Int), j = l.length - i ∧ r = [(7, .int .i64 (i : Int)), (0, .slice a l.length cap), (5, .int .i64 f), (6, .int .i64 t)] ∧ ds = [] ∧ m = m' ∧ H' = H ∧ (i ≤ l.length) ∧ (0 ≤ f ∧ f ≤ 65536 ∧ 0 ≤ t ∧ t ≤ 65536) ∧ (sizesF (l.drop i) f t = sizesOf l) ∧ (RowR w0 m H 3 a (l.map Stp.cs))) (l.length - (0)) ⟨0, 0, 0, rfl, rfl, rfl, rfl, rfl, by omega, by omega, by rw [sizesOf]; rfl, hr⟩ ?_
  · (repeat (first | exact Env.Sub.nil | refine Env.Sub.cons rfl ?_))
  · exact zpk
  rintro j r ds m' H' ⟨i, f, t, rfl, rfl, rfl, rfl, rfl, hi, hn, hs, hr⟩
  generalize H' = H at *
  by_cases hlt : i < l.length
  · obtain ⟨x, hx, hget, htk, hmem, hdr⟩ := at_idx (f := Stp.cs) hlt
    have hk := hf.k x hmem
    have hd := hf.d x hmem
    have hp := hf.p x hmem
    rw [hdr] at hs
    refine WC.rSome hr (by omega) ?_
    rintro a0 rfl
    have hdl : x.d = [] → x.d.length = 0 := fun h => by rw [h]; rfl
    have hpl : x.p = [] → x.p.length = 0 := fun h => by rw [h]; rfl
    by_cases h2 : x.d = [] <;> by_cases h3 : x.p = [] <;> rcases (show x.k < 0 ∨ x.k = 0 ∨ 0 < x.k by omega) with h1 | h1 | h1
    · rw [sizesF_bad (fun h => by rcases h.1 with g | g | g <;> omega)] at hs
      (try (refine st ?_; intros))
      exact q_fin0 (H0 := H) (Gives.mk (by rw [← hs]; try rfl)) (hd := zpk)
    · rw [sizesF_bad (fun h => by simp [stpOk, h1, h2, h3] at h)] at hs
      have hb : (!(!dcd (x.p = []))) = true := by rw [dcd_true h3]; rfl
      (try (refine st ?_; intros))
      exact q_fin0 (H0 := H) (Gives.mk (by rw [← hs]; try rfl)) (hd := zpk)
    · have h2' := hdl h2
      have h3' := hpl h3
      by_cases h6 : 65536 < x.k
      · rw [sizesF_bad (by omega)] at hs
        (try (refine st ?_; intros))
        exact q_fin0 (H0 := H) (Gives.mk (by rw [← hs]; try rfl)) (hd := zpk)
      · have hok : stpOk x := .inl ⟨by omega, h2, h3⟩
        by_cases h4 : f + x.k + (x.d.length : Int) ≤ 65536
        · by_cases h7 : t + x.k + (x.p.length : Int) ≤ 65536
          · rw [sizesF_good hok (by omega) (by omega) (by omega)] at hs
            (try (refine st ?_; intros))
            refine WQ.next (l.length - (i + 1)) ⟨i + 1, _, _, rfl, rfl, rfl, rfl, rfl, ?_, ?_, ?_, ?_⟩ (by omega) zsb zpk
            · omega
            · omega
            · exact hs
            · assumption
          · rw [sizesF_bad (by omega)] at hs
            (try (refine st ?_; intros))
            exact q_fin0 (H0 := H) (Gives.mk (by rw [← hs]; try rfl)) (hd := zpk)
        · rw [sizesF_bad (by omega)] at hs
          (try (refine st ?_; intros))
          exact q_fin0 (H0 := H) (Gives.mk (by rw [← hs]; try rfl)) (hd := zpk)
    · rw [sizesF_bad (fun h => by rcases h.1 with g | g | g <;> omega)] at hs
      (try (refine st ?_; intros))
      exact q_fin0 (H0 := H) (Gives.mk (by rw [← hs]; try rfl)) (hd := zpk)
    · have hok : stpOk x := .inr (.inr ⟨h1, h2, h3⟩)
      have h2' := hdl h2
      have hb : (!(!dcd (x.p = []))) = false := by rw [dcd_false h3]; rfl
      by_cases h4 : t + x.k + (x.p.length : Int) ≤ 65536
      · rw [sizesF_good hok (by omega) (by omega) (by omega)] at hs
        (try (refine st ?_; intros))
        refine WQ.next (l.length - (i + 1)) ⟨i + 1, _, _, rfl, rfl, rfl, rfl, rfl, ?_, ?_, ?_, ?_⟩ (by omega) zsb zpk
        · omega
        · omega
        · exact hs
        · assumption
      · rw [sizesF_bad (by omega)] at hs
        (try (refine st ?_; intros))
        exact q_fin0 (H0 := H) (Gives.mk (by rw [← hs]; try rfl)) (hd := zpk)
    · rw [sizesF_bad (fun h => by rcases h.1 with g | g | g <;> first | omega | exact h3 g.2.2)] at hs
      (try (refine st ?_; intros))
      exact q_fin0 (H0 := H) (Gives.mk (by rw [← hs]; try rfl)) (hd := zpk)
    · rw [sizesF_bad (fun h => by rcases h.1 with g | g | g <;> omega)] at hs
      (try (refine st ?_; intros))
      exact q_fin0 (H0 := H) (Gives.mk (by rw [← hs]; try rfl)) (hd := zpk)
    · have hok : stpOk x := .inr (.inl ⟨h1, h2, h3⟩)
      have h3' := hpl h3
      by_cases h4 : f + x.k + (x.d.length : Int) ≤ 65536
      · rw [sizesF_good hok (by omega) (by omega) (by omega)] at hs
        (try (refine st ?_; intros))
        refine WQ.next (l.length - (i + 1)) ⟨i + 1, _, _, rfl, rfl, rfl, rfl, rfl, ?_, ?_, ?_, ?_⟩ (by omega) zsb zpk
        · omega
        · omega
        · exact hs
        · assumption
      · rw [sizesF_bad (by omega)] at hs
        (try (refine st ?_; intros))
        exact q_fin0 (H0 := H) (Gives.mk (by rw [← hs]; try rfl)) (hd := zpk)
    all_goals
      rw [sizesF_bad (fun h => by rcases h.1 with g | g | g <;> first | omega | exact h2 g.2.1 | exact h3 g.2.2)] at hs
      (try (refine st ?_; intros))
      exact q_fin0 (H0 := H) (Gives.mk (by rw [← hs]; try rfl)) (hd := zpk)
  · obtain rfl : i = l.length := by omega
    rw [List.drop_length, sizesF] at hs
    (try (refine st ?_; intros))
    exact q_fin0 (H0 := H) (Gives.mk (by rw [← hs]; try rfl)) (hd := zpk)
end Go.Proofs.Ytelgegefmjlimaa

