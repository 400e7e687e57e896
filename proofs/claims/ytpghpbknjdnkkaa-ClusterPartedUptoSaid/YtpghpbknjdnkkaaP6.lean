/-
  Parts of a walk, joined: C19 EngQ. No condition.
-/
import Derived.Test.YtpghpbknjdnkkaaP4
import Derived.Test.YtpghpbknjdnkkaaP5
import Derived.Test.YtpghpbknjdnkkaaP3
import Derived.ChangeMaps5
import Derived.ReadAgain
import Derived.ChangeBook
import Derived.Deep.Slices
import Derived.WalkKit
import Derived.ProofKit
import Derived.OpenShut
import Derived.JoinedCond
set_option linter.all false
/-
  The walk of the law ClusterParted. No condition.
-/
namespace Go.Eng
open Go
theorem sub_back {q n : Nat} {B : List Cl} (h : Ch q B n) {i : Nat} {c : Cl} (hc : B[i]? = some c) : q ≤ c.a ∧ q ≤ c.z := by
  have := ch_mem h (List.mem_of_getElem? hc); omega
end Go.Eng
namespace Go.Proofs.Ytpghpbknjdnkkaa
open Go Go.Eng
set_option maxRecDepth 100000
set_option maxHeartbeats 4000000
set_option linter.all false
attribute [local irreducible] WL WC WQ QFun QLoop Does Q1 QRound QAssign Go.Addr.add
attribute [local irreducible] clusters
theorem clusterParted_any (l : List UInt8) (k : Int) (hl : l.length ≤ 1048576) (w0 : World) (m : Mem) (H : SHeap) :
    Does Try.prog 6 #[str l, .int .i64 k] w0 m H (fun v m' _ => v = .bool true ∧ m.le m') := by
  refine Does.of_body (args := [str l, .int .i64 k]) Try.func6 rfl Try.ntmps6 rfl ?_
  have hcl := clusters_len l
  have hel : ((clusters l).map Cl.cs).length = (clusters l).length := List.length_map _
  (try (refine st ?_; intros))
  refine w_callF Try.func11 ?_ (hs := works_any _ _ _)
  rintro v m1 H ⟨hle1, rfl, rfl⟩
  (try (refine st ?_; intros))
  refine w_callF Try.func19 ?_ (hs := cells_any l (by omega) _ _ _)
  rintro v m2 H2 ⟨hle2, a, cp, rfl, rfl⟩
  have hm2 : m.le m2 := hle1.trans hle2
  by_cases hk : 0 ≤ k ∧ k ≤ ((clusters l).length : Int)
  · obtain ⟨n, rfl⟩ : ∃ n : Nat, k = (n : Int) := ⟨k.toNat, by omega⟩
    have hn : n ≤ (clusters l).length := by omega
    obtain ⟨A, hA⟩ : ∃ A, (clusters l).take n = A := ⟨_, rfl⟩
    obtain ⟨B, hB⟩ : ∃ B, (clusters l).drop n = B := ⟨_, rfl⟩
    have hAB : clusters l = A ++ B := by rw [← hA, ← hB, List.take_append_drop]
    have hAl : A.length = n := by rw [← hA, List.length_take]; omega
    have hBl : B.length = (clusters l).length - n := by rw [← hB, List.length_drop]
    obtain ⟨hq, hpA, hpB⟩ := cl_part hAB
    have hch : Ch (startOf l B) B l.length := by
      have h := ch_all l
      rw [hAB] at h
      cases B with
      | nil => rfl
      | cons b bs => exact ⟨rfl, (ch_app h).2.1, (ch_app h).2.2.1, (ch_app h).2.2.2⟩
    have hst : (n < (clusters l).length ∧ ∃ b, (clusters l)[n]? = some b ∧ startOf l B = b.a) ∨ (n = (clusters l).length ∧ startOf l B = l.length) := by
      rcases Nat.lt_or_ge n (clusters l).length with h | h
      · obtain ⟨b, hb⟩ : ∃ b, (clusters l)[n]? = some b := ⟨_, List.getElem?_eq_getElem h⟩
        refine .inl ⟨h, b, hb, ?_⟩
        rw [← hB, (take_step hb).2]; rfl
      · refine .inr ⟨by omega, ?_⟩
        rw [← hB, List.drop_of_length_le h]; rfl
    generalize startOf l B = q at *
    have hgetE : ∀ (u : Nat) (x : Cl), (clusters l)[u]? = some x → ((clusters l).map Cl.cs)[u]? = some [.int .i64 (x.a : Int), .int .i64 (x.z : Int), .int .i64 (x.c : Int)] := fun u x h => by rw [List.getElem?_map, h]; rfl
    generalize hE : (clusters l).map Cl.cs = E at *
    (try (refine st ?_; intros))
    refine WC.join (fun r' ds' m' H' => r' = [(6, .int .i64 (q : Int)), (5, .slice a (clusters l).length cp), (0, str l), (1, .int .i64 (n : Int))] ∧ ds' = [] ∧ m' = m2 ∧ H' = .row a cp 38 3 E :: H) ?_ ?_
    · rcases hst with ⟨h, b, hb, rfl⟩ | ⟨h, rfl⟩
      · have hget := hgetE _ _ hb
        refine WC.rowSome (a := a) (es := E) zhs (by omega) ?_
        rintro a0 rfl
        (try (refine st ?_; intros))
        exact WQ.join ⟨rfl, rfl, rfl, rfl⟩ zsb zpk
      · (try (refine st ?_; intros))
        exact WQ.join ⟨rfl, rfl, rfl, rfl⟩ zsb zpk
    rintro r ds m2 H2 ⟨rfl, rfl, rfl, rfl⟩
    have hBm : (B.map (Cl.sub q)).length = B.length := List.length_map _
    (try (refine st ?_; intros))
    refine WC.drawE 10 ([]) (.row a cp 38 3 E :: H) rfl (by decide +kernel) zpk ?_
    (refine cm0 ?_)
    refine WE.act1 3 (by decide +kernel) rfl rfl (fun c h => by cases h) ?_
    (try (refine st ?_; intros))
    refine w_callF Try.func19 ?_ (hs := cells_any _ (by rw [List.length_take]; omega) _ _ _)
    rintro v m3 H3 ⟨hle3, a1, cp1, rfl, rfl⟩
    rw [hpA]
    (try (refine st ?_; intros))
    refine WQ.acted (B := [.row a1 cp1 38 3 (A.map Cl.cs)]) (U := .row a cp 38 3 E :: H) rfl hle3 zpk ?_
    (refine cm0 ?_)
    refine WE.act1 7 (by decide +kernel) rfl rfl (fun c h => by cases h) ?_
    (try (refine st ?_; intros))
    refine w_callF Try.func19 ?_ (hs := cells_any _ (by rw [List.length_drop]; omega) _ _ _)
    rintro v m4 H4 ⟨hle4, a2, cp2, rfl, rfl⟩
    rw [hpB, hBm]
    (try (refine st ?_; intros))
    refine WQ.acted (B := [.row a2 cp2 38 3 ((B.map (Cl.sub q)).map Cl.cs)]) (U := .row a cp 38 3 E :: H) rfl hle4 zpk ?_
    (refine cm0 ?_)
    refine WE.done (by decide +kernel) ?_
    (try (refine st ?_; intros))
    refine WC.loopH [(45, .int .i64 ((0) : Int)), (44, .int .i64 (B.length : Int)), (8, .slice a2 B.length cp2), (7, .slice a1 A.length cp1), (6, .int .i64 (q : Int)), (5, .slice a (clusters l).length cp), (0, str l), (1, .int .i64 (n : Int))] ?_ ?_ (fun j r ds m' H' => ∃ (i : Nat) (G : List (List Value)), j = B.length - i ∧ r = [(45, .int .i64 (i : Int)), (44, .int .i64 (B.length : Int)), (8, .slice a2 B.length cp2), (7, .slice a1 A.length cp1), (6, .int .i64 (q : Int)), (5, .slice a (clusters l).length cp), (0, str l), (1, .int .i64 (n : Int))] ∧ ds = [] ∧ m4 = m' ∧ H' = .row a2 cp2 38 3 G :: .row a1 cp1 38 3 (A.map Cl.cs) :: .row a cp 38 3 E :: H ∧ (G = (B.take i).map Cl.cs ++ ((B.drop i).map (Cl.sub q)).map Cl.cs) ∧ (i ≤ B.length)) (B.length - (0)) ⟨0, (B.map (Cl.sub q)).map Cl.cs, rfl, rfl, rfl, rfl, rfl, rfl, Nat.zero_le _⟩ ?_
    · (repeat (first | exact Env.Sub.nil | refine Env.Sub.cons rfl ?_))
    · exact zpk
    rintro j r ds m' H' ⟨i, G, rfl, rfl, rfl, rfl, rfl, hG, hi⟩
    have hGl : G.length = B.length := by rw [hG]; simp; omega
    by_cases hlt : i < B.length
    · obtain ⟨c, hc⟩ : ∃ c, B[i]? = some c := ⟨_, List.getElem?_eq_getElem hlt⟩
      obtain ⟨hs1, hs2⟩ := sub_back hch hc
      have hcm := ch_mem hch (List.mem_of_getElem? hc)
      obtain ⟨ht, hd⟩ := take_step hc
      have hget : G[i]? = some [.int .i64 ((c.a - q : Nat) : Int), .int .i64 ((c.z - q : Nat) : Int), .int .i64 (c.c : Int)] := by
        rw [hG, List.getElem?_append_right (by simp; omega), hd]
        simp [Nat.min_eq_left (Nat.le_of_lt hlt), Cl.sub, Cl.cs]
      have hget2 : (G.set i [.int .i64 (((c.a - q : Nat) : Int) + (q : Int)), .int .i64 ((c.z - q : Nat) : Int), .int .i64 (c.c : Int)])[i]? = some [.int .i64 (((c.a - q : Nat) : Int) + (q : Int)), .int .i64 ((c.z - q : Nat) : Int), .int .i64 (c.c : Int)] := List.getElem?_set_self (by omega)
      have hnew : (G.set i [.int .i64 (((c.a - q : Nat) : Int) + (q : Int)), .int .i64 ((c.z - q : Nat) : Int), .int .i64 (c.c : Int)]).set i [.int .i64 (((c.a - q : Nat) : Int) + (q : Int)), .int .i64 (((c.z - q : Nat) : Int) + (q : Int)), .int .i64 (c.c : Int)] = (B.take (i + 1)).map Cl.cs ++ ((B.drop (i + 1)).map (Cl.sub q)).map Cl.cs := by
        rw [List.set_set, hG, hd, List.map_cons, List.map_cons, List.set_append_right _ _ (by simp; omega), ht, List.map_append, List.append_assoc]
        congr 1
        have hl : ((B.take i).map Cl.cs).length = i := by simp; omega
        rw [hl, Nat.sub_self, List.set_cons_zero]
        congr 1
        rw [show ((c.a - q : Nat) : Int) + (q : Int) = (c.a : Int) by omega, show ((c.z - q : Nat) : Int) + (q : Int) = (c.z : Int) by omega]
        rfl
      have hGl2 : (G.set i [.int .i64 (((c.a - q : Nat) : Int) + (q : Int)), .int .i64 ((c.z - q : Nat) : Int), .int .i64 (c.c : Int)]).length = B.length := by rw [List.length_set]; exact hGl
      refine WC.rowSome (a := a2) (es := G) zhs (by omega) ?_
      rintro a20 rfl
      (try (refine st ?_; intros))
      rw [hnew]
      refine WQ.next (B.length - (i + 1)) ⟨i + 1, (B.take (i + 1)).map Cl.cs ++ ((B.drop (i + 1)).map (Cl.sub q)).map Cl.cs, rfl, rfl, rfl, rfl, rfl, ?_, ?_⟩ (by omega) zsb zpk
      · rfl
      · omega
    · have hGe : G = B.map Cl.cs := by rw [hG, List.take_of_length_le (by omega), List.drop_of_length_le (by omega)]; simp
      subst hGe
      (refine st ?_; intros; rename_i bS)
      refine WL.heap (H' := .blk bS (.cells [.slice a1 A.length cp1, .slice a2 B.length cp2].toArray 42 (0, 0)) :: .row a1 cp1 38 3 (A.map Cl.cs) :: .row a2 cp2 38 3 (B.map Cl.cs) :: .row a cp 38 3 E :: H) zpk ?_
      refine w_callF Try.func23 ?_ (hs := concat_any (by omega) (by omega) _ _ _)
      rintro v m4 H5 ⟨rfl, a3, cp3, rfl, rfl⟩
      (try (refine st ?_; intros))
      subst hE
      refine w_callF Try.func18 ?_ (hs := equal_any (L1 := A ++ B) (L2 := clusters l) (by rw [← hAB]; omega) (by omega) (RowR.row (T := 38) (cap := cp3) zhs) (RowR.row (T := 38) (cap := cp) zhs))
      rintro v m4 H5 ⟨rfl, rfl, rfl⟩
      have hm4 : m.le m4 := hm2.trans (hle3.trans hle4)
      have he : A ++ B = clusters l := hAB.symm
      (try (refine st ?_; intros))
      refine w_callF Try.func11 ?_ (hs := works_true hm4 _ _)
      rintro v m9 H9 ⟨hle9, rfl, rfl⟩
      (try (refine st ?_; intros))
      exact q_fin0 (H0 := H) ⟨rfl, hle9⟩ (hd := zpk)
  · have hks : k < 0 ∨ (¬ k < 0 ∧ ((clusters l).length : Int) < k) := by omega
    rcases hks with h | ⟨h, h2⟩
    all_goals
      (try (refine st ?_; intros))
      refine w_callF Try.func11 ?_ (hs := works_true hm2 _ _)
      rintro v m9 H9 ⟨hle9, rfl, rfl⟩
      (try (refine st ?_; intros))
      exact q_fin0 (H0 := H) ⟨rfl, hle9⟩ (hd := zpk)
end Go.Proofs.Ytpghpbknjdnkkaa

/-
  A walk's engine, sixteenth part: how a law's arguments are read, ahead of the call and behind it. No condition.
-/
set_option linter.all false
namespace Go.Eng
open Go Go.RowKit Go.ChangeShapes Go.WideShapes Go.ChangeMaps
section
variable {H : Type} {enc : TypeId × Value → H} {P : Program}
theorem same_below {W W' : World} (hb : Below W.heap.size W W') {p : MemPlace} (hp : p.block < W.heap.size) : W.sameAt W' p := by
  cases p with
  | cell b off =>
    have h := hb.block b hp
    show W'.cell? ⟨b, off, none⟩ = W.cell? ⟨b, off, none⟩
    simp only [World.cell?, h]
  | map b => exact hb.block b hp
theorem trod_again {W W' : World} {sp : Nat → Bool} {t : TypeId} {v : Value} {d : DataW H} {p : List MemPlace} (hl : laidOutB P = true) (ht : t < P.types.size) (hr : P.readableRec t = true)
    (h : DataW.Trod enc P W 0 (fun _ => true) true t v d p) (hlt : ∀ q ∈ p, q.block < W.heap.size) (hb : Below W.heap.size W W') (hs : ∀ q ∈ p, sp q.block = true) : DataW.Trod enc P W' 0 sp true t v d p := by
  obtain ⟨n, hn⟩ := h
  have h1 := DataW.trod_carry (w' := W') n _ _ _ hn (fun q hq => same_below hb (hlt q hq))
  exact ⟨n, DataW.trod_respare (kids_book hl hr) (fun t e hT hu => book_sized hr hT hu) n _ _ _ ⟨ht, book_self t⟩ h1 hs⟩
theorem args_again {W W' : World} {sp : Nat → Bool} (hl : laidOutB P = true) (hb : Below W.heap.size W W') : ∀ {ts : List TypeId} {vs : List Value} {ds : List (DataW H)} {p : List MemPlace},
    (∀ t ∈ ts, t < P.types.size ∧ P.readableRec t = true) → DataW.TrodAll enc P W 0 (fun _ => true) true ts vs ds p → (∀ q ∈ p, sp q.block = true) → DataW.TrodAll enc P W' 0 sp true ts vs ds p
  | [], [], [], _, _, h, _ => h
  | t :: ts, v :: vs, d :: ds, p, hts, h, hs => by
    have hlt := DataW.TrodAll.lt h
    obtain ⟨a, b, h1, h2, e⟩ := h
    subst e
    obtain ⟨g1, g2⟩ := hts t List.mem_cons_self
    exact ⟨a, b, trod_again hl g1 g2 h1 (fun q hq => hlt q (List.mem_append_left _ hq)) hb (fun q hq => hs q (List.mem_append_left _ hq)),
      args_again hl hb (fun t ht => hts t (List.mem_cons_of_mem _ ht)) h2 (fun q hq => hs q (List.mem_append_right _ hq)), rfl⟩
/-- a law that says true, and leaves all that it was handed -/
theorem post_true {f : Func} {s : ChangeSpec} {apart fresh handsOn again : Bool} {W W' : World} {args : Array Value} {ds gs : List (DataW H)} {before : List MemPlace} {tb : TypeId}
    (hW : DataW.Whole enc P f.params.toList s.vars apart W args.toList ds gs before) (hvars : s.vars = []) (hfn : s.fn H (ds ++ gs) = { results := [.lit (.bool true)], args := ds })
    (hres : f.resultTypes = #[tb]) (htb : P.underlying tb = some .bool) (hl : laidOutB P = true) (hts : (f.params.toList.all fun t => decide (t < P.types.size) && P.readableRec t) = true) (hb : Below W.heap.size W W') :
    s.post enc P f apart fresh handsOn again W args (.bool true) W' := by
  have hW2 := hW
  obtain ⟨p, q, hA, hV, e, _, _⟩ := hW
  rw [hvars] at hV
  obtain ⟨rfl, rfl⟩ := trodVars_none hV
  rw [List.append_nil] at e
  subst e
  have hts' : ∀ t ∈ f.params.toList, t < P.types.size ∧ P.readableRec t = true := fun t ht => by simpa using List.all_eq_true.1 hts t ht
  refine post_below (pa := before) (pv := []) hW2 (fun _ _ _ => ?_) (fun sp hs => ?_) (fun _ _ => ?_) (by simp) hb ?_
  · rw [hfn, hres]; exact trodAll_cons_mk (shut_bool htb _) trodAll_mk0
  · rw [hfn]; exact args_again hl hb hts' hA hs
  · rw [hfn, hvars]; rfl
  · intro j t r h1 h2
    rw [hres] at h1 h2
    match j, h1 with
    | 0, h1 =>
      simp at h1; subst h1
      simp [Value.resultList] at h2
      subst h2
      exact okWide_bool_mk htb _
end
end Go.Eng

