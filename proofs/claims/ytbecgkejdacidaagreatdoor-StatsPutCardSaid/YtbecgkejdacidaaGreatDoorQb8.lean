/-
  A part of a proof: texts packed by a program of mine (Pp1, Pp2, Pp3, Pl9, PpCl).
  Conditions: those that each theorem states.
-/
import Derived.BigQuiet
import Derived.Test.YtbecgkejdacidaaGreatDoorRows
import Derived.JoinedOf
import GoSem.ClaimSeven
import Derived.SevenTiedAt
import Derived.Test.YtbecgkejdacidaaGreatDoorQa7
namespace Go.Proofs.YtbecgkejdacidaaGreatDoor
section
open Go Go.RowKit
theorem kpAt_eq {L : List Ty} {W : List Nat} {ss : List Nat} {cs : List Ce} (hm : ∀ k, k ∈ ss ↔ ∃ d ∈ objs cs, d.2.typ = k) (id : Nat) : kpAt (fun k => keptOf L W (ofType (objs cs) k)) ss id = keptOf L W (ofType (objs cs) id) := by
 unfold kpAt
 split
 · rfl
 · rename_i h
   have h1 : ofType (objs cs) id = [] := by
    unfold ofType
    rw [List.filter_eq_nil_iff]
    intro d hd he
    exact h ((hm id).2 ⟨d, hd, by simpa using he⟩)
   rw [h1]
   rfl
theorem good_total {L : List Ty} {W : List Nat} {cs : List Ce} (h : Good L W cs) : sumBy cSize (objs cs) + freeOf cs = W.length / 2 := by
 have h1 := h.chain.sum
 have h2 := sum_cells cs cSize
 unfold freeOf
 omega
theorem objs_gapped {a b : List Ce} {c : Ce} (hgap : c.2.tag ≠ 1) : objs (a ++ c :: b) = objs a ++ objs b := by
 rw [objs_append]
 congr 1
 unfold objs
 rw [List.filter_cons_of_neg (by rw [isObj_iff]; exact hgap)]
theorem put_free {L : List Ty} {W : List Nat} {a b : List Ce} {c : Ce} (h : Good L W (a ++ c :: b)) (hgap : c.2.tag ≠ 1) {g : Nat} {hd : Hd} (hf : fits L hd) (ht : hd.tag = 1) (hc : c.1 ≤ g) (hr : g + hd.size ≤ c.1 + c.2.size) :
  freeOf (a ++ putC c g hd ++ b) + hd.size = freeOf (a ++ c :: b) := by
 have h1 := good_total h
 have h2 := good_total (h.put hf hc hr)
 rw [putW_len] at h2
 rw [objs_gapped hgap, sumBy_append] at h1
 rw [objs_put ht, sumBy_append, sumBy_cons] at h2
 have h3 : cSize (g, hd) = hd.size := rfl
 omega
theorem chain_one {L : List Ty} {W : List Nat} {e : Nat} {p q p' q' : List Ce} {x y : Ce} (h : Chain L W 0 (p ++ x :: q) e) (he : p ++ x :: q = p' ++ y :: q') (hxy : x.1 = y.1) : p = p' ∧ x = y ∧ q = q' := by
 obtain ⟨h1, -, -⟩ := h.split
 rw [he] at h
 obtain ⟨h2, -, -⟩ := h.split
 rw [hxy] at h1
 obtain rfl := Chain.same h1 h2
 have h3 := List.append_cancel_left he
 cases h3
 exact ⟨rfl, rfl, rfl⟩
theorem drop_words {L : List Ty} {W : List Nat} {pre post : List Ce} {c : Ce} {e : Nat} (hC : Chain L W 0 (pre ++ c :: post) e) : ∀ d ∈ objs pre ++ objs post, ∀ j, 2 * d.1 < j → j < 2 * (d.1 + d.2.size) → (dropW W pre c post)[j]? = W[j]? := by
 obtain ⟨a, ga, gb, b, rfl, rfl, ha2, hb2, ha3, hb3, h4, h5, h6⟩ := drop_parts hC
 intro d hd j h1 h2
 rw [objs_append, objs_append, objs_none ha2, objs_none hb2, List.append_nil, List.nil_append] at hd
 unfold dropW
 refine lay_ne (.inr ?_)
 rcases List.mem_append.1 hd with hd | hd
 · have := h4.mem d (objs_mem hd).1
   omega
 · have h7 := h6.mem d (objs_mem hd).1
   have := h5.le
   omega
theorem put_numbers {L : List Ty} {W B W' B' : List Nat} {cs cs' : List Ce} {g id n : Int} (h : Pl L W B cs) (hr : PutRes L W B cs g id n 0 W' B' cs') :
  (∀ k, keptOf L W' (ofType (objs cs') k) = (let x := keptOf L W (ofType (objs cs) k)
    if (k : Int) = id then ⟨x.objects + 1, x.granules + tySize L id n, x.slots + (tyAt L id).slots n.toNat, x.refs + ((tyAt L id).refs n.toNat).length, x.nils + ((tyAt L id).refs n.toNat).length⟩ else x)) ∧ freeOf cs' + tySize L id n = freeOf cs ∧
  tyErr L id n = 0 ∧ 1 ≤ id ∧ id ≤ L.length ∧ 0 ≤ n ∧ 0 ≤ g ∧ g < (W.length / 2 : Nat) := by
 rcases hr with ⟨h0, -⟩ | ⟨-, he, hg0, hg1, a, c, b, rfl, ht, rfl, rfl⟩
 · exact absurd rfl h0
 obtain ⟨t1, t2, t3, t4⟩ := ht
 have hf := new_fits he h.good.few
 obtain ⟨hi1, hi2, hn0, hm⟩ := new_may he h.good.few
 refine ⟨fun k => ?_, put_free h.good t1 hf rfl t2 t4, he, hi1, hi2, hn0, hg0, hg1⟩
 rw [put_kept h.good t1 hf rfl t2 t4 k]
 have hty : L[id.toNat - 1]? = some (tyAt L id) := by
  unfold tyErr at he
  unfold tyAt
  cases hg : getTy L id with
  | none => rw [hg] at he; simp at he
  | some t =>
   unfold getTy at hg
   rw [if_pos hi1] at hg
   rw [show id.toNat - 1 = (id - 1).toNat by omega, hg]
   rfl
 have hs : cSlots L (g.toNat, ⟨1, id.toNat, n.toNat, tySize L id n⟩) = (tyAt L id).slots n.toNat := by
  unfold cSlots
  simp only [hty]
 have hr : cRefs L (g.toNat, ⟨1, id.toNat, n.toNat, tySize L id n⟩) = (tyAt L id).refs n.toNat := by
  unfold cRefs
  simp only [hty]
 rw [hs, hr]
 by_cases hk : (k : Int) = id
 · rw [if_pos (show k = id.toNat by omega), if_pos hk]
 · rw [if_neg (show ¬ k = id.toNat by omega), if_neg hk]
theorem drop_numbers {L : List Ty} {W B W' B' W2 B2 : List Nat} {cs cs' cs2 : List Ce} {g id n er : Int} (h : Pl L W B cs) (hr : PutRes L W B cs g id n 0 W' B' cs') (h' : Pl L W' B' cs') (hd : DropRes W' B' cs' g er W2 B2 cs2) (h2 : Pl L W2 B2 cs2) :
  er = 0 ∧ (∀ k, keptOf L W2 (ofType (objs cs2) k) = keptOf L W (ofType (objs cs) k)) ∧ freeOf cs2 = freeOf cs := by
 rcases hr with ⟨h0, -⟩ | ⟨-, he, hg0, hg1, a, c, b, rfl, ht, rfl, rfl⟩
 · exact absurd rfl h0
 obtain ⟨t1, t2, t3, t4⟩ := ht
 have hf := new_fits he h.good.few
 have e1 : a ++ putC c g.toNat ⟨1, id.toNat, n.toNat, tySize L id n⟩ ++ b = (a ++ gapc c.1 (g.toNat - c.1)) ++ (g.toNat, ⟨1, id.toNat, n.toNat, tySize L id n⟩) :: (gapc (g.toNat + tySize L id n) (c.1 + c.2.size - g.toNat - tySize L id n) ++ b) := by
  unfold putC
  simp
 rcases hd with ⟨-, -, -, -, hno⟩ | ⟨rfl, pre, c2, post, hcs, hc1, hc2, rfl, ho⟩
 · refine absurd ⟨?_, rfl⟩ (hno (g.toNat, ⟨1, id.toNat, n.toNat, tySize L id n⟩) (by rw [e1]; simp))
   show ((g.toNat : Nat) : Int) = g
   omega
 have hC := h'.good.chain
 have hC2 := hC
 rw [hcs] at hC2
 have hw := drop_words hC2
 rw [e1] at hC
 obtain ⟨rfl, rfl, rfl⟩ := chain_one hC (e1 ▸ hcs) (show g.toNat = c2.1 by omega)
 rw [objs_append, objs_append, objs_gapc, objs_gapc, List.append_nil, List.nil_append] at ho hw
 have hs := put_same h.good hf t2 t4
 have ho2 : objs (a ++ c :: b) = objs a ++ objs b := objs_gapped t1
 refine ⟨rfl, fun k => ?_, ?_⟩
 · rw [ho, ho2]
   refine kept_same fun d hd => ?_
   have hm := (ofType_mem hd).1
   obtain ⟨s1, s2, s3⟩ := hs d hm
   exact ⟨s1, s2, fun j j1 j2 => (hw d hm j j1 j2).trans (s3 j j1 j2)⟩
 · have x1 := good_total h.good
   have x2 := good_total h2.good
   have x3 : (dropW (putW W c g.toNat ⟨1, id.toNat, n.toNat, tySize L id n⟩) (a ++ gapc c.1 (g.toNat - c.1)) (g.toNat, ⟨1, id.toNat, n.toNat, tySize L id n⟩) (gapc (g.toNat + tySize L id n) (c.1 + c.2.size - g.toNat - tySize L id n) ++ b)).length = W.length := by
    unfold dropW
    rw [lay_len, putW_len]
   rw [x3, ho, ← ho2] at x2
   omega
theorem types_same : ∀ {a b : List Nat}, a.Pairwise (· ≤ ·) → a.Nodup → b.Pairwise (· ≤ ·) → b.Nodup → (∀ k, k ∈ a ↔ k ∈ b) → a = b := by
 intro a b h1 h2 h3 h4 h5
 exact List.Perm.eq_of_pairwise (fun _ _ _ _ x y => Nat.le_antisymm x y) h1 h3 ((List.perm_ext_iff_of_nodup h2 h4).2 h5)
end
section
open Go Go.RowKit
section
variable {w1 w w' : World} {sb tb rb lcap : Nat} {lao : Option Addr} {L : List Ty} {W B Wr : List Nat} {X : List Blk}
theorem PlAt.laid {b : Nat} {c : Array Value} {e : TypeId} {f : Nat × Nat} (h : PlAt w1 w sb tb rb lao lcap L W B Wr ((b, .cells c e f) :: X)) (vs : List Value) (hl : vs.length = c.size) :
  PlAt w1 (w.setCells b 0 vs) sb tb rb lao lcap L W B Wr ((b, .cells vs.toArray e f) :: X) := by
 obtain ⟨ls, lr, hS, hR, hX, T⟩ := h
 refine ⟨ls, lr, hS, hR, fun x hx => ?_, ?_⟩
 · rcases List.mem_cons.1 hx with rfl | hx
   · rfl
   · exact hX x (List.mem_cons_of_mem _ hx)
 · have T1 : Turn [] w1 ((b, .cells c e f) :: (ls ++ (lr ++ X))) w := T.perm (perm_of fun c => by simp <;> omega)
   exact (T1.laid vs hl).perm (perm_of fun c => by simp <;> omega)
theorem PlAt.there1 {b : Nat} {c : Array Value} {e : TypeId} (h : PlAt w1 w sb tb rb lao lcap L W B Wr ((b, .cells c e (0, 0)) :: X)) : w.there b 0 c.size := h.has.there (List.mem_cons_self ..) 0 c.size (by omega)
theorem PlAt.open (h : PlAt w1 w sb tb rb lao lcap L W B Wr X) : ∃ Y, Turn [] w1 Y w ∧ X.Sublist Y ∧ ∀ Z w', (∀ x ∈ Z, x.2.isCells = true) → Turn [] w1 (Z ++ Y) w' → PlAt w1 w' sb tb rb lao lcap L W B Wr (Z ++ X) := by
 obtain ⟨ls, lr, hS, hR, hX, T⟩ := h
 refine ⟨ls ++ (lr ++ X), T, ?_, fun Z w' hZ T' => ⟨ls, lr, hS, hR, fun x hx => ?_, T'.perm (perm_of fun c => by simp <;> omega)⟩⟩
 · exact (List.sublist_append_right lr X).trans (List.sublist_append_right ls _)
 · rcases List.mem_append.1 hx with hx | hx
   · exact hZ x hx
   · exact hX x hx
theorem PlAt.src {e : TypeId} {size : Nat} {ao : Option Addr} {n cap : Nat} {xs : List Value} {l : List Blk} (h : PlAt w1 w sb tb rb lao lcap L W B Wr X) (hr : Row e size ao n cap xs l) (hs : l.Sublist X) : Src w ao n cap size xs :=
 hr.src (R := []) (by rw [List.append_nil]; exact h.has.sub hs)
theorem PlAt.cell {b : Nat} {c : Array Value} {e : TypeId} {f : Nat × Nat} (h : PlAt w1 w sb tb rb lao lcap L W B Wr X) (hm : (b, .cells c e f) ∈ X) (i : Nat) : w.cell? ⟨b, i, none⟩ = c[i]? := h.has.cell hm i
theorem PlAt.range {b : Nat} {c : Array Value} {e : TypeId} {f : Nat × Nat} (h : PlAt w1 w sb tb rb lao lcap L W B Wr X) (hm : (b, .cells c e f) ∈ X) : w.rangeAt b 0 c.toList := h.has.range hm
theorem stats_at {cs : List Ce} (hb : PlBase w1 tb L lao lcap) (hP : PlAt w1 w sb tb rb lao lcap L W B Wr X) (h : Pl L W B cs) :
  Calls Tryz.prog 11 #[.pointer (some ⟨sb, 0, none⟩)] w fun e w' => ∃ (ss : List Nat) (ao : Option Addr) (cap : Nat) (l : List Blk), e = .returned (.tuple #[stVal ao cap ss L W cs, .int .i64 0]) ∧ ss.Pairwise (· ≤ ·) ∧ ss.Nodup ∧ (∀ k, k ∈ ss ↔ ∃ d ∈ objs cs, d.2.typ = k) ∧
   Row 37 6 ao ss.length cap (ss.flatMap fun k => kpv k (keptOf L W (ofType (objs cs) k))) l ∧ PlAt w1 w' sb tb rb lao lcap L W B Wr (l ++ X) := by
 obtain ⟨tao, tcap, hTab⟩ := hb.tab
 have hsm := h.good.small
 have hfew := h.good.few
 obtain ⟨a, aw, hA⟩ : ∃ a aw, SpAt w sb a aw tb W tao tcap L := by
  obtain ⟨ls, lr, ⟨a, aw, bb, cw, lb, hbit, rfl⟩, hR, hX, T⟩ := hP
  exact ⟨a, aw, spAt_of T hTab hb.fields (by omega)⟩
 refine (sstats w sb a aw tb tao tcap L hA (by omega) h.good.u64 hb.ty (by omega) cs h.good.chain).mono ?_
 rintro e w' ⟨ss, ao, cap, l, rfl, h1, h2, h3, h4, h5⟩
 exact ⟨ss, ao, cap, l, rfl, h1, h2, h3, h4, hP.grow h5 h4.cells⟩
end
theorem sumBy_filter {f : Ce → Nat} (p : Ce → Bool) : ∀ (l : List Ce), sumBy f (l.filter p) ≤ sumBy f l
 | [] => Nat.le_refl _
 | c :: l => by
  have h := sumBy_filter (f := f) p l
  rw [List.filter_cons]
  split
  · rw [sumBy_cons, sumBy_cons]
    omega
  · rw [sumBy_cons]
    omega
theorem kept_small {L : List Ty} {W : List Nat} {cs : List Ce} (h : Good L W cs) (k : Nat) : (keptOf L W (ofType (objs cs) k)).objects ≤ 600 ∧ (keptOf L W (ofType (objs cs) k)).granules ≤ 300 ∧ (keptOf L W (ofType (objs cs) k)).slots ≤ 600 ∧ (keptOf L W (ofType (objs cs) k)).refs ≤ 600 ∧ (keptOf L W (ofType (objs cs) k)).nils ≤ 600 := by
 have h1 := kept_laws (L := L) (W := W) (O := ofType (objs cs) k) (fun c hc => by
  obtain ⟨h1, h2⟩ := objs_mem (ofType_mem hc).1
  exact ⟨(h.chain.mem c h1).2.2, h2⟩)
 have h2 := good_total h
 have h3 : (keptOf L W (ofType (objs cs) k)).granules ≤ sumBy cSize (objs cs) := sumBy_filter _ _
 have hsm := h.small
 obtain ⟨a, b, c, d⟩ := h1
 generalize keptOf L W (ofType (objs cs) k) = x at *
 omega
theorem free_small {L : List Ty} {W : List Nat} {cs : List Ce} (h : Good L W cs) : freeOf cs ≤ 300 := by
 have h2 := good_total h
 have hsm := h.small
 omega
theorem ss_small {L : List Ty} {W : List Nat} {cs : List Ce} {ss : List Nat} (h : Good L W cs) (hn : ss.Nodup) (hm : ∀ k, k ∈ ss ↔ ∃ d ∈ objs cs, d.2.typ = k) : ss.length ≤ 65536 := by
 have h1 := ss_len hn hm
 have h2 : (objs cs).length ≤ cs.length := by unfold objs; exact List.length_filter_le ..
 have h3 := h.chain.len
 have hsm := h.small
 omega
theorem new_type {L : List Ty} {id n : Int} (he : tyErr L id n = 0) : ∃ (t : Ty) (ix idn nn : Nat), id = (idn : Int) ∧ n = (nn : Int) ∧ idn = ix + 1 ∧ ix < L.length ∧ L[ix]? = some t ∧ tyAt L id = t ∧ t.err nn = 0 ∧ tySize L id n = t.size nn := by
 unfold tyErr at he
 cases hg : getTy L id with
 | none => rw [hg] at he; simp at he
 | some t =>
  rw [hg] at he
  simp only at he
  obtain ⟨k, h1, h2, h3⟩ := getTy_some hg
  have hn : 0 ≤ n := by
   unfold Ty.err at he
   split at he
   · cases he
   · omega
  obtain ⟨nn, rfl⟩ := Int.eq_ofNat_of_zero_le hn
  refine ⟨t, k, k + 1, nn, by rw [h1]; simp, rfl, rfl, h3, h2, ?_, he, ?_⟩
  · unfold tyAt
    rw [hg]
    rfl
  · unfold tySize
    rw [hg]
    simp only
    rw [if_pos he]
    rfl
end
section
open Go Go.RowKit Go.IntWalk
set_option maxRecDepth 100000 in
set_option maxHeartbeats 12800000 in
theorem statsPut_walk (w : World) (hF : Fields w) (ht : TabW w) (n0 : Int) (L : List Ty) (lao : Option Addr) (lcap : Nat) (sao : Option Addr) (sl scap : Nat) (hv : Bool) (g id n : Int)
  (HHv : Hid (Calls Tryz.prog 8 #[.int .i64 n0, .slice lao L.length lcap, .slice sao sl scap] w fun e w' => e = .returned (.bool hv) ∧ w' = w))
  (HPl : Hid (hv = false → Calls Tryz.prog 10 #[.int .i64 n0, .slice lao L.length lcap, .slice sao sl scap] w fun e w' => PlayEnd w w' L lao lcap e)) :
  Calls Tryz.prog 4 #[.int .i64 n0, .slice lao L.length lcap, .slice sao sl scap, .int .i64 g, .int .i64 id, .int .i64 n] w fun e w' => e = .returned (.bool true) ∧ Below w.heap.size w w' := by
 have HF := uh hF
 have Ht := uh (Lib.tabBelow_of_tabIs ht)
 have HAl := uh (fun w' (hB : Below w.heap.size w w') => alive32 w' (range_below hF hB) (Lib.tabBelow_of_tabIs ht w' hB))
 clear hF ht
 have hss := sz_stats
 have hsk := sz_kept
 go_enter Tryz.func4, Tryz.ntmps4
 go_wp2_with fail
 refine HHv.out.mono ?_
 rintro e w2 ⟨rfl, hw⟩
 rw [hw]
 clear hw w2
 cases hv
 case true =>
  clear HPl HHv
  go_wp2_with fail
  refine (HAl.out w (Below.refl _ _)).mono ?_
  rintro e w3 ⟨rfl, hB3⟩
  have HB := uh hB3
  clear hB3
  go_wp2_with fail
  go_ret
  exact ⟨rfl, HB.out⟩
 case false =>
  have HP := uh (HPl.out rfl)
  clear HPl HHv
  go_wp2_with fail
  refine HP.out.mono ?_
  rintro e w2 (⟨rfl, hB⟩ | ⟨sb, rb, tb, w1, W, B, cs, rfl, hB1, hb, hP, hAt⟩)
  · go_wp2_with fail
    refine (HAl.out w2 hB).mono ?_
    rintro e w3 ⟨rfl, hB3⟩
    have HB := uh (hB.trans (hB3.mono hB.size))
    clear hB hB3
    go_wp2_with fail
    go_ret
    exact ⟨rfl, HB.out⟩
  have HB1 := uh hB1
  have HAl1 := uh (fun w' (hB : Below w1.heap.size w1 w') => HAl.out w' (hB1.trans (hB.mono hB1.size)))
  have Hb := uh hb
  have Hpl := uh hP
  have HAt := uh hAt
  clear hB1 hb hP hAt HP HAl HF Ht
  go_wp2_with fail
  refine (stats_at Hb.out HAt.out Hpl.out).mono ?_
  rintro e w3 ⟨ss, ao, cap, la, rfl, hpw, hnd, hmm, hrow, hP0⟩
  rw [List.append_nil] at hP0
  have Hpw := uh hpw
  have Hnd := uh hnd
  have Hmm := uh hmm
  have Hrow := uh hrow
  have Hsl := uh (ss_small Hpl.out.good hnd hmm)
  clear hpw hnd hmm hrow HAt
  obtain ⟨x1, x2, x3, x4, x5, x6, hst, hx2⟩ : ∃ x1 x2 x3 x4 x5 x6 : Int, (∀ ao cap, stVal ao cap ss L W cs = .agg #[.slice ao ss.length cap, .int .i64 x1, .int .i64 x2, .int .i64 x3, .int .i64 x4, .int .i64 x5, .int .i64 x6]) ∧ ((freeOf cs : Nat) : Int) = x2 := ⟨_, _, _, _, _, _, fun _ _ => rfl, rfl⟩
  rw [hst]
  have Hfx := uh hx2
  have Hstx := uh hst
  obtain ⟨na, hnn⟩ : ∃ na, w3.heap.size = na := ⟨_, rfl⟩
  have P0 := hP0.alloc (.cells #[.slice none 0 0, .int .i64 0, .int .i64 0, .int .i64 0, .int .i64 0, .int .i64 0, .int .i64 0] 32) rfl
  rw [hnn] at P0
  have hth : (w3.alloc (.cells #[.slice none 0 0, .int .i64 0, .int .i64 0, .int .i64 0, .int .i64 0, .int .i64 0, .int .i64 0] 32)).there na 0 7 := P0.there1
  have HPa := uh (P0.laid [.slice ao ss.length cap, .int .i64 x1, .int .i64 x2, .int .i64 x3, .int .i64 x4, .int .i64 x5, .int .i64 x6] rfl)
  have hos : (#[.slice ao ss.length cap, .int .i64 x1, .int .i64 x2, .int .i64 x3, .int .i64 x4, .int .i64 x5, .int .i64 x6] : Array Value).all (·.oneCell') = true := all_one (cs := [.slice ao ss.length cap, .int .i64 x1, .int .i64 x2, .int .i64 x3, .int .i64 x4, .int .i64 x5, .int .i64 x6]) (by simp [Value.oneCell'])
  clear hst hx2 P0 hP0
  go_wp2_with (first
   | (show wpList _ _ _ (⟨_, Op.store 32 _ _, _, _, _, _⟩ :: _) _ _; refine wpList_store_mid rfl 32 _ _ rfl na 0 #[.slice ao ss.length cap, .int .i64 x1, .int .i64 x2, .int .i64 x3, .int .i64 x4, .int .i64 x5, .int .i64 x6] rfl rfl hth hss hos ?_; clear hth; generalize (w3.alloc (.cells #[.slice none 0 0, .int .i64 0, .int .i64 0, .int .i64 0, .int .i64 0, .int .i64 0, .int .i64 0] 32)).setCells na 0 [.slice ao ss.length cap, .int .i64 x1, .int .i64 x2, .int .i64 x3, .int .i64 x4, .int .i64 x5, .int .i64 x6] = w4 at *)
   | fail)
  clear hnn hos
  refine (sput_all _ Hb.out HPa.out Hpl.out g id n).mono ?_
  rintro e w5 ⟨er, W', B', cs', rfl, hres, hpl', hP6⟩
  have HP6 := uh hP6
  have Hpl2 := uh hpl'
  by_cases her : er = 0
  case neg =>
   have ke : (er != 0) = true := by rw [bne_iff_ne]; exact her
   obtain ⟨rfl, rfl, rfl⟩ : W' = W ∧ B' = B ∧ cs' = cs := by
    rcases hres with ⟨-, h1, h2, h3, -⟩ | ⟨h0, -⟩
    · exact ⟨h1, h2, h3⟩
    · exact absurd h0 her
   clear hres hpl' hP6 Hpl2 HPa her
   go_wp2_with fail
   refine (stats_at Hb.out HP6.out Hpl.out).mono ?_
   rintro e w6 ⟨ss2, ao2, cap2, lb, rfl, hpw, hnd, hmm, hrow, hP0⟩
   obtain rfl : ss2 = ss := types_same hpw hnd Hpw.out Hnd.out fun k => (hmm k).trans (Hmm.out k).symm
   rw [Hstx.out]
   have Hrow2 := uh hrow
   clear hpw hnd hmm hrow HP6
   obtain ⟨nb, hnn⟩ : ∃ nb, w6.heap.size = nb := ⟨_, rfl⟩
   have P0 := hP0.alloc (.cells #[.slice none 0 0, .int .i64 0, .int .i64 0, .int .i64 0, .int .i64 0, .int .i64 0, .int .i64 0] 32) rfl
   rw [hnn] at P0
   have hth : (w6.alloc (.cells #[.slice none 0 0, .int .i64 0, .int .i64 0, .int .i64 0, .int .i64 0, .int .i64 0, .int .i64 0] 32)).there nb 0 7 := P0.there1
   have HPb := uh (P0.laid [.slice ao2 ss2.length cap2, .int .i64 x1, .int .i64 x2, .int .i64 x3, .int .i64 x4, .int .i64 x5, .int .i64 x6] rfl)
   have hos : (#[.slice ao2 ss2.length cap2, .int .i64 x1, .int .i64 x2, .int .i64 x3, .int .i64 x4, .int .i64 x5, .int .i64 x6] : Array Value).all (·.oneCell') = true := all_one (cs := [.slice ao2 ss2.length cap2, .int .i64 x1, .int .i64 x2, .int .i64 x3, .int .i64 x4, .int .i64 x5, .int .i64 x6]) (by simp [Value.oneCell'])
   have hrB := HPb.out.range (List.mem_cons_self ..)
   have hrA := HPb.out.range (List.mem_cons_of_mem _ (List.mem_append_right lb (List.mem_cons_self ..)))
   clear hP0 P0
   go_wp2_with (first
    | (show wpList _ _ _ (⟨_, Op.store 32 _ _, _, _, _, _⟩ :: _) _ _; refine wpList_store_mid rfl 32 _ _ rfl nb 0 #[.slice ao2 ss2.length cap2, .int .i64 x1, .int .i64 x2, .int .i64 x3, .int .i64 x4, .int .i64 x5, .int .i64 x6] rfl rfl hth hss hos ?_; clear hth; generalize (w6.alloc (.cells #[.slice none 0 0, .int .i64 0, .int .i64 0, .int .i64 0, .int .i64 0, .int .i64 0, .int .i64 0] 32)).setCells nb 0 [.slice ao2 ss2.length cap2, .int .i64 x1, .int .i64 x2, .int .i64 x3, .int .i64 x4, .int .i64 x5, .int .i64 x6] = w7 at *)
    | (show wpList _ _ _ (⟨_, Op.load 32 _, _, _, _, _⟩ :: _) _ _; first
      | (refine wpList_load_mid rfl 32 _ rfl na 0 rfl [.slice ao ss2.length cap, .int .i64 x1, .int .i64 x2, .int .i64 x3, .int .i64 x4, .int .i64 x5, .int .i64 x6] _ hrA Tryz.underlying32 rfl hss ?_; clear hrA)
      | (refine wpList_load_mid rfl 32 _ rfl nb 0 rfl [.slice ao2 ss2.length cap2, .int .i64 x1, .int .i64 x2, .int .i64 x3, .int .i64 x4, .int .i64 x5, .int .i64 x6] _ hrB Tryz.underlying32 rfl hss ?_; clear hrB))
    | fail)
   refine (lsame _ ao ao2 cap cap2 _ (fun k => keptOf L _ (ofType (objs _) k)) Hsl.out (HPb.out.src Hrow.out (((List.sublist_cons_self _ _).trans (List.sublist_append_right lb _)).cons _)) (HPb.out.src Hrow2.out ((List.sublist_append_left lb _).cons _)) x1 x2 x3 x4 x5 x6).mono ?_
   rintro e w8 ⟨rfl, T8⟩
   have HB8 := uh (HPb.out.call T8.below).below
   clear T8
   go_wp2_with fail
   refine (HAl1.out w8 HB8.out).mono ?_
   rintro e w9 ⟨rfl, hB9⟩
   have HB9 := uh (HB1.out.trans ((HB8.out.trans (hB9.mono HB8.out.size)).mono HB1.out.size))
   clear hB9
   go_wp2_with fail
   go_ret
   exact ⟨rfl, HB9.out⟩
  case pos =>
   subst her
   obtain ⟨hK0, hfree, hte, hi1, hi2, hn0, hg0, hg1⟩ := put_numbers Hpl.out hres
   have Hdrop := uh (fun er2 W2 B2 cs2 (hd : DropRes W' B' cs' g er2 W2 B2 cs2) (h2 : Pl L W2 B2 cs2) => drop_numbers Hpl.out hres hpl' hd h2)
   obtain ⟨t, ix, idn, nn, hid, hn, hix, hixl, htl, htt, hterr, htsz⟩ := new_type hte
   subst hid
   subst hn
   have hLl := Hpl.out.good.few
   obtain ⟨b, off, rfl, -⟩ := Hb.out.src.form (by rw [tys_length]; omega)
   have Hix := uh (⟨hix, hixl, hLl⟩ : idn = ix + 1 ∧ ix < L.length ∧ L.length ≤ 64)
   clear hix hixl hLl
   have Hrt := uh (fun w' (hB : Below w1.heap.size w1 w') => (Hb.out.src.below hB).ty htl)
   have hTyt := Hb.out.ty t (List.mem_of_getElem? htl)
   obtain ⟨K, hKd⟩ : ∃ K : Nat → Kp, K = fun k => keptOf L W (ofType (objs cs) k) := ⟨_, rfl⟩
   obtain ⟨K', hKd'⟩ : ∃ K : Nat → Kp, K = fun k => keptOf L W' (ofType (objs cs') k) := ⟨_, rfl⟩
   have HRA : Hid (Row 37 6 ao ss.length cap (ss.flatMap fun k => kpv k (K k)) la) := uh (by rw [hKd]; exact Hrow.out)
   have HKs := uh (show ∀ k, kpAt K ss k = K k from fun k => by rw [hKd]; exact kpAt_eq Hmm.out k)
   have Hnum := uh (show ∀ k, K' k = if k = idn then ⟨(K k).objects + 1, (K k).granules + t.size nn, (K k).slots + t.slots nn, (K k).refs + (t.refs nn).length, (K k).nils + (t.refs nn).length⟩ else K k from fun k => by
    have h := hK0 k
    simp only [htt, htsz, Int.toNat_natCast] at h
    rw [hKd, hKd']
    show keptOf L W' (ofType (objs cs') k) = _
    rw [h]
    simp only [Int.natCast_inj])
   have Hsm := uh (show ∀ k, (K' k).objects ≤ 600 ∧ (K' k).granules ≤ 300 ∧ (K' k).slots ≤ 600 ∧ (K' k).refs ≤ 600 ∧ (K' k).nils ≤ 600 from fun k => by rw [hKd']; exact kept_small Hpl2.out.good k)
   have HKd := uh hKd
   have HKd' := uh hKd'
   have Hfree := uh (show freeOf cs' + t.size nn = freeOf cs by rw [← htsz]; exact hfree)
   have hfs := free_small Hpl.out.good
   have Hfs := uh hfs
   clear hK0 hfree hte hg0 hg1 hi1 hi2 hn0 hres htt htsz hKd hKd' hfs HPa hpl' hP6 Hrow
   go_wp2_with fail
   refine (stats_at Hb.out HP6.out Hpl2.out).mono ?_
   rintro e w6 ⟨ss2, ao2, cap2, lb, rfl, hpw, hnd, hmm, hrow, hP0⟩
   have HRB : Hid (Row 37 6 ao2 ss2.length cap2 (ss2.flatMap fun k => kpv k (K' k)) lb) := uh (by rw [HKd'.out]; exact hrow)
   have HKs' := uh (show ∀ k, kpAt K' ss2 k = K' k from fun k => by rw [HKd'.out]; exact kpAt_eq hmm k)
   have Hsl2 := uh (ss_small Hpl2.out.good hnd hmm)
   clear hpw hnd hmm hrow HP6
   obtain ⟨y1, y2, y3, y4, y5, y6, hst, hy2⟩ : ∃ y1 y2 y3 y4 y5 y6 : Int, (∀ ao cap, stVal ao cap ss2 L W' cs' = .agg #[.slice ao ss2.length cap, .int .i64 y1, .int .i64 y2, .int .i64 y3, .int .i64 y4, .int .i64 y5, .int .i64 y6]) ∧ ((freeOf cs' : Nat) : Int) = y2 := ⟨_, _, _, _, _, _, fun _ _ => rfl, rfl⟩
   rw [hst]
   have HHy2 := uh hy2
   have Hsty := uh hst
   obtain ⟨nb, hnn⟩ : ∃ nb, w6.heap.size = nb := ⟨_, rfl⟩
   have P0 := hP0.alloc (.cells #[.slice none 0 0, .int .i64 0, .int .i64 0, .int .i64 0, .int .i64 0, .int .i64 0, .int .i64 0] 32) rfl
   rw [hnn] at P0
   have hth : (w6.alloc (.cells #[.slice none 0 0, .int .i64 0, .int .i64 0, .int .i64 0, .int .i64 0, .int .i64 0, .int .i64 0] 32)).there nb 0 7 := P0.there1
   have HPb := uh (P0.laid [.slice ao2 ss2.length cap2, .int .i64 y1, .int .i64 y2, .int .i64 y3, .int .i64 y4, .int .i64 y5, .int .i64 y6] rfl)
   have hos : (#[.slice ao2 ss2.length cap2, .int .i64 y1, .int .i64 y2, .int .i64 y3, .int .i64 y4, .int .i64 y5, .int .i64 y6] : Array Value).all (·.oneCell') = true := all_one (cs := [.slice ao2 ss2.length cap2, .int .i64 y1, .int .i64 y2, .int .i64 y3, .int .i64 y4, .int .i64 y5, .int .i64 y6]) (by simp [Value.oneCell'])
   clear hst hy2 P0 hP0
   have hixl' : (ix : Int) < (L.length : Int) := by have h := Hix.out; omega
   have hwi : IntKind.i64.wrap ((idn : Int) - 1) = (ix : Int) := by have h := Hix.out; rw [i64_in _ (by omega)]; omega
   have d1 : decide ((idn : Int) < 1) = false := decide_eq_false (by have h := Hix.out; omega)
   have d2 : decide ((L.length : Int) < (idn : Int)) = false := decide_eq_false (by have h := Hix.out; omega)
   have d3 : decide (L.length < idn) = false := decide_eq_false (by have h := Hix.out; omega)
   have d4 : decide (idn = 0) = false := decide_eq_false (by have h := Hix.out; omega)
   have hsT := sz_type
   have hrg := Hrt.out _ HPb.out.below
   go_wp2_with (first
    | (show wpList _ _ _ (⟨_, Op.store 32 _ _, _, _, _, _⟩ :: _) _ _; refine wpList_store_mid rfl 32 _ _ rfl nb 0 #[.slice ao2 ss2.length cap2, .int .i64 y1, .int .i64 y2, .int .i64 y3, .int .i64 y4, .int .i64 y5, .int .i64 y6] rfl rfl hth hss hos ?_; clear hth; generalize (w6.alloc (.cells #[.slice none 0 0, .int .i64 0, .int .i64 0, .int .i64 0, .int .i64 0, .int .i64 0, .int .i64 0] 32)).setCells nb 0 [.slice ao2 ss2.length cap2, .int .i64 y1, .int .i64 y2, .int .i64 y3, .int .i64 y4, .int .i64 y5, .int .i64 y6] = w7 at *)
    | (show wpList _ _ _ (⟨_, Op.load 49 _, _, _, _, _⟩ :: _) _ _; refine wpList_load_mid rfl 49 _ rfl b (off + ix * 3) rfl (tyCells t) _ hrg Tryz.underlying49 rfl hsT ?_; clear hrg)
    | fail)
   clear hos hnn
   obtain ⟨X, hX⟩ : ∃ X, (nb, Obj.cells #[.slice ao2 ss2.length cap2, .int .i64 y1, .int .i64 y2, .int .i64 y3, .int .i64 y4, .int .i64 y5, .int .i64 y6] 32) :: (lb ++ (na, Obj.cells #[.slice ao ss.length cap, .int .i64 x1, .int .i64 x2, .int .i64 x3, .int .i64 x4, .int .i64 x5, .int .i64 x6] 32) :: la) = X := ⟨_, rfl⟩
   have Hmb : Hid ((nb, Obj.cells #[.slice ao2 ss2.length cap2, .int .i64 y1, .int .i64 y2, .int .i64 y3, .int .i64 y4, .int .i64 y5, .int .i64 y6] 32) ∈ X) := uh (by rw [← hX]; exact List.mem_cons_self ..)
   have Hma : Hid ((na, Obj.cells #[.slice ao ss.length cap, .int .i64 x1, .int .i64 x2, .int .i64 x3, .int .i64 x4, .int .i64 x5, .int .i64 x6] 32) ∈ X) := uh (by rw [← hX]; exact List.mem_cons_of_mem _ (List.mem_append_right lb (List.mem_cons_self ..)))
   have Hsa : Hid (la.Sublist X) := uh (by rw [← hX]; exact ((List.sublist_cons_self _ _).trans (List.sublist_append_right lb _)).cons _)
   have Hsb : Hid (lb.Sublist X) := uh (by rw [← hX]; exact (List.sublist_append_left lb _).cons _)
   have HPc : Hid (PlAt w1 w7 sb tb rb (some ⟨b, off, none⟩) lcap L W' B' W X) := uh (by rw [← hX]; exact HPb.out)
   clear hX HPb
   have HRs := uh (fun w' => rsize w' t hTyt (nn : Int))
   have HRl := uh (fun w' => rslots w' t hTyt (nn : Int))
   simp only [hterr, if_true, Int.toNat_natCast] at HRs HRl
   have HRr := uh (fun w' => rrefs w' t hTyt nn hterr)
   clear hterr htl
   refine (HRs.out _).mono ?_
   rintro e w8 ⟨rfl, hB8⟩
   have HPd := uh (HPc.out.call hB8)
   have hrg := Hrt.out _ HPd.out.below
   clear hB8 HPc HRs
   go_wp2_with (first
    | (show wpList _ _ _ (⟨_, Op.load 49 _, _, _, _, _⟩ :: _) _ _; refine wpList_load_mid rfl 49 _ rfl b (off + ix * 3) rfl (tyCells t) _ hrg Tryz.underlying49 rfl hsT ?_; clear hrg)
    | fail)
   refine (HRl.out _).mono ?_
   rintro e w9 ⟨rfl, hB9⟩
   have HPe := uh (HPd.out.call hB9)
   have hrg := Hrt.out _ HPe.out.below
   clear hB9 HPd HRl
   go_wp2_with (first
    | (show wpList _ _ _ (⟨_, Op.load 49 _, _, _, _, _⟩ :: _) _ _; refine wpList_load_mid rfl 49 _ rfl b (off + ix * 3) rfl (tyCells t) _ hrg Tryz.underlying49 rfl hsT ?_; clear hrg)
    | fail)
   refine (HRr.out _).mono ?_
   rintro e w10 ⟨ar, capr, lr, rfl, -, hT10⟩
   have HPf := uh (HPe.out.call hT10.below)
   clear hT10 HPe HRr
   generalize t.size nn = tz at *
   generalize t.slots nn = ts at *
   generalize (t.refs nn).length = tr at *
   obtain ⟨Y, hT0, hsubY, hback⟩ := HPf.out.open
   have HT0 := uh hT0
   have Hback := uh hback
   obtain ⟨xk, hxk⟩ : ∃ x, K idn = x := ⟨_, rfl⟩
   obtain ⟨yk, hyk⟩ : ∃ x, K' idn = x := ⟨_, rfl⟩
   have HrA := uh (fun w' (T : Turn [] w1 Y w') => T.has.range (hsubY.subset Hma.out))
   have HrB := uh (fun w' (T : Turn [] w1 Y w') => T.has.range (hsubY.subset Hmb.out))
   have Hof1 := uh (show ∀ w' Z, Turn [] w1 (Z ++ Y) w' → Calls Tryz.prog 21 #[.agg #[.slice ao ss.length cap, .int .i64 x1, .int .i64 x2, .int .i64 x3, .int .i64 x4, .int .i64 x5, .int .i64 x6], .int .i64 idn] w' fun e w2 => e = .returned (.agg #[.int .i64 idn, .int .i64 xk.objects, .int .i64 xk.granules, .int .i64 xk.slots, .int .i64 xk.refs, .int .i64 xk.nils]) ∧ Below w'.heap.size w' w2 from fun w' Z T => by
    have h := lof w' ao cap ss K Hsl.out (HRA.out.src (R := []) (by rw [List.append_nil]; exact (T.drop.has.sub hsubY).sub Hsa.out)) x1 x2 x3 x4 x5 x6 idn
    rw [HKs.out, hxk] at h
    exact h.mono fun e w2 ⟨he, hT⟩ => ⟨he, hT.below⟩)
   have Hof2 := uh (show ∀ w' Z, Turn [] w1 (Z ++ Y) w' → Calls Tryz.prog 21 #[.agg #[.slice ao2 ss2.length cap2, .int .i64 y1, .int .i64 y2, .int .i64 y3, .int .i64 y4, .int .i64 y5, .int .i64 y6], .int .i64 idn] w' fun e w2 => e = .returned (.agg #[.int .i64 idn, .int .i64 yk.objects, .int .i64 yk.granules, .int .i64 yk.slots, .int .i64 yk.refs, .int .i64 yk.nils]) ∧ Below w'.heap.size w' w2 from fun w' Z T => by
    have h := lof w' ao2 cap2 ss2 K' Hsl2.out (HRB.out.src (R := []) (by rw [List.append_nil]; exact (T.drop.has.sub hsubY).sub Hsb.out)) y1 y2 y3 y4 y5 y6 idn
    rw [HKs'.out, hyk] at h
    exact h.mono fun e w2 ⟨he, hT⟩ => ⟨he, hT.below⟩)
   have hox := kp_one idn xk
   have hoy := kp_one idn yk
   have Hxk := uh hxk
   have hyn := Hnum.out idn
   rw [if_pos rfl, hxk, hyk] at hyn
   have Hyn := uh hyn
   have hys := Hsm.out idn
   rw [hyk] at hys
   have Hys := uh hys
   clear hT0 hsubY hback HPf hxk hyk hyn hys hwi d1 d2 d3 d4 hixl'
   go_upto_region 18 with fail
   apply wp_mid (I := fun bx bz w => Turn [] w1 ((bx, .cells #[.int .i64 idn, .int .i64 xk.objects, .int .i64 xk.granules, .int .i64 xk.slots, .int .i64 xk.refs, .int .i64 xk.nils] 37) :: (bz, .cells #[.int .i64 idn, .int .i64 yk.objects, .int .i64 yk.granules, .int .i64 yk.slots, .int .i64 yk.refs, .int .i64 yk.nils] 37) :: Y) w)
   case h =>
    have T0 : Turn [] w1 ([] ++ Y) w10.drew := HT0.out.drew
    have hS0 : Turn [] w1 Y w10.drew := T0
    refine wp_region_noPanic ?_
    refine wp_region_listed (S := fun W' => Turn [] w1 Y W') 10 [false, false, false, false, false, false, false, false, false, false] rfl rfl (by kernel_rfl) ?_
    generalize w10.drew = V0 at *
    refine tkC 0 122 hS0 (fun w' hSw => load_mid_run 32 _ rfl na 0 rfl [.slice ao ss.length cap, .int .i64 x1, .int .i64 x2, .int .i64 x3, .int .i64 x4, .int .i64 x5, .int .i64 x6] _ (HrA.out w' hSw) Tryz.underlying32 rfl hss) ?_
    refine tkA 1 123 hS0 ?_
    refine tkC 3 125 hS0 (fun w' hSw => load_mid_run 32 _ rfl nb 0 rfl [.slice ao2 ss2.length cap2, .int .i64 y1, .int .i64 y2, .int .i64 y3, .int .i64 y4, .int .i64 y5, .int .i64 y6] _ (HrB.out w' hSw) Tryz.underlying32 rfl hss) ?_
    refine tkA 4 126 hS0 ?_
    clear hS0
    have HT0h := uh T0
    clear T0
    apply any_mid (I := fun bx bz V => Turn [] w1 ((bx, .cells #[.int .i64 0, .int .i64 0, .int .i64 0, .int .i64 0, .int .i64 0, .int .i64 0] 37) :: (bz, .cells #[.int .i64 0, .int .i64 0, .int .i64 0, .int .i64 0, .int .i64 0, .int .i64 0] 37) :: Y) V)
    case h1 =>
     intro hG
     have T0 := HT0h.out
     refine wpAnyH_ready (rs := [2, 6, 7]) (by kernel_rfl) (by simp) (AllReadyH.cons rfl (fun K hK => ?_) (AllReadyH.cons rfl (fun K hK => ?_) (AllReadyH.cons rfl (fun K hK => ?_) AllReadyH.nil)))
     · go_simp
       refine (Hof1.out _ _ T0).mono ?_
       rintro e V1 ⟨rfl, hB⟩
       have T1 := T0.call hB
       refine hK.out _ _ (T1.drop (a := [])) fun _ => ?_
       clear hK K hB T0
       simp only [st0, st1, st2]
       refine wpAnyH_ready (rs := [5, 6, 7]) (by kernel_rfl) (by simp) (AllReadyH.cons rfl (fun K hK => ?_) (AllReadyH.cons rfl (fun K hK => ?_) (AllReadyH.cons rfl (fun K hK => ?_) AllReadyH.nil)))
       · go_simp
         refine (Hof2.out _ _ T1).mono ?_
         rintro e V2 ⟨rfl, hB⟩
         have T2 := T1.call hB
         refine hK.out _ _ (T2.drop (a := [])) fun _ => ?_
         clear hK K hB T1
         simp only [st0, st1, st2]
         refine wpAnyH_ready (rs := [6, 7]) (by kernel_rfl) (by simp) (AllReadyH.cons rfl (fun K hK => ?_) (AllReadyH.cons rfl (fun K hK => ?_) AllReadyH.nil))
         · go_simp
           have T3 : Turn [] w1 ([(V2.heap.size, .cells #[.int .i64 0, .int .i64 0, .int .i64 0, .int .i64 0, .int .i64 0, .int .i64 0] 37)] ++ Y) (V2.alloc (.cells #[.int .i64 0, .int .i64 0, .int .i64 0, .int .i64 0, .int .i64 0, .int .i64 0] 37)) := T2.alloc (.cells #[.int .i64 0, .int .i64 0, .int .i64 0, .int .i64 0, .int .i64 0, .int .i64 0] 37)
           refine hK.out _ _ (T3.drop (a := [_])) fun _ => ?_
           clear hK K T2
           simp only [st0, st1, st2]
           generalize V2.alloc (.cells #[.int .i64 0, .int .i64 0, .int .i64 0, .int .i64 0, .int .i64 0, .int .i64 0] 37) = V3 at *
           generalize V2.heap.size = bx at *
           refine rdyA 7 (fun K hK => ?_)
           · go_simp
             have T4 : Turn [] w1 ([(V3.heap.size, .cells #[.int .i64 0, .int .i64 0, .int .i64 0, .int .i64 0, .int .i64 0, .int .i64 0] 37), (bx, .cells #[.int .i64 0, .int .i64 0, .int .i64 0, .int .i64 0, .int .i64 0, .int .i64 0] 37)] ++ Y) (V3.alloc (.cells #[.int .i64 0, .int .i64 0, .int .i64 0, .int .i64 0, .int .i64 0, .int .i64 0] 37)) := T3.alloc (.cells #[.int .i64 0, .int .i64 0, .int .i64 0, .int .i64 0, .int .i64 0, .int .i64 0] 37)
             refine hK.out _ _ (T4.drop (a := [_, _])) fun _ => ?_
             clear hK K T3
             simp only [st0, st1, st2]
             generalize V3.alloc (.cells #[.int .i64 0, .int .i64 0, .int .i64 0, .int .i64 0, .int .i64 0, .int .i64 0] 37) = V4 at *
             generalize V3.heap.size = bz at *
             exact hG.out bx bz V4 (T4.perm (perm_of fun c => by simp; try omega))
         · go_simp
           have T3 : Turn [] w1 ([(V2.heap.size, .cells #[.int .i64 0, .int .i64 0, .int .i64 0, .int .i64 0, .int .i64 0, .int .i64 0] 37)] ++ Y) (V2.alloc (.cells #[.int .i64 0, .int .i64 0, .int .i64 0, .int .i64 0, .int .i64 0, .int .i64 0] 37)) := T2.alloc (.cells #[.int .i64 0, .int .i64 0, .int .i64 0, .int .i64 0, .int .i64 0, .int .i64 0] 37)
           refine hK.out _ _ (T3.drop (a := [_])) fun _ => ?_
           clear hK K T2
           simp only [st0, st1, st2]
           generalize V2.alloc (.cells #[.int .i64 0, .int .i64 0, .int .i64 0, .int .i64 0, .int .i64 0, .int .i64 0] 37) = V3 at *
           generalize V2.heap.size = bz at *
           refine rdyA 6 (fun K hK => ?_)
           · go_simp
             have T4 : Turn [] w1 ([(V3.heap.size, .cells #[.int .i64 0, .int .i64 0, .int .i64 0, .int .i64 0, .int .i64 0, .int .i64 0] 37), (bz, .cells #[.int .i64 0, .int .i64 0, .int .i64 0, .int .i64 0, .int .i64 0, .int .i64 0] 37)] ++ Y) (V3.alloc (.cells #[.int .i64 0, .int .i64 0, .int .i64 0, .int .i64 0, .int .i64 0, .int .i64 0] 37)) := T3.alloc (.cells #[.int .i64 0, .int .i64 0, .int .i64 0, .int .i64 0, .int .i64 0, .int .i64 0] 37)
             refine hK.out _ _ (T4.drop (a := [_, _])) fun _ => ?_
             clear hK K T3
             simp only [st0, st1, st2]
             generalize V3.alloc (.cells #[.int .i64 0, .int .i64 0, .int .i64 0, .int .i64 0, .int .i64 0, .int .i64 0] 37) = V4 at *
             generalize V3.heap.size = bx at *
             exact hG.out bx bz V4 (T4.perm (perm_of fun c => by simp; try omega))
       · go_simp
         have T2 : Turn [] w1 ([(V1.heap.size, .cells #[.int .i64 0, .int .i64 0, .int .i64 0, .int .i64 0, .int .i64 0, .int .i64 0] 37)] ++ Y) (V1.alloc (.cells #[.int .i64 0, .int .i64 0, .int .i64 0, .int .i64 0, .int .i64 0, .int .i64 0] 37)) := T1.alloc (.cells #[.int .i64 0, .int .i64 0, .int .i64 0, .int .i64 0, .int .i64 0, .int .i64 0] 37)
         refine hK.out _ _ (T2.drop (a := [_])) fun _ => ?_
         clear hK K T1
         simp only [st0, st1, st2]
         generalize V1.alloc (.cells #[.int .i64 0, .int .i64 0, .int .i64 0, .int .i64 0, .int .i64 0, .int .i64 0] 37) = V2 at *
         generalize V1.heap.size = bx at *
         refine wpAnyH_ready (rs := [5, 7]) (by kernel_rfl) (by simp) (AllReadyH.cons rfl (fun K hK => ?_) (AllReadyH.cons rfl (fun K hK => ?_) AllReadyH.nil))
         · go_simp
           refine (Hof2.out _ _ T2).mono ?_
           rintro e V3 ⟨rfl, hB⟩
           have T3 := T2.call hB
           refine hK.out _ _ (T3.drop (a := [_])) fun _ => ?_
           clear hK K hB T2
           simp only [st0, st1, st2]
           refine rdyA 7 (fun K hK => ?_)
           · go_simp
             have T4 : Turn [] w1 ([(V3.heap.size, .cells #[.int .i64 0, .int .i64 0, .int .i64 0, .int .i64 0, .int .i64 0, .int .i64 0] 37), (bx, .cells #[.int .i64 0, .int .i64 0, .int .i64 0, .int .i64 0, .int .i64 0, .int .i64 0] 37)] ++ Y) (V3.alloc (.cells #[.int .i64 0, .int .i64 0, .int .i64 0, .int .i64 0, .int .i64 0, .int .i64 0] 37)) := T3.alloc (.cells #[.int .i64 0, .int .i64 0, .int .i64 0, .int .i64 0, .int .i64 0, .int .i64 0] 37)
             refine hK.out _ _ (T4.drop (a := [_, _])) fun _ => ?_
             clear hK K T3
             simp only [st0, st1, st2]
             generalize V3.alloc (.cells #[.int .i64 0, .int .i64 0, .int .i64 0, .int .i64 0, .int .i64 0, .int .i64 0] 37) = V4 at *
             generalize V3.heap.size = bz at *
             exact hG.out bx bz V4 (T4.perm (perm_of fun c => by simp; try omega))
         · go_simp
           have T3 : Turn [] w1 ([(V2.heap.size, .cells #[.int .i64 0, .int .i64 0, .int .i64 0, .int .i64 0, .int .i64 0, .int .i64 0] 37), (bx, .cells #[.int .i64 0, .int .i64 0, .int .i64 0, .int .i64 0, .int .i64 0, .int .i64 0] 37)] ++ Y) (V2.alloc (.cells #[.int .i64 0, .int .i64 0, .int .i64 0, .int .i64 0, .int .i64 0, .int .i64 0] 37)) := T2.alloc (.cells #[.int .i64 0, .int .i64 0, .int .i64 0, .int .i64 0, .int .i64 0, .int .i64 0] 37)
           refine hK.out _ _ (T3.drop (a := [_, _])) fun _ => ?_
           clear hK K T2
           simp only [st0, st1, st2]
           generalize V2.alloc (.cells #[.int .i64 0, .int .i64 0, .int .i64 0, .int .i64 0, .int .i64 0, .int .i64 0] 37) = V3 at *
           generalize V2.heap.size = bz at *
           refine rdyA 5 (fun K hK => ?_)
           · go_simp
             refine (Hof2.out _ _ T3).mono ?_
             rintro e V4 ⟨rfl, hB⟩
             have T4 := T3.call hB
             refine hK.out _ _ (T4.drop (a := [_, _])) fun _ => ?_
             clear hK K hB T3
             simp only [st0, st1, st2]
             exact hG.out bx bz V4 (T4.perm (perm_of fun c => by simp; try omega))
       · go_simp
         have T2 : Turn [] w1 ([(V1.heap.size, .cells #[.int .i64 0, .int .i64 0, .int .i64 0, .int .i64 0, .int .i64 0, .int .i64 0] 37)] ++ Y) (V1.alloc (.cells #[.int .i64 0, .int .i64 0, .int .i64 0, .int .i64 0, .int .i64 0, .int .i64 0] 37)) := T1.alloc (.cells #[.int .i64 0, .int .i64 0, .int .i64 0, .int .i64 0, .int .i64 0, .int .i64 0] 37)
         refine hK.out _ _ (T2.drop (a := [_])) fun _ => ?_
         clear hK K T1
         simp only [st0, st1, st2]
         generalize V1.alloc (.cells #[.int .i64 0, .int .i64 0, .int .i64 0, .int .i64 0, .int .i64 0, .int .i64 0] 37) = V2 at *
         generalize V1.heap.size = bz at *
         refine wpAnyH_ready (rs := [5, 6]) (by kernel_rfl) (by simp) (AllReadyH.cons rfl (fun K hK => ?_) (AllReadyH.cons rfl (fun K hK => ?_) AllReadyH.nil))
         · go_simp
           refine (Hof2.out _ _ T2).mono ?_
           rintro e V3 ⟨rfl, hB⟩
           have T3 := T2.call hB
           refine hK.out _ _ (T3.drop (a := [_])) fun _ => ?_
           clear hK K hB T2
           simp only [st0, st1, st2]
           refine rdyA 6 (fun K hK => ?_)
           · go_simp
             have T4 : Turn [] w1 ([(V3.heap.size, .cells #[.int .i64 0, .int .i64 0, .int .i64 0, .int .i64 0, .int .i64 0, .int .i64 0] 37), (bz, .cells #[.int .i64 0, .int .i64 0, .int .i64 0, .int .i64 0, .int .i64 0, .int .i64 0] 37)] ++ Y) (V3.alloc (.cells #[.int .i64 0, .int .i64 0, .int .i64 0, .int .i64 0, .int .i64 0, .int .i64 0] 37)) := T3.alloc (.cells #[.int .i64 0, .int .i64 0, .int .i64 0, .int .i64 0, .int .i64 0, .int .i64 0] 37)
             refine hK.out _ _ (T4.drop (a := [_, _])) fun _ => ?_
             clear hK K T3
             simp only [st0, st1, st2]
             generalize V3.alloc (.cells #[.int .i64 0, .int .i64 0, .int .i64 0, .int .i64 0, .int .i64 0, .int .i64 0] 37) = V4 at *
             generalize V3.heap.size = bx at *
             exact hG.out bx bz V4 (T4.perm (perm_of fun c => by simp; try omega))
         · go_simp
           have T3 : Turn [] w1 ([(V2.heap.size, .cells #[.int .i64 0, .int .i64 0, .int .i64 0, .int .i64 0, .int .i64 0, .int .i64 0] 37), (bz, .cells #[.int .i64 0, .int .i64 0, .int .i64 0, .int .i64 0, .int .i64 0, .int .i64 0] 37)] ++ Y) (V2.alloc (.cells #[.int .i64 0, .int .i64 0, .int .i64 0, .int .i64 0, .int .i64 0, .int .i64 0] 37)) := T2.alloc (.cells #[.int .i64 0, .int .i64 0, .int .i64 0, .int .i64 0, .int .i64 0, .int .i64 0] 37)
           refine hK.out _ _ (T3.drop (a := [_, _])) fun _ => ?_
           clear hK K T2
           simp only [st0, st1, st2]
           generalize V2.alloc (.cells #[.int .i64 0, .int .i64 0, .int .i64 0, .int .i64 0, .int .i64 0, .int .i64 0] 37) = V3 at *
           generalize V2.heap.size = bx at *
           refine rdyA 5 (fun K hK => ?_)
           · go_simp
             refine (Hof2.out _ _ T3).mono ?_
             rintro e V4 ⟨rfl, hB⟩
             have T4 := T3.call hB
             refine hK.out _ _ (T4.drop (a := [_, _])) fun _ => ?_
             clear hK K hB T3
             simp only [st0, st1, st2]
             exact hG.out bx bz V4 (T4.perm (perm_of fun c => by simp; try omega))
     · go_simp
       have T1 : Turn [] w1 ([(V0.heap.size, .cells #[.int .i64 0, .int .i64 0, .int .i64 0, .int .i64 0, .int .i64 0, .int .i64 0] 37)] ++ Y) (V0.alloc (.cells #[.int .i64 0, .int .i64 0, .int .i64 0, .int .i64 0, .int .i64 0, .int .i64 0] 37)) := T0.alloc (.cells #[.int .i64 0, .int .i64 0, .int .i64 0, .int .i64 0, .int .i64 0, .int .i64 0] 37)
       refine hK.out _ _ (T1.drop (a := [_])) fun _ => ?_
       clear hK K T0
       simp only [st0, st1, st2]
       generalize V0.alloc (.cells #[.int .i64 0, .int .i64 0, .int .i64 0, .int .i64 0, .int .i64 0, .int .i64 0] 37) = V1 at *
       generalize V0.heap.size = bx at *
       refine wpAnyH_ready (rs := [2, 7]) (by kernel_rfl) (by simp) (AllReadyH.cons rfl (fun K hK => ?_) (AllReadyH.cons rfl (fun K hK => ?_) AllReadyH.nil))
       · go_simp
         refine (Hof1.out _ _ T1).mono ?_
         rintro e V2 ⟨rfl, hB⟩
         have T2 := T1.call hB
         refine hK.out _ _ (T2.drop (a := [_])) fun _ => ?_
         clear hK K hB T1
         simp only [st0, st1, st2]
         refine wpAnyH_ready (rs := [5, 7]) (by kernel_rfl) (by simp) (AllReadyH.cons rfl (fun K hK => ?_) (AllReadyH.cons rfl (fun K hK => ?_) AllReadyH.nil))
         · go_simp
           refine (Hof2.out _ _ T2).mono ?_
           rintro e V3 ⟨rfl, hB⟩
           have T3 := T2.call hB
           refine hK.out _ _ (T3.drop (a := [_])) fun _ => ?_
           clear hK K hB T2
           simp only [st0, st1, st2]
           refine rdyA 7 (fun K hK => ?_)
           · go_simp
             have T4 : Turn [] w1 ([(V3.heap.size, .cells #[.int .i64 0, .int .i64 0, .int .i64 0, .int .i64 0, .int .i64 0, .int .i64 0] 37), (bx, .cells #[.int .i64 0, .int .i64 0, .int .i64 0, .int .i64 0, .int .i64 0, .int .i64 0] 37)] ++ Y) (V3.alloc (.cells #[.int .i64 0, .int .i64 0, .int .i64 0, .int .i64 0, .int .i64 0, .int .i64 0] 37)) := T3.alloc (.cells #[.int .i64 0, .int .i64 0, .int .i64 0, .int .i64 0, .int .i64 0, .int .i64 0] 37)
             refine hK.out _ _ (T4.drop (a := [_, _])) fun _ => ?_
             clear hK K T3
             simp only [st0, st1, st2]
             generalize V3.alloc (.cells #[.int .i64 0, .int .i64 0, .int .i64 0, .int .i64 0, .int .i64 0, .int .i64 0] 37) = V4 at *
             generalize V3.heap.size = bz at *
             exact hG.out bx bz V4 (T4.perm (perm_of fun c => by simp; try omega))
         · go_simp
           have T3 : Turn [] w1 ([(V2.heap.size, .cells #[.int .i64 0, .int .i64 0, .int .i64 0, .int .i64 0, .int .i64 0, .int .i64 0] 37), (bx, .cells #[.int .i64 0, .int .i64 0, .int .i64 0, .int .i64 0, .int .i64 0, .int .i64 0] 37)] ++ Y) (V2.alloc (.cells #[.int .i64 0, .int .i64 0, .int .i64 0, .int .i64 0, .int .i64 0, .int .i64 0] 37)) := T2.alloc (.cells #[.int .i64 0, .int .i64 0, .int .i64 0, .int .i64 0, .int .i64 0, .int .i64 0] 37)
           refine hK.out _ _ (T3.drop (a := [_, _])) fun _ => ?_
           clear hK K T2
           simp only [st0, st1, st2]
           generalize V2.alloc (.cells #[.int .i64 0, .int .i64 0, .int .i64 0, .int .i64 0, .int .i64 0, .int .i64 0] 37) = V3 at *
           generalize V2.heap.size = bz at *
           refine rdyA 5 (fun K hK => ?_)
           · go_simp
             refine (Hof2.out _ _ T3).mono ?_
             rintro e V4 ⟨rfl, hB⟩
             have T4 := T3.call hB
             refine hK.out _ _ (T4.drop (a := [_, _])) fun _ => ?_
             clear hK K hB T3
             simp only [st0, st1, st2]
             exact hG.out bx bz V4 (T4.perm (perm_of fun c => by simp; try omega))
       · go_simp
         have T2 : Turn [] w1 ([(V1.heap.size, .cells #[.int .i64 0, .int .i64 0, .int .i64 0, .int .i64 0, .int .i64 0, .int .i64 0] 37), (bx, .cells #[.int .i64 0, .int .i64 0, .int .i64 0, .int .i64 0, .int .i64 0, .int .i64 0] 37)] ++ Y) (V1.alloc (.cells #[.int .i64 0, .int .i64 0, .int .i64 0, .int .i64 0, .int .i64 0, .int .i64 0] 37)) := T1.alloc (.cells #[.int .i64 0, .int .i64 0, .int .i64 0, .int .i64 0, .int .i64 0, .int .i64 0] 37)
         refine hK.out _ _ (T2.drop (a := [_, _])) fun _ => ?_
         clear hK K T1
         simp only [st0, st1, st2]
         generalize V1.alloc (.cells #[.int .i64 0, .int .i64 0, .int .i64 0, .int .i64 0, .int .i64 0, .int .i64 0] 37) = V2 at *
         generalize V1.heap.size = bz at *
         refine rdyA 2 (fun K hK => ?_)
         · go_simp
           refine (Hof1.out _ _ T2).mono ?_
           rintro e V3 ⟨rfl, hB⟩
           have T3 := T2.call hB
           refine hK.out _ _ (T3.drop (a := [_, _])) fun _ => ?_
           clear hK K hB T2
           simp only [st0, st1, st2]
           refine rdyA 5 (fun K hK => ?_)
           · go_simp
             refine (Hof2.out _ _ T3).mono ?_
             rintro e V4 ⟨rfl, hB⟩
             have T4 := T3.call hB
             refine hK.out _ _ (T4.drop (a := [_, _])) fun _ => ?_
             clear hK K hB T3
             simp only [st0, st1, st2]
             exact hG.out bx bz V4 (T4.perm (perm_of fun c => by simp; try omega))
     · go_simp
       have T1 : Turn [] w1 ([(V0.heap.size, .cells #[.int .i64 0, .int .i64 0, .int .i64 0, .int .i64 0, .int .i64 0, .int .i64 0] 37)] ++ Y) (V0.alloc (.cells #[.int .i64 0, .int .i64 0, .int .i64 0, .int .i64 0, .int .i64 0, .int .i64 0] 37)) := T0.alloc (.cells #[.int .i64 0, .int .i64 0, .int .i64 0, .int .i64 0, .int .i64 0, .int .i64 0] 37)
       refine hK.out _ _ (T1.drop (a := [_])) fun _ => ?_
       clear hK K T0
       simp only [st0, st1, st2]
       generalize V0.alloc (.cells #[.int .i64 0, .int .i64 0, .int .i64 0, .int .i64 0, .int .i64 0, .int .i64 0] 37) = V1 at *
       generalize V0.heap.size = bz at *
       refine wpAnyH_ready (rs := [2, 6]) (by kernel_rfl) (by simp) (AllReadyH.cons rfl (fun K hK => ?_) (AllReadyH.cons rfl (fun K hK => ?_) AllReadyH.nil))
       · go_simp
         refine (Hof1.out _ _ T1).mono ?_
         rintro e V2 ⟨rfl, hB⟩
         have T2 := T1.call hB
         refine hK.out _ _ (T2.drop (a := [_])) fun _ => ?_
         clear hK K hB T1
         simp only [st0, st1, st2]
         refine wpAnyH_ready (rs := [5, 6]) (by kernel_rfl) (by simp) (AllReadyH.cons rfl (fun K hK => ?_) (AllReadyH.cons rfl (fun K hK => ?_) AllReadyH.nil))
         · go_simp
           refine (Hof2.out _ _ T2).mono ?_
           rintro e V3 ⟨rfl, hB⟩
           have T3 := T2.call hB
           refine hK.out _ _ (T3.drop (a := [_])) fun _ => ?_
           clear hK K hB T2
           simp only [st0, st1, st2]
           refine rdyA 6 (fun K hK => ?_)
           · go_simp
             have T4 : Turn [] w1 ([(V3.heap.size, .cells #[.int .i64 0, .int .i64 0, .int .i64 0, .int .i64 0, .int .i64 0, .int .i64 0] 37), (bz, .cells #[.int .i64 0, .int .i64 0, .int .i64 0, .int .i64 0, .int .i64 0, .int .i64 0] 37)] ++ Y) (V3.alloc (.cells #[.int .i64 0, .int .i64 0, .int .i64 0, .int .i64 0, .int .i64 0, .int .i64 0] 37)) := T3.alloc (.cells #[.int .i64 0, .int .i64 0, .int .i64 0, .int .i64 0, .int .i64 0, .int .i64 0] 37)
             refine hK.out _ _ (T4.drop (a := [_, _])) fun _ => ?_
             clear hK K T3
             simp only [st0, st1, st2]
             generalize V3.alloc (.cells #[.int .i64 0, .int .i64 0, .int .i64 0, .int .i64 0, .int .i64 0, .int .i64 0] 37) = V4 at *
             generalize V3.heap.size = bx at *
             exact hG.out bx bz V4 (T4.perm (perm_of fun c => by simp; try omega))
         · go_simp
           have T3 : Turn [] w1 ([(V2.heap.size, .cells #[.int .i64 0, .int .i64 0, .int .i64 0, .int .i64 0, .int .i64 0, .int .i64 0] 37), (bz, .cells #[.int .i64 0, .int .i64 0, .int .i64 0, .int .i64 0, .int .i64 0, .int .i64 0] 37)] ++ Y) (V2.alloc (.cells #[.int .i64 0, .int .i64 0, .int .i64 0, .int .i64 0, .int .i64 0, .int .i64 0] 37)) := T2.alloc (.cells #[.int .i64 0, .int .i64 0, .int .i64 0, .int .i64 0, .int .i64 0, .int .i64 0] 37)
           refine hK.out _ _ (T3.drop (a := [_, _])) fun _ => ?_
           clear hK K T2
           simp only [st0, st1, st2]
           generalize V2.alloc (.cells #[.int .i64 0, .int .i64 0, .int .i64 0, .int .i64 0, .int .i64 0, .int .i64 0] 37) = V3 at *
           generalize V2.heap.size = bx at *
           refine rdyA 5 (fun K hK => ?_)
           · go_simp
             refine (Hof2.out _ _ T3).mono ?_
             rintro e V4 ⟨rfl, hB⟩
             have T4 := T3.call hB
             refine hK.out _ _ (T4.drop (a := [_, _])) fun _ => ?_
             clear hK K hB T3
             simp only [st0, st1, st2]
             exact hG.out bx bz V4 (T4.perm (perm_of fun c => by simp; try omega))
       · go_simp
         have T2 : Turn [] w1 ([(V1.heap.size, .cells #[.int .i64 0, .int .i64 0, .int .i64 0, .int .i64 0, .int .i64 0, .int .i64 0] 37), (bz, .cells #[.int .i64 0, .int .i64 0, .int .i64 0, .int .i64 0, .int .i64 0, .int .i64 0] 37)] ++ Y) (V1.alloc (.cells #[.int .i64 0, .int .i64 0, .int .i64 0, .int .i64 0, .int .i64 0, .int .i64 0] 37)) := T1.alloc (.cells #[.int .i64 0, .int .i64 0, .int .i64 0, .int .i64 0, .int .i64 0, .int .i64 0] 37)
         refine hK.out _ _ (T2.drop (a := [_, _])) fun _ => ?_
         clear hK K T1
         simp only [st0, st1, st2]
         generalize V1.alloc (.cells #[.int .i64 0, .int .i64 0, .int .i64 0, .int .i64 0, .int .i64 0, .int .i64 0] 37) = V2 at *
         generalize V1.heap.size = bx at *
         refine rdyA 2 (fun K hK => ?_)
         · go_simp
           refine (Hof1.out _ _ T2).mono ?_
           rintro e V3 ⟨rfl, hB⟩
           have T3 := T2.call hB
           refine hK.out _ _ (T3.drop (a := [_, _])) fun _ => ?_
           clear hK K hB T2
           simp only [st0, st1, st2]
           refine rdyA 5 (fun K hK => ?_)
           · go_simp
             refine (Hof2.out _ _ T3).mono ?_
             rintro e V4 ⟨rfl, hB⟩
             have T4 := T3.call hB
             refine hK.out _ _ (T4.drop (a := [_, _])) fun _ => ?_
             clear hK K hB T3
             simp only [st0, st1, st2]
             exact hG.out bx bz V4 (T4.perm (perm_of fun c => by simp; try omega))
    case h2 =>
     intro bx bz V0 U0
     refine wpAnyH_ready (rs := [8]) (by kernel_rfl) (by simp) (AllReadyH.cons (by rfl) (fun K hK => ?_) AllReadyH.nil)
     have hth0 := U0.there1
     have U1 := U0.laid [.int .i64 idn, .int .i64 xk.objects, .int .i64 xk.granules, .int .i64 xk.slots, .int .i64 xk.refs, .int .i64 xk.nils] rfl
     refine step_store rfl rfl 37 _ _ rfl _ 0 #[.int .i64 idn, .int .i64 xk.objects, .int .i64 xk.granules, .int .i64 xk.slots, .int .i64 xk.refs, .int .i64 xk.nils] rfl rfl hth0 hsk hox ?_
     refine hK.out _ _ (U1.drop (a := [_, _])) fun _ => ?_
     clear hK K hth0
     simp only [st0, st1, st2]
     generalize V0.setCells bx 0 _ = V6 at *
     refine wpAnyH_ready (rs := [9]) (by kernel_rfl) (by simp) (AllReadyH.cons (by rfl) (fun K hK => ?_) AllReadyH.nil)
     have hth1 := U1.there2
     have U2 := U1.laid2 [.int .i64 idn, .int .i64 yk.objects, .int .i64 yk.granules, .int .i64 yk.slots, .int .i64 yk.refs, .int .i64 yk.nils] rfl
     refine step_store rfl rfl 37 _ _ rfl _ 0 #[.int .i64 idn, .int .i64 yk.objects, .int .i64 yk.granules, .int .i64 yk.slots, .int .i64 yk.refs, .int .i64 yk.nils] rfl rfl hth1 hsk hoy ?_
     refine hK.out _ _ (U2.drop (a := [_, _])) fun _ => ?_
     clear hK K hth1
     simp only [st0, st1, st2]
     refine wpAnyH_done (by kernel_rfl) ?_ _
     refine NoPanic.normal ?_
     exact ⟨rfl, bx, bz, rfl, U2⟩
   case hq =>
    intro bx bz w11 T11
    clear hox hoy Hof1 Hof2
    have HPg := uh (Hback.out [_, _] w11 (by intro x hx; simp at hx; rcases hx with rfl | rfl <;> rfl) T11)
    have e1 := T11.cell1 1
    have e2 := T11.cell1 2
    have e3 := T11.cell1 3
    have e4 := T11.cell1 4
    have e5 := T11.cell1 5
    have f1 := T11.cell2 1
    have f2 := T11.cell2 2
    have f3 := T11.cell2 3
    have f4 := T11.cell2 4
    have f5 := T11.cell2 5
    have g2 := HPg.out.cell (List.mem_cons_of_mem _ (List.mem_cons_of_mem _ Hmb.out)) 2
    have g3 := HPg.out.cell (List.mem_cons_of_mem _ (List.mem_cons_of_mem _ Hma.out)) 2
    have hy1 : yk.objects = xk.objects + 1 := by rw [Hyn.out]
    have hy2 : yk.granules = xk.granules + tz := by rw [Hyn.out]
    have hy3 : yk.slots = xk.slots + ts := by rw [Hyn.out]
    have hy4 : yk.refs = xk.refs + tr := by rw [Hyn.out]
    have hy5 : yk.nils = xk.nils + tr := by rw [Hyn.out]
    obtain ⟨s1, s2, s3, s4, s5⟩ := Hys.out
    have hw1 : IntKind.i64.wrap ((xk.objects : Int) + 1) = (yk.objects : Int) := by rw [i64_in _ (by omega)]; omega
    have hw2 : IntKind.i64.wrap ((xk.granules : Int) + (tz : Int)) = (yk.granules : Int) := by rw [i64_in _ (by omega)]; omega
    have hw3 : IntKind.i64.wrap ((xk.slots : Int) + (ts : Int)) = (yk.slots : Int) := by rw [i64_in _ (by omega)]; omega
    have hw4 : IntKind.i64.wrap ((xk.refs : Int) + (tr : Int)) = (yk.refs : Int) := by rw [i64_in _ (by omega)]; omega
    have hw5 : IntKind.i64.wrap ((xk.nils : Int) + (tr : Int)) = (yk.nils : Int) := by rw [i64_in _ (by omega)]; omega
    have hw6 : IntKind.i64.wrap (x2 - (tz : Int)) = y2 := by
     have h1 := Hfree.out
     have h2 := Hfx.out
     have h3 := HHy2.out
     have h4 := Hfs.out
     rw [i64_in _ (by omega)]
     omega
    obtain ⟨XX, hXX⟩ : ∃ XX, [(bx, Obj.cells #[.int .i64 idn, .int .i64 xk.objects, .int .i64 xk.granules, .int .i64 xk.slots, .int .i64 xk.refs, .int .i64 xk.nils] 37), (bz, Obj.cells #[.int .i64 idn, .int .i64 yk.objects, .int .i64 yk.granules, .int .i64 yk.slots, .int .i64 yk.refs, .int .i64 yk.nils] 37)] ++ X = XX := ⟨_, rfl⟩
    have HPh : Hid (PlAt w1 w11 sb tb rb (some ⟨b, off, none⟩) lcap L W' B' W XX) := uh (by rw [← hXX]; exact HPg.out)
    have Hmx : Hid ((bx, Obj.cells #[.int .i64 idn, .int .i64 xk.objects, .int .i64 xk.granules, .int .i64 xk.slots, .int .i64 xk.refs, .int .i64 xk.nils] 37) ∈ XX) := uh (by rw [← hXX]; exact List.mem_cons_self ..)
    have Hma2 : Hid ((na, Obj.cells #[.slice ao ss.length cap, .int .i64 x1, .int .i64 x2, .int .i64 x3, .int .i64 x4, .int .i64 x5, .int .i64 x6] 32) ∈ XX) := uh (by rw [← hXX]; exact List.mem_append_right _ Hma.out)
    have Hmb2 : Hid ((nb, Obj.cells #[.slice ao2 ss2.length cap2, .int .i64 y1, .int .i64 y2, .int .i64 y3, .int .i64 y4, .int .i64 y5, .int .i64 y6] 32) ∈ XX) := uh (by rw [← hXX]; exact List.mem_append_right _ Hmb.out)
    have Hsa2 : Hid (la.Sublist XX) := uh (by rw [← hXX]; exact Hsa.out.trans (List.sublist_append_right _ _))
    have Hsb2 : Hid (lb.Sublist XX) := uh (by rw [← hXX]; exact Hsb.out.trans (List.sublist_append_right _ _))
    clear hXX HPg T11 HT0 Hback HrA HrB Hma Hmb Hsa Hsb hy1 hy2 hy3 hy4 hy5 s1 s2 s3 s4 s5
    go_wp2_with fail
    clear hw1 hw2 hw3 hw4 hw5 hw6 e1 e2 e3 e4 e5 f1 f2 f3 f4 f5 g2 g3
    go_loopw [29] (fun v29 wr => ∃ (k : Nat), 1 ≤ k ∧ k ≤ L.length + 1 ∧ v29 = .int .i64 k ∧ PlAt w1 wr sb tb rb (some ⟨b, off, none⟩) lcap L W' B' W XX) (fun v29 _ => L.length + 1 - (intOf v29).toNat)
    case atStart => exact ⟨1, Nat.le_refl _, by omega, by go_num, HPh.out⟩
    case round =>
     clear HPh
     obtain ⟨k, hk1, hk2, rfl, V⟩ := hrel
     have HV := uh V
     have HL4 := Hix.out.2.2
     by_cases hlt : k ≤ L.length
     · have hlt' : (k : Int) ≤ (L.length : Int) := by omega
       clear V
       by_cases hke : k = idn
       · have c1 : ((k : Int) != (idn : Int)) = false := by rw [hke]; simp
         clear hke
         go_wp2_with fail
         have hS := HV.out.drew
         clear HV
         refine wp_region_noPanic ?_
         refine wp_region_listed (S := fun u => PlAt w1 u sb tb rb (some ⟨b, off, none⟩) lcap L W' B' W XX) 12 [false, false, false, false, false, false, false, false, false, false, false, false] rfl rfl (by kernel_rfl) ?_
         generalize wr.drew = u0 at *
         refine tkA 0 199 hS ?_
         refine tkA 1 200 hS ?_
         refine tkB 2 201 hS (fun w hSw => c1) ?_
         refine tkA 3 202 hS ?_
         refine tkS 4 203 hS ?_
         refine tkS 5 204 hS ?_
         refine tkS 6 205 hS ?_
         refine tkS 7 206 hS ?_
         refine tkS 8 207 hS ?_
         refine tkS 9 208 hS ?_
         refine tkS 10 209 hS ?_
         refine tkA 11 210 hS ?_
         refine wpAnyH_done (by kernel_rfl) ?_ _
         refine NoPanic.normal ?_
         have HV2 := uh hS
         clear hS c1
         go_wp2_with fail
         go_roundw
         case rel => exact ⟨k + 1, by omega, by omega, by go_num, HV2.out⟩
         case measure => simp [intOf]; omega
       · have c1 : ((k : Int) != (idn : Int)) = true := by rw [bne_iff_ne]; omega
         have hKk : K' k = K k := by have h := Hnum.out k; rw [if_neg hke] at h; exact h
         have HKk := uh hKk
         clear hke hKk
         obtain ⟨zk, hzk⟩ : ∃ x, K k = x := ⟨_, rfl⟩
         have Hzk := uh hzk
         clear hzk
         go_wp2_with fail
         have hS := HV.out.drew
         clear HV
         refine wp_region_noPanic ?_
         refine wp_region_listed (S := fun u => PlAt w1 u sb tb rb (some ⟨b, off, none⟩) lcap L W' B' W XX) 12 [false, false, false, false, false, false, false, false, false, false, false, false] rfl rfl (by kernel_rfl) ?_
         generalize wr.drew = u0 at *
         refine tkA 0 199 hS ?_
         refine tkA 1 200 hS ?_
         refine tkB 2 201 hS (fun w hSw => c1) ?_
         refine tkA 3 202 hS ?_
         refine tkC 4 203 hS (fun w' hSw => load_mid_run 32 _ rfl na 0 rfl [.slice ao ss.length cap, .int .i64 x1, .int .i64 x2, .int .i64 x3, .int .i64 x4, .int .i64 x5, .int .i64 x6] _ (hSw.range Hma2.out) Tryz.underlying32 rfl hss) ?_
         refine tkA 5 204 hS ?_
         refine tkC 7 206 hS (fun w' hSw => load_mid_run 32 _ rfl nb 0 rfl [.slice ao2 ss2.length cap2, .int .i64 y1, .int .i64 y2, .int .i64 y3, .int .i64 y4, .int .i64 y5, .int .i64 y6] _ (hSw.range Hmb2.out) Tryz.underlying32 rfl hss) ?_
         refine tkA 8 207 hS ?_
         refine wpAnyH_ready (rs := [6]) (by kernel_rfl) (by simp) (AllReadyH.cons (by rfl) (fun K hK => ?_) AllReadyH.nil)
         go_simp
         refine (show Calls Tryz.prog 21 #[.agg #[.slice ao ss.length cap, .int .i64 x1, .int .i64 x2, .int .i64 x3, .int .i64 x4, .int .i64 x5, .int .i64 x6], .int .i64 k] u0 fun e w2 => e = .returned (.agg #[.int .i64 k, .int .i64 zk.objects, .int .i64 zk.granules, .int .i64 zk.slots, .int .i64 zk.refs, .int .i64 zk.nils]) ∧ Below u0.heap.size u0 w2 from by
          have h := lof u0 ao cap ss _ Hsl.out (hS.src HRA.out Hsa2.out) x1 x2 x3 x4 x5 x6 k
          rw [HKs.out, Hzk.out] at h
          exact h.mono fun e w2 ⟨he, hT⟩ => ⟨he, hT.below⟩).mono ?_
         rintro e u1 ⟨rfl, hB⟩
         have hS1 := hS.call hB
         clear hS hB
         refine hK.out _ _ hS1 fun _ => ?_
         clear hK K
         simp only [st0, st1, st2]
         refine wpAnyH_ready (rs := [9]) (by kernel_rfl) (by simp) (AllReadyH.cons (by rfl) (fun K hK => ?_) AllReadyH.nil)
         go_simp
         refine (show Calls Tryz.prog 21 #[.agg #[.slice ao2 ss2.length cap2, .int .i64 y1, .int .i64 y2, .int .i64 y3, .int .i64 y4, .int .i64 y5, .int .i64 y6], .int .i64 k] u1 fun e w2 => e = .returned (.agg #[.int .i64 k, .int .i64 zk.objects, .int .i64 zk.granules, .int .i64 zk.slots, .int .i64 zk.refs, .int .i64 zk.nils]) ∧ Below u1.heap.size u1 w2 from by
          have h := lof u1 ao2 cap2 ss2 _ Hsl2.out (hS1.src HRB.out Hsb2.out) y1 y2 y3 y4 y5 y6 k
          rw [HKs'.out, HKk.out, Hzk.out] at h
          exact h.mono fun e w2 ⟨he, hT⟩ => ⟨he, hT.below⟩).mono ?_
         rintro e u2 ⟨rfl, hB⟩
         have hS2 := hS1.call hB
         clear hS1 hB
         refine hK.out _ _ hS2 fun _ => ?_
         clear hK K
         simp only [st0, st1, st2]
         refine tkA 10 209 hS2 ?_
         refine tkA 11 210 hS2 ?_
         refine wpAnyH_done (by kernel_rfl) ?_ _
         refine NoPanic.normal ?_
         have HV2 := uh hS2
         clear hS2 c1
         go_wp2_with fail
         go_roundw
         case rel => exact ⟨k + 1, by omega, by omega, by go_num, HV2.out⟩
         case measure => simp [intOf]; omega
     · have hnl : ¬ (k : Int) ≤ (L.length : Int) := by omega
       clear V hlt
       go_wp2_with fail
       refine (sdrop_all _ Hb.out HV.out Hpl2.out g).mono ?_
       rintro e w12 ⟨er2, W2, B2, cs2, rfl, hd2, hpl3, hP12⟩
       obtain ⟨rfl, hK2, hf2⟩ := Hdrop.out er2 W2 B2 cs2 hd2 hpl3
       have HPi := uh hP12
       have Hpl3 := uh hpl3
       have HK2 := uh hK2
       have Hf2 := uh hf2
       clear hd2 hpl3 hP12 hK2 hf2 HV
       go_wp2_with fail
       refine (stats_at Hb.out HPi.out Hpl3.out).mono ?_
       rintro e w13 ⟨ss3, ao3, cap3, lc, rfl, hpw, hnd, hmm, hrow, hP0⟩
       have HRC := uh hrow
       have HKs3 := uh (show kpAt (fun k => keptOf L W2 (ofType (objs cs2) k)) ss3 idn = xk by
        rw [kpAt_eq hmm idn, HK2.out idn, ← Hxk.out, HKd.out])
       have Hsl3 := uh (ss_small Hpl3.out.good hnd hmm)
       clear hpw hnd hmm hrow HPi
       obtain ⟨z1, z2, z3, z4, z5, z6, hst, hz2⟩ : ∃ z1 z2 z3 z4 z5 z6 : Int, (∀ ao cap, stVal ao cap ss3 L W2 cs2 = .agg #[.slice ao ss3.length cap, .int .i64 z1, .int .i64 z2, .int .i64 z3, .int .i64 z4, .int .i64 z5, .int .i64 z6]) ∧ ((freeOf cs2 : Nat) : Int) = z2 := ⟨_, _, _, _, _, _, fun _ _ => rfl, rfl⟩
       rw [hst]
       have HHz2 := uh hz2
       have Hstz := uh hst
       obtain ⟨nc, hnn⟩ : ∃ nc, w13.heap.size = nc := ⟨_, rfl⟩
       have P0 := hP0.alloc (.cells #[.slice none 0 0, .int .i64 0, .int .i64 0, .int .i64 0, .int .i64 0, .int .i64 0, .int .i64 0] 32) rfl
       rw [hnn] at P0
       have hth : (w13.alloc (.cells #[.slice none 0 0, .int .i64 0, .int .i64 0, .int .i64 0, .int .i64 0, .int .i64 0, .int .i64 0] 32)).there nc 0 7 := P0.there1
       have HPj := uh (P0.laid [.slice ao3 ss3.length cap3, .int .i64 z1, .int .i64 z2, .int .i64 z3, .int .i64 z4, .int .i64 z5, .int .i64 z6] rfl)
       have hos : (#[.slice ao3 ss3.length cap3, .int .i64 z1, .int .i64 z2, .int .i64 z3, .int .i64 z4, .int .i64 z5, .int .i64 z6] : Array Value).all (·.oneCell') = true := all_one (cs := [.slice ao3 ss3.length cap3, .int .i64 z1, .int .i64 z2, .int .i64 z3, .int .i64 z4, .int .i64 z5, .int .i64 z6]) (by simp [Value.oneCell'])
       clear hst hz2 P0 hP0
       have hzx : z2 = x2 := by
        have h1 := Hf2.out
        have h2 := Hfx.out
        have h3 := HHz2.out
        omega
       have Hzx := uh hzx
       clear hzx
       go_wp2_with (first
        | (show wpList _ _ _ (⟨_, Op.store 32 _ _, _, _, _, _⟩ :: _) _ _; refine wpList_store_mid rfl 32 _ _ rfl nc 0 #[.slice ao3 ss3.length cap3, .int .i64 z1, .int .i64 z2, .int .i64 z3, .int .i64 z4, .int .i64 z5, .int .i64 z6] rfl rfl hth hss hos ?_; clear hth; generalize (w13.alloc (.cells #[.slice none 0 0, .int .i64 0, .int .i64 0, .int .i64 0, .int .i64 0, .int .i64 0, .int .i64 0] 32)).setCells nc 0 [.slice ao3 ss3.length cap3, .int .i64 z1, .int .i64 z2, .int .i64 z3, .int .i64 z4, .int .i64 z5, .int .i64 z6] = w14 at *)
        | fail)
       clear hos hnn
       have hS := HPj.out.drew
       refine wp_region_noPanic ?_
       refine wp_region_listed (S := fun u => PlAt w1 u sb tb rb (some ⟨b, off, none⟩) lcap L W2 B2 W ((nc, Obj.cells #[.slice ao3 ss3.length cap3, .int .i64 z1, .int .i64 z2, .int .i64 z3, .int .i64 z4, .int .i64 z5, .int .i64 z6] 32) :: (lc ++ XX))) 20 [false, false, false, false, false, false, false, false, false, false, false, false, false, false, false, false, false, false, false, false] rfl rfl (by kernel_rfl) ?_
       generalize w14.drew = u0 at *
       refine tkA 0 220 hS ?_
       refine tkA 1 221 hS ?_
       refine tkA 2 222 hS ?_
       refine tkC 3 223 hS (fun w' hSw => load_mid_run 32 _ rfl nc 0 rfl [.slice ao3 ss3.length cap3, .int .i64 z1, .int .i64 z2, .int .i64 z3, .int .i64 z4, .int .i64 z5, .int .i64 z6] _ (hSw.range (List.mem_cons_self ..)) Tryz.underlying32 rfl hss) ?_
       refine tkA 4 224 hS ?_
       refine tkC 6 226 hS (fun w' hSw => load_mid_run 37 _ rfl bx 0 rfl [.int .i64 idn, .int .i64 xk.objects, .int .i64 xk.granules, .int .i64 xk.slots, .int .i64 xk.refs, .int .i64 xk.nils] _ (hSw.range (List.mem_cons_of_mem _ (List.mem_append_right lc Hmx.out))) Tryz.underlying37 rfl hsk) ?_
       refine wpAnyH_ready (rs := [5]) (by kernel_rfl) (by simp) (AllReadyH.cons (by rfl) (fun K hK => ?_) AllReadyH.nil)
       go_simp
       refine (show Calls Tryz.prog 21 #[.agg #[.slice ao3 ss3.length cap3, .int .i64 z1, .int .i64 z2, .int .i64 z3, .int .i64 z4, .int .i64 z5, .int .i64 z6], .int .i64 idn] u0 fun e w2 => e = .returned (.agg #[.int .i64 idn, .int .i64 xk.objects, .int .i64 xk.granules, .int .i64 xk.slots, .int .i64 xk.refs, .int .i64 xk.nils]) ∧ Below u0.heap.size u0 w2 from by
        have h := lof u0 ao3 cap3 ss3 _ Hsl3.out (hS.src HRC.out ((List.sublist_append_left lc _).cons _)) z1 z2 z3 z4 z5 z6 idn
        rw [HKs3.out] at h
        exact h.mono fun e w2 ⟨he, hT⟩ => ⟨he, hT.below⟩).mono ?_
       rintro e u1 ⟨rfl, hB⟩
       have hS1 := hS.call hB
       clear hS hB
       refine hK.out _ _ hS1 fun _ => ?_
       clear hK K
       simp only [st0, st1, st2]
       refine tkA 7 227 hS1 ?_
       refine tkA 8 228 hS1 ?_
       refine tkA 9 229 hS1 ?_
       refine tkA 10 230 hS1 ?_
       refine tkB 11 231 hS1 (fun w hSw => hSw.cell (List.mem_cons_self ..) 2) ?_
       refine tkA 12 232 hS1 ?_
       refine tkB 13 233 hS1 (fun w hSw => hSw.cell (List.mem_cons_of_mem _ (List.mem_append_right lc Hma2.out)) 2) ?_
       refine tkB 14 234 hS1 (fun w hSw => Hzx.out) ?_
       refine tkA 15 235 hS1 ?_
       refine tkA 16 236 hS1 ?_
       refine wpAnyH_ready (rs := [17]) (by kernel_rfl) (by simp) (AllReadyH.cons (by rfl) (fun K hK => ?_) AllReadyH.nil)
       go_simp
       refine (HAl1.out u1 hS1.below).mono ?_
       rintro e u2 ⟨rfl, hB⟩
       have hS2 := hS1.call hB
       clear hS1 hB
       refine hK.out _ _ hS2 fun _ => ?_
       clear hK K
       simp only [st0, st1, st2]
       refine tkA 18 238 hS2 ?_
       refine tkA 19 12 hS2 ?_
       refine wpAnyH_done (by kernel_rfl) ?_ _
       refine NoPanic.normal ?_
       have HB9 := uh (HB1.out.trans (hS2.below.mono HB1.out.size))
       clear hS2
       go_wp2_with fail
       go_ret
       exact ⟨rfl, HB9.out⟩
end
section
open Go Go.RowKit
theorem lens_mem {N : Nat} : ∀ {ss : List Stp}, lens ss ≤ N → ∀ s ∈ ss, s.ats.length ≤ N
 | a :: l, h, s, hs => by
  have h1 : lens (a :: l) = a.ats.length + lens l := by simp [lens]
  rcases List.mem_cons.1 hs with rfl | hs
  · omega
  · exact lens_mem (by omega) s hs
theorem played_all (w : World) (hF : Fields w) (L : List Ty) (lao : Option Addr) (lcap : Nat) (hS : Src w lao L.length lcap 3 (tys L)) (hTy : ∀ t ∈ L, TyIn t) (n : Int)
  (sao : Option Addr) (scap : Nat) (ss : List Stp) (hSt : Src w sao ss.length scap 6 (sts ss)) (hin : ∀ s ∈ ss, s.w < 18446744073709551616 ∧ Src w s.ao s.ats.length s.cap 1 (ints s.ats) ∧ s.ats.length ≤ 17592186044416) (hh : heavy n L.length ss = false) :
  Calls Tryz.prog 10 #[.int .i64 n, .slice lao L.length lcap, .slice sao ss.length scap] w fun e w' => PlayEnd w w' L lao lcap e := by
 unfold heavy at hh
 simp only [Bool.or_eq_false_iff, Bool.and_eq_false_iff, decide_eq_false_iff_not] at hh
 obtain ⟨⟨⟨h1, h2⟩, h3⟩, h4⟩ := hh
 have hL : L.length ≤ 1000 := by omega
 by_cases hok : (∀ t ∈ L, t.may) ∧ L.length ≤ 64
 · by_cases hn : mayWords n
   · obtain ⟨k, rfl⟩ : ∃ k : Nat, n = k := ⟨n.toNat, by have := hn.1; omega⟩
     refine played_ok w hF L lao lcap hS hTy hL hok k hn (by have := hn.2.1; omega) sao scap ss hSt (by omega) fun s hs => ?_
     obtain ⟨i1, i2, i3⟩ := hin s hs
     have h5 : lens ss ≤ 300 := by
      rw [List.take_of_length_le (by omega)] at h4
      omega
     exact ⟨by have := lens_mem h5 s hs; omega, i1, i2⟩
   · exact played_no w n L lao lcap sao ss.length scap (uh (made_few w L lao lcap hS hTy hL hok n hn))
 · exact played_no w n L lao lcap sao ss.length scap (uh (made_types w L lao lcap hS hTy hL hok n))
end
end Go.Proofs.YtbecgkejdacidaaGreatDoor
namespace Go.Proofs.YtbecgkejdacidaaGreatDoor.statsPut
open Go
theorem named : Tryz.pinned.checked.prog.funcNamed Rows.statsPutRow.func = some 4 := by kernel_rfl
theorem looks : false = Tryz.pinned.checked.prog.looks [] := by kernel_rfl
theorem wfText : Rows.statsPutRow.wfByText (OpenSpec.ofChange Rows.statsPutSpec) = true := by kernel_rfl
theorem mainIs : Tryz.pinned.checked.prog.mainIs = some (true, "367503d1219b5296946ea50cbce7af74187deeecb45e1afd359862ce6c042c1c".toList) := by kernel_rfl
theorem goesBy : false = Rows.statsPutRow.goesBy Tryz.pinned.checked.prog := by kernel_rfl
set_option maxRecDepth 100000 in
set_option maxHeartbeats 12800000 in
theorem closed : joinedFacts Tryz.pinned.checked.prog 4 Tryz.f4 Rows.statsPutSpec Rows.statsPutRow = true := by
 unfold joinedFacts
 simp only [Bool.and_eq_true]
 and_intros
 all_goals (as_aux_lemma => kernel_rfl)
end Go.Proofs.YtbecgkejdacidaaGreatDoor.statsPut
