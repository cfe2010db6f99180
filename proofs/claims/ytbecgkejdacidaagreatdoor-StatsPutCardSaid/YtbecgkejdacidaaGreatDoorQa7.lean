/-
  A part of a proof: texts packed by a program of mine (So1, Vl1, Of1, Of2, Lo1, Ls1, Tx1, Al1, Al2, Ss0).
  Conditions: those that each theorem states.
-/
import Derived.Test.YtbecgkejdacidaaGreatDoorQa6
namespace Go.Proofs.YtbecgkejdacidaaGreatDoor
section
open Go Go.RowKit Go.IntWalk
def kpc (t o g s r n : Nat) : Array Value := #[.int .i64 t, .int .i64 o, .int .i64 g, .int .i64 s, .int .i64 r, .int .i64 n]
def zAt (W : List Nat) (g s : Nat) : Bool := W.getD (2 * g + 1 + s) 0 == 0
def oRefs (L : List Ty) (c : Ce) : List Nat := (tyAt L c.2.typ).refs c.2.len
def oSlots (L : List Ty) (c : Ce) : Nat := (tyAt L c.2.typ).slots c.2.len
def oNils (L : List Ty) (W : List Nat) (c : Ce) : Nat := (oRefs L c).countP (zAt W c.1)
theorem count_next {p : Nat → Bool} {l : List Nat} {j s : Nat} (h : l[j]? = some s) : (l.take (j + 1)).countP p = (l.take j).countP p + if p s = true then 1 else 0 := by
 rw [take_nextA h, List.countP_append, List.countP_cons]
 simp
theorem obIn_refs {L : List Ty} {W : List Nat} {c : Ce} (hi : ObIn L W c) : ((tyAt L c.2.typ).refs c.2.len).length ≤ 65536 ∧ (tyAt L c.2.typ).slots c.2.len ≤ 65536 := by
 have h1 := refsTo_len (tyAt L c.2.typ) ((tyAt L c.2.typ).slots c.2.len)
 have h2 : (tyAt L c.2.typ).refs c.2.len = refsTo (tyAt L c.2.typ) ((tyAt L c.2.typ).slots c.2.len) := rfl
 obtain ⟨hm9, -, hn9, -⟩ := err_ok.1 hi.err
 have := slots_most hm9 (n := c.2.len) (by omega)
 rw [h2]
 omega
set_option maxRecDepth 100000 in
set_option maxHeartbeats 12800000 in
theorem sobject {w0 : World} (w : World) (sb a aw tb : Nat) {W : List Nat} (tao : Option Addr) (tcap : Nat) (L : List Ty) (hA : SpAt w0 sb a aw tb W tao tcap L) (hu : ∀ v ∈ W, v < 18446744073709551616) (hTy : ∀ t ∈ L, TyIn t) (hL : L.length ≤ 1000)
  (c : Ce) (hc : ObIn L W c) (hcs : c.2.size ≤ 65536) (kb t o g s r n : Nat) (ho : o ≤ 1099511627776) (hg : g ≤ 1099511627776) (hs : s ≤ 1099511627776) (hr : r ≤ 1099511627776) (hn : n ≤ 1099511627776) {R : List Blk} (T : Turn [] w0 ((kb, .cells (kpc t o g s r n) 37) :: R) w) :
  Calls Tryz.prog 57 #[.pointer (some ⟨sb, 0, none⟩), ceVal c, .pointer (some ⟨kb, 0, none⟩)] w fun e w' => (∃ u, e = .returned u) ∧ Turn [] w0 ((kb, .cells (kpc c.2.typ (o + 1) (g + c.2.size) (s + oSlots L c) (r + (oRefs L c).length) (n + oNils L W c)) 37) :: R) w' := by
 obtain ⟨xb, hxb⟩ : ∃ xb, w.heap.size = xb := ⟨_, rfl⟩
 have hsl := obIn_refs hc
 have hT1 : Turn [] w0 ((xb, .cells #[.int .i64 c.1, .int .u8 c.2.tag, .int .i64 c.2.typ, .int .i64 c.2.len, .int .i64 c.2.size] 81) :: (kb, .cells (kpc t o g s r n) 37) :: R) (w.alloc (.cells #[.int .i64 c.1, .int .u8 c.2.tag, .int .i64 c.2.typ, .int .i64 c.2.len, .int .i64 c.2.size] 81)) := by rw [← hxb]; exact T.alloc _
 have HS1 := uh (fun (w' : World) (Z : List Blk) (V : Turn [] w0 (Z ++ ((xb, .cells #[.int .i64 c.1, .int .u8 c.2.tag, .int .i64 c.2.typ, .int .i64 c.2.len, .int .i64 c.2.size] 81) :: (kb, .cells (kpc t o g s r n) 37) :: R)) w') => (⟨(hA.below V.below).c0, (hA.below V.below).c1, V.has.range (b := xb) (c := #[.int .i64 c.1, .int .u8 c.2.tag, .int .i64 c.2.typ, .int .i64 c.2.len, .int .i64 c.2.size]) (e := 81) (f := (0, 0)) (by simp)⟩ : (fun W' => W'.cell? ⟨sb, 0, none⟩ = some (.pointer (some ⟨a, 0, none⟩)) ∧ W'.cell? ⟨sb, 1, none⟩ = some (.pointer (some ⟨tb, 0, none⟩)) ∧ W'.rangeAt xb 0 [.int .i64 c.1, .int .u8 c.2.tag, .int .i64 c.2.typ, .int .i64 c.2.len, .int .i64 c.2.size]) w'))
 have Hsof := uh (fun (w' : World) (Z : List Blk) (V : Turn [] w0 Z w') => by
  have h7 := sof w' (hA.below V.below).fields (hA.below V.below).ar hu L hTy hL tb tao tcap (hA.below V.below).tab (c.1 : Int)
  rw [hc.obj] at h7
  exact h7)
 have Hvr := uh (fun (w' : World) (Z : List Blk) (V : Turn [] w0 Z w') vb (hv : VwAt w' vb a c.1 c.2 (tyAt L c.2.typ)) => vrefs_all w' vb a aw c.1 W c.2 _ (hA.below V.below).ar hv hc.ty hc.err hc.at_ hc.in_)
 have Hsl := uh (fun (w' : World) vb (hv : VwAt w' vb a c.1 c.2 (tyAt L c.2.typ)) => vslots w' hv hc.ty hc.err)
 have Hld := uh (fun (w' : World) (Z : List Blk) (V : Turn [] w0 Z w') vb (hv : VwAt w' vb a c.1 c.2 (tyAt L c.2.typ)) s v hs hvv => vload w' (hA.below V.below).ar hv hc.ty hc.err hc.at_ s v hs hvv)
 have Hin := uh hc.in_
 have HT1 := uh hT1.drew
 have Har := uh (fun w' (q : w'.cell? ⟨sb, 0, none⟩ = some (.pointer (some ⟨a, 0, none⟩))) => sarena w' (a := ⟨a, 0, none⟩) rfl q)
 have Hta := uh (fun w' (q : w'.cell? ⟨sb, 1, none⟩ = some (.pointer (some ⟨tb, 0, none⟩))) => stable w' (a := ⟨tb, 0, none⟩) rfl q)
 unfold oSlots oRefs oNils oRefs
 clear hT1 T hA hu hTy hc
 go_enter Tryz.func57, Tryz.ntmps57
 go_wp2_with fail
 clear hxb
 have hS1 := HS1.out _ [] HT1.out
 refine wp_region_noPanic ?_
 refine wp_region_listed (S := fun W' => W'.cell? ⟨sb, 0, none⟩ = some (.pointer (some ⟨a, 0, none⟩)) ∧ W'.cell? ⟨sb, 1, none⟩ = some (.pointer (some ⟨tb, 0, none⟩)) ∧ W'.rangeAt xb 0 [.int .i64 c.1, .int .u8 c.2.tag, .int .i64 c.2.typ, .int .i64 c.2.len, .int .i64 c.2.size]) 12 [false, false, false, false, false, false, false, false, false, false, false, false] rfl rfl (by kernel_rfl) ?_
 refine tkA 0 13 hS1 ?_
 refine tkA 2 15 hS1 ?_
 refine tkA 4 17 hS1 ?_
 refine tkB 5 18 hS1 (fun w hSw => hSw.2.2 0 _ rfl) ?_
 refine rdyA 1 (fun K hK => ?_)
 go_simp
 refine (Har.out _ hS1.1).mono ?_
 rintro e w3 ⟨rfl, hw⟩
 subst hw
 refine hK.out _ _ hS1 fun _ => ?_
 clear hK K
 simp only [st0, st1, st2]
 refine rdyA 3 (fun K hK => ?_)
 go_simp
 refine (Hta.out _ hS1.2.1).mono ?_
 rintro e w3 ⟨rfl, hw⟩
 subst hw
 refine hK.out _ _ hS1 fun _ => ?_
 clear hK K
 simp only [st0, st1, st2]
 refine rdyA 6 (fun K hK => ?_)
 go_simp
 refine (Hsof.out _ _ HT1.out).mono ?_
 rintro e w4 ⟨vb, rfl, T2⟩
 have T3 := HT1.out.grow T2
 have hS2 := HS1.out _ _ T3
 have HT3 := uh T3
 refine hK.out _ _ hS2 fun _ => ?_
 clear hK K T2 T3 hS1 HT1
 simp only [st0, st1, st2]
 refine tkA 7 12 hS2 ?_
 refine tkA 8 20 hS2 ?_
 refine tkA 9 21 hS2 ?_
 refine tkA 10 6 hS2 ?_
 refine tkA 11 7 hS2 ?_
 refine wpAnyH_done (by kernel_rfl) ?_ _
 refine NoPanic.normal ?_
 clear hS2 HS1
 obtain ⟨X, hX⟩ : ∃ X, X = (vb, .cells (viewCells a c.1 c.2 (tyAt L c.2.typ)).toArray 238) :: (xb, .cells #[.int .i64 c.1, .int .u8 c.2.tag, .int .i64 c.2.typ, .int .i64 c.2.len, .int .i64 c.2.size] 81) :: R := ⟨_, rfl⟩
 have HVw := uh (fun (w' : World) (Z : List Blk) (V : Turn [] w0 (Z ++ X) w') => (show VwAt w' vb a c.1 c.2 (tyAt L c.2.typ) by rw [hX] at V; exact V.has.range (b := vb) (c := (viewCells a c.1 c.2 (tyAt L c.2.typ)).toArray) (e := 238) (f := (0, 0)) (by simp)))
 have HXr := uh (fun (w' : World) (Z : List Blk) (V : Turn [] w0 (Z ++ X) w') => (show w'.rangeAt xb 0 [.int .i64 c.1, .int .u8 c.2.tag, .int .i64 c.2.typ, .int .i64 c.2.len, .int .i64 c.2.size] by rw [hX] at V; exact V.has.range (b := xb) (c := #[.int .i64 c.1, .int .u8 c.2.tag, .int .i64 c.2.typ, .int .i64 c.2.len, .int .i64 c.2.size]) (e := 81) (f := (0, 0)) (by simp)))
 have HT4 : Hid (Turn [] w0 ([(kb, .cells (kpc t o g s r n) 37)] ++ X) w4) := uh (by rw [hX]; exact HT3.out.perm (perm_of fun c => by simp <;> omega))
 have HXs := uh (show R.Sublist X by rw [hX]; exact (List.sublist_cons_self _ _).trans (List.sublist_cons_self _ _))
 clear HT3 hX Hsof Har Hta
 have q1 := HXr.out _ _ HT4.out 2 _ rfl
 have f0 := HT4.out.free1 0
 have k0 := HT4.out.cell1 0
 have T5 := HT4.out.setCell 0 (.int .i64 c.2.typ)
 have k1 : (w4.setCell ⟨kb, 0, none⟩ (.int .i64 c.2.typ)).cell? ⟨kb, 1, none⟩ = some (.int .i64 o) := T5.cell1 1
 have f1 := T5.free1 1
 have T6 := T5.setCell 1 (.int .i64 (o + 1))
 have HT6 : Hid (Turn [] w0 ([(kb, .cells (kpc c.2.typ (o + 1) g s r n) 37)] ++ X) ((w4.setCell ⟨kb, 0, none⟩ (.int .i64 c.2.typ)).setCell ⟨kb, 1, none⟩ (.int .i64 (o + 1)))) := uh T6
 clear T5 T6 HT4
 go_wp2_with fail
 refine wp_abs (fun W' => Turn [] w0 ([(kb, .cells (kpc c.2.typ (o + 1) g s r n) 37)] ++ X) W'.drew) HT6.out.drew fun W1 T7 => ?_
 refine wp_region_noPanic ?_
 refine wp_region_listed (S := fun W' => W'.rangeAt xb 0 [.int .i64 c.1, .int .u8 c.2.tag, .int .i64 c.2.typ, .int .i64 c.2.len, .int .i64 c.2.size]) 11 [false, false, false, false, false, false, false, false, false, false, false] rfl rfl (by kernel_rfl) ?_
 generalize W1.drew = W2 at *
 have hS7 := HXr.out _ _ T7
 have k2 := T7.cell1 2
 have f2 := T7.free1 2
 have hwA : IntKind.i64.wrap ((g : Int) + (c.2.size : Int)) = (g : Int) + (c.2.size : Int) := i64_in _ (by omega)
 have T8 : Turn [] w0 ([(kb, .cells (kpc c.2.typ (o + 1) (g + c.2.size) s r n) 37)] ++ X) (W2.setCell ⟨kb, 2, none⟩ (.int .i64 (g + c.2.size))) := T7.setCell 2 (.int .i64 (g + c.2.size))
 have hS8 := HXr.out _ _ T8
 have HT8 := uh T8
 clear T7 T8 HT6 q1 f0 k0 k1 f1
 refine tkA 0 37 hS7 ?_
 refine tkA 1 38 hS7 ?_
 refine tkA 2 39 hS7 ?_
 refine tkA 4 41 hS7 ?_
 refine tkA 5 42 hS7 ?_
 refine tkB 6 43 hS7 (fun w hSw => hSw 4 _ rfl) ?_
 refine rdyA 3 (fun K hK => ?_)
 go_simp
 refine hK.out _ _ hS7 fun _ => ?_
 clear hK K
 simp only [st0, st1, st2]
 refine tkA 7 44 hS7 ?_
 refine tkA 8 45 hS7 ?_
 refine tkA 9 46 hS7 ?_
 refine rdyA 10 (fun K hK => ?_)
 go_simp
 refine hK.out _ _ hS8 fun _ => ?_
 clear hK K k2 f2 hS7
 simp only [st0, st1, st2]
 refine wpAnyH_done (by kernel_rfl) ?_ _
 refine NoPanic.normal ?_
 clear hS8 hwA
 generalize W2.setCell ⟨kb, 2, none⟩ (.int .i64 (g + c.2.size)) = W3 at *
 go_wp2_with fail
 have hwB : IntKind.i64.wrap ((s : Int) + (((tyAt L c.2.typ).slots c.2.len : Nat) : Int)) = (s : Int) + (((tyAt L c.2.typ).slots c.2.len : Nat) : Int) := i64_in _ (by omega)
 have hsv := hsl.2
 generalize hsve : (tyAt L c.2.typ).slots c.2.len = sv at *
 have HSv := uh hsve
 clear hsve
 refine wp_abs (fun W' => Turn [] w0 ([(kb, .cells (kpc c.2.typ (o + 1) (g + c.2.size) s r n) 37)] ++ X) W'.drew) HT8.out.drew fun W4 T9 => ?_
 have HT9 : Hid (Turn [] w0 ([(kb, .cells (kpc c.2.typ (o + 1) (g + c.2.size) s r n) 37)] ++ X) W4.drew) := uh T9
 clear HT8 T9
 apply wp_mid (I := fun _ _ W' => Turn [] w0 ([(kb, .cells (kpc c.2.typ (o + 1) (g + c.2.size) (s + sv) r n) 37)] ++ X) W')
 case h =>
  refine wp_region_noPanic ?_
  refine wp_region_listed (S := fun W' => W'.rangeAt xb 0 [.int .i64 c.1, .int .u8 c.2.tag, .int .i64 c.2.typ, .int .i64 c.2.len, .int .i64 c.2.size]) 10 [false, false, false, false, false, false, false, false, false, false] rfl rfl (by kernel_rfl) ?_
  have T9 := HT9.out
  generalize W4.drew = W5 at T9 ⊢
  have hS9 := HXr.out _ _ T9
  have k3 := T9.cell1 3
  have HSl := uh (Hsl.out W5 vb (HVw.out _ _ T9))
  have Hfn := uh (fun (w' : World) (hB : Below W5.heap.size W5 w') => T9.call hB)
  refine tkA 0 47 hS9 ?_
  refine tkA 1 48 hS9 ?_
  refine tkA 2 49 hS9 ?_
  refine tkA 4 51 hS9 ?_
  refine wpAnyH_ready (rs := [3, 5]) (by kernel_rfl) (by simp) (AllReadyH.cons rfl (fun K hK => ?_) (AllReadyH.cons rfl (fun K hK => ?_) AllReadyH.nil))
  · go_simp
    refine hK.out _ _ hS9 fun _ => ?_
    clear hK K
    simp only [st0, st1, st2]
    refine rdyA 5 (fun K hK => ?_)
    go_simp
    refine HSl.out.mono ?_
    rintro e W7 ⟨rfl, hB7⟩
    have T9 := Hfn.out _ hB7
    have hS9 := HXr.out _ _ T9
    have k3 := T9.cell1 3
    refine hK.out _ _ hS9 fun _ => ?_
    clear hK K hB7
    simp only [st0, st1, st2]
    have HT10 : Turn [] w0 ([(kb, .cells (kpc c.2.typ (o + 1) (g + c.2.size) (s + sv) r n) 37)] ++ X) (W7.setCell ⟨kb, 3, none⟩ (.int .i64 (s + sv))) := T9.setCell 3 (.int .i64 (s + sv))
    have hS10 := HXr.out _ _ HT10
    have f3 := T9.free1 3
    refine tkA 6 53 hS9 ?_
    refine tkA 7 54 hS9 ?_
    refine tkA 8 55 hS9 ?_
    refine rdyA 9 (fun K hK => ?_)
    go_simp
    refine hK.out _ _ hS10 fun _ => ?_
    clear hK K
    simp only [st0, st1, st2]
    refine wpAnyH_done (by kernel_rfl) ?_ _
    refine NoPanic.normal ?_
    obtain ⟨z1, -⟩ : ∃ z : Nat, z = 0 := ⟨0, rfl⟩
    obtain ⟨z2, -⟩ : ∃ z : Nat, z = 0 := ⟨0, rfl⟩
    exact ⟨rfl, z1, z2, rfl, HT10⟩
  · go_simp
    refine HSl.out.mono ?_
    rintro e W7 ⟨rfl, hB7⟩
    have T9 := Hfn.out _ hB7
    have hS9 := HXr.out _ _ T9
    have k3 := T9.cell1 3
    refine hK.out _ _ hS9 fun _ => ?_
    clear hK K hB7
    simp only [st0, st1, st2]
    refine rdyA 3 (fun K hK => ?_)
    go_simp
    refine hK.out _ _ hS9 fun _ => ?_
    clear hK K
    simp only [st0, st1, st2]
    have HT10 : Turn [] w0 ([(kb, .cells (kpc c.2.typ (o + 1) (g + c.2.size) (s + sv) r n) 37)] ++ X) (W7.setCell ⟨kb, 3, none⟩ (.int .i64 (s + sv))) := T9.setCell 3 (.int .i64 (s + sv))
    have hS10 := HXr.out _ _ HT10
    have f3 := T9.free1 3
    refine tkA 6 53 hS9 ?_
    refine tkA 7 54 hS9 ?_
    refine tkA 8 55 hS9 ?_
    refine rdyA 9 (fun K hK => ?_)
    go_simp
    refine hK.out _ _ hS10 fun _ => ?_
    clear hK K
    simp only [st0, st1, st2]
    refine wpAnyH_done (by kernel_rfl) ?_ _
    refine NoPanic.normal ?_
    obtain ⟨z1, -⟩ : ∃ z : Nat, z = 0 := ⟨0, rfl⟩
    obtain ⟨z2, -⟩ : ∃ z : Nat, z = 0 := ⟨0, rfl⟩
    exact ⟨rfl, z1, z2, rfl, HT10⟩
 case hq =>
 intro z1 z2 w6 T10
 have hv := HVw.out _ _ T10
 have HVR := uh (Hvr.out w6 _ T10 vb hv)
 have HT10 := uh T10
 clear T10 hv hwB Hsl Hvr HT9
 go_wp2_with fail
 refine HVR.out.mono ?_
 rintro e w7 ⟨a15, p15, l15, rfl, hr15, T11⟩
 have HT11 := uh ((HT10.out.grow T11).perm (l2 := [(kb, .cells (kpc c.2.typ (o + 1) (g + c.2.size) (s + sv) r n) 37)] ++ (l15 ++ X)) (perm_of fun c => by simp <;> omega))
 have Hr15 := uh hr15
 have Hcn := uh (fun (j s : Nat) (h : ((tyAt L c.2.typ).refs c.2.len)[j]? = some s) => count_next (p := zAt W c.1) h)
 have Hcl := uh (fun j => List.countP_le_length (p := zAt W c.1) (l := ((tyAt L c.2.typ).refs c.2.len).take j))
 have hrl := hsl.1
 generalize hrs : (tyAt L c.2.typ).refs c.2.len = rs at *
 have HRs := uh hrs
 clear hr15 T11 HT10 HVR hrs
 go_wp2_with fail
 go_loopw [59] (fun v59 wr => ∃ (j : Nat), j ≤ rs.length ∧ v59 = .int .i64 j ∧ Turn [] w0 ([(kb, .cells (kpc c.2.typ (o + 1) (g + c.2.size) (s + sv) (r + j) (n + (rs.take j).countP (zAt W c.1))) 37)] ++ (l15 ++ X)) wr) (fun v59 _ => rs.length - (intOf v59).toNat)
 case atStart => exact ⟨0, Nat.zero_le _, by go_num, by simpa using HT11.out⟩
 case round =>
  clear HT11
  obtain ⟨j, hj, rfl, V⟩ := hrel
  by_cases hlt : j < rs.length
  · have hlt' : (j : Int) < (rs.length : Int) := by omega
    obtain ⟨q, hq⟩ : ∃ q, rs[j]? = some q := ⟨rs[j], List.getElem?_eq_getElem hlt⟩
    have hin := Hin.out q (List.mem_of_getElem? hq)
    obtain ⟨v, hvv⟩ : ∃ v, W[2 * c.1 + 1 + q]? = some v := ⟨W[2 * c.1 + 1 + q]'(hin.2), List.getElem?_eq_getElem _⟩
    have hzv : zAt W c.1 q = (v == 0) := by unfold zAt; rw [List.getD_eq_getElem?_getD, hvv]; rfl
    have hcn := Hcn.out j q hq
    rw [hzv] at hcn
    have hcl := Hcl.out j
    rw [List.length_take] at hcl
    have V' := V.perm (l2 := l15 ++ ((kb, .cells (kpc c.2.typ (o + 1) (g + c.2.size) (s + sv) (r + j) (n + (rs.take j).countP (zAt W c.1))) 37) :: X)) (perm_of fun c => by simp <;> omega)
    obtain ⟨b15, off15, rfl, hc15⟩ := (Hr15.out.src V'.has).form (by rw [nats_length]; omega)
    have q15 := hc15 j _ (nats_at hq)
    have p4 : wr.cell? ⟨kb, 4, none⟩ = some (.int .i64 ((r + j : Nat) : Int)) := V.cell1 4
    have g4 := V.free1 4
    generalize hcne : (rs.take j).countP (zAt W c.1) = cn at *
    have hra : (r : Int) + (j : Int) = ((r + j : Nat) : Int) := by omega
    have V5 := V.setCell 4 (.int .i64 (((r + j : Nat) : Int) + 1))
    have hv := HVw.out _ ((kb, .cells ((kpc c.2.typ (o + 1) (g + c.2.size) (s + sv) (r + j) (n + cn)).setIfInBounds 4 (.int .i64 (((r + j : Nat) : Int) + 1))) 37) :: l15) V5
    have HL := uh (Hld.out _ _ V5 vb hv q v hin.1 hvv)
    have HV5 := uh V5
    have HCn := uh hcn
    have hrj : r + j ≤ 2199023255552 := by omega
    clear V V' V5 hv hq hin hvv hzv hcn hc15 hcne hra
    have Hrj := uh (show ((r + j : Nat) : Int) + 1 = ((r + (j + 1) : Nat) : Int) by omega)
    generalize r + j = rj at *
    go_wp2_with fail
    refine HL.out.mono ?_
    rintro e w8 ⟨rfl, hB8⟩
    have T8 := HV5.out.call hB8
    clear hB8 HL HV5 p4 g4 q15
    by_cases hv0 : v = 0
    · subst hv0
      have p5 : w8.cell? ⟨kb, 5, none⟩ = some (.int .i64 ((n + cn : Nat) : Int)) := T8.cell1 5
      have g5 := T8.free1 5
      have HT9 := uh (T8.setCell 5 (.int .i64 (((n + cn : Nat) : Int) + 1)))
      have hnc : n + cn ≤ 2199023255552 := by omega
      clear T8
      have Hnc := uh (show ((n + cn : Nat) : Int) + 1 = ((n + (cn + 1) : Nat) : Int) by omega)
      generalize n + cn = ncn at *
      go_wp2_with fail
      go_roundw
      case rel =>
       refine ⟨j + 1, by omega, by go_num, ?_⟩
       rw [HCn.out, if_pos (by rfl)]
       have e : kpc c.2.typ (o + 1) (g + c.2.size) (s + sv) (r + (j + 1)) (n + (cn + 1)) = ((kpc c.2.typ (o + 1) (g + c.2.size) (s + sv) rj ncn).setIfInBounds 4 (.int .i64 ((rj : Int) + 1))).setIfInBounds 5 (.int .i64 ((ncn : Int) + 1)) := by
        rw [Hrj.out, Hnc.out]
        rfl
       rw [e]
       exact HT9.out
      case measure => simp [intOf]; omega
    · have k1 : ((v : Int) == 0) = false := by rw [beq_eq_false_iff_ne]; omega
      have k2 : (v == 0) = false := by rw [beq_eq_false_iff_ne]; exact hv0
      rw [k2, if_neg (by simp), Nat.add_zero cn] at HCn
      have HT9 := uh T8
      clear T8
      go_wp2_with fail
      go_roundw
      case rel =>
       refine ⟨j + 1, by omega, by go_num, ?_⟩
       rw [HCn.out]
       have e : kpc c.2.typ (o + 1) (g + c.2.size) (s + sv) (r + (j + 1)) (n + cn) = (kpc c.2.typ (o + 1) (g + c.2.size) (s + sv) rj (n + cn)).setIfInBounds 4 (.int .i64 ((rj : Int) + 1)) := by
        rw [Hrj.out]
        rfl
       rw [e]
       exact HT9.out
      case measure => simp [intOf]; omega
  · obtain rfl : j = rs.length := by omega
    have hnl : ¬ ((rs.length : Nat) : Int) < (rs.length : Int) := by omega
    rw [List.take_length] at V
    have HV := uh (V.sub (l2 := (kb, .cells (kpc c.2.typ (o + 1) (g + c.2.size) (s + sv) (r + rs.length) (n + rs.countP (zAt W c.1))) 37) :: R) (List.Sublist.cons_cons _ (HXs.out.trans (List.sublist_append_right l15 X))))
    clear V
    go_wp2_with fail
    go_end0
    refine ⟨⟨_, rfl⟩, ?_⟩
    rw [HSv.out, HRs.out]
    exact HV.out
end
section
open Go Go.RowKit Go.Maps Go.IntWalk
theorem Turn.of_owns {L : List Blk} {w w' : World} {e : TypeId} {size k : Nat} {v : Value} {xs : List Value} (hH : Has w L) (hB : Below w.heap.size w w') (ho : w'.ownsRow w.heap.size e size v k xs) :
  ∃ ao cap l', v = .slice ao k cap ∧ Row e size ao k cap xs l' ∧ Turn L w (l' ++ L) w' := by
 have T := Turn.of_below hH hB
 obtain ⟨hl, ⟨rfl, rfl⟩ | ⟨g, cap, cur, rfl, hg, hgb, hk, hc, hs, ht⟩⟩ := ho
 · have hx : xs = [] := List.eq_nil_of_length_eq_zero (by simpa using hl)
   subst hx
   exact ⟨none, 0, [], rfl, Row.nil _ _, T⟩
 · refine ⟨some ⟨g, 0, none⟩, cap, [(g, .cells cur e)], rfl, ⟨hl, hk, hc, .inr ⟨g, cur, rfl, rfl, by omega, ht⟩⟩, T.os, T.tape, T.output, T.size, ⟨?_, fun b o hm => ?_⟩, fun b hb => ?_, T.same⟩
   · rw [List.singleton_append, keys_cons, List.nodup_cons]
     refine ⟨fun hm => ?_, hH.nd⟩
     have := hH.lt hm
     omega
   · rw [List.singleton_append] at hm
     rcases List.mem_cons.1 hm with h | h
     · cases h; exact hgb
     · exact T.has.own b o h
   · rw [List.singleton_append, keys_cons] at hb
     rcases List.mem_cons.1 hb with rfl | h
     · exact .inr hg
     · exact .inl h
def mpk (ks : List Nat) (bl : Nat → Nat) : List (Int × Value) := ks.map fun (k : Nat) => ((k : Int), Value.pointer (some ⟨bl k, 0, none⟩))
theorem mpk_get {bl : Nat → Nat} {k : Nat} : ∀ {ks : List Nat}, k ∈ ks → mget (mpk ks bl) (k : Int) = some (.pointer (some ⟨bl k, 0, none⟩))
 | [], h => by cases h
 | j :: ks, h => by
  unfold mpk
  rw [List.map_cons, mget_cons]
  by_cases hk : (k : Int) = (j : Int)
  · rw [if_pos hk]
    have : k = j := by omega
    rw [this]
  · rw [if_neg hk]
    rcases List.mem_cons.1 h with rfl | h
    · exact absurd rfl hk
    · exact mpk_get h
def kpv (k : Nat) (K : Kp) : List Value := [.int .i64 k, .int .i64 K.objects, .int .i64 K.granules, .int .i64 K.slots, .int .i64 K.refs, .int .i64 K.nils]
theorem el_kept : Elem Tryz.prog 30 37 6 48 (.agg #[.int .i64 0, .int .i64 0, .int .i64 0, .int .i64 0, .int .i64 0, .int .i64 0]) := Elem.of Tryz.underlying30 (by kernel_rfl) rfl
theorem sz_kept : (Tryz.prog.info? 37).map (·.size) = some 6 := by kernel_rfl
theorem sorted_nats {ss : List Int} {ks : List Nat} (h : ss.Perm (ks.map fun (k : Nat) => (k : Int))) :
  ∃ sN : List Nat, sN.Perm ks ∧ sN.Pairwise (· ≤ ·) ∧ (ss.mergeSort (fun x y => decide (x ≤ y))).map encZ = nats sN ∧ ss.length = sN.length := by
 have hp := (List.mergeSort_perm ss (fun x y => decide (x ≤ y))).trans h
 have hs : (ss.mergeSort (fun x y => decide (x ≤ y))).Pairwise (fun a b => decide (a ≤ b) = true) := List.pairwise_mergeSort (fun a b c h1 h2 => by simp only [decide_eq_true_eq] at *; omega) (fun a b => by simp only [Bool.or_eq_true, decide_eq_true_eq]; omega) ss
 have hl := (List.length_mergeSort (le := fun x y => decide (x ≤ y)) ss)
 generalize ss.mergeSort (fun x y => decide (x ≤ y)) = ms at *
 have he : (ms.map Int.toNat).map (fun (k : Nat) => (k : Int)) = ms := by
  rw [List.map_map]
  conv => rhs; rw [← List.map_id ms]
  refine List.map_congr_left fun x hx => ?_
  obtain ⟨k, -, rfl⟩ := List.mem_map.1 (hp.mem_iff.1 hx)
  simp
 refine ⟨ms.map Int.toNat, ?_, ?_, ?_, by rw [List.length_map, hl]⟩
 · have h2 := hp.map Int.toNat
   rw [List.map_map] at h2
   have e : (ks.map (Int.toNat ∘ fun (k : Nat) => (k : Int))) = ks := by
    conv => rhs; rw [← List.map_id ks]
    exact List.map_congr_left fun x _ => by simp
   rw [e] at h2
   exact h2
 · refine List.pairwise_map.2 (hs.imp fun h => ?_)
   simp only [decide_eq_true_eq] at h
   omega
 · unfold nats
   conv => lhs; rw [← he]
   rw [List.map_map]
   rfl
theorem kpv_at {K : Nat → Kp} {ss : List Nat} {j k : Nat} (h : ss[j]? = some k) : (ss.take (j + 1)).flatMap (fun k => kpv k (K k)) = (ss.take j).flatMap (fun k => kpv k (K k)) ++ kpv k (K k) := by
 rw [take_nextA h, List.flatMap_append, List.flatMap_cons, List.flatMap_nil, List.append_nil]
set_option maxRecDepth 100000 in
set_option maxHeartbeats 3200000 in
theorem svalues (w : World) (b : Nat) (ob : Obj) (ks : List Nat) (bl : Nat → Nat) (K : Nat → Kp) (hb : w.heap[b]? = some ob) (hm : MapSt .i64 (mpk ks bl) ob) (hks : ks.length ≤ 65536) (hk9 : ∀ k ∈ ks, k ≤ 65536) (hr : ∀ k ∈ ks, w.rangeAt (bl k) 0 (kpv k (K k))) :
  Calls Tryz.prog 58 #[.map (some b)] w fun e w' => ∃ (ss : List Nat) (ao : Option Addr) (cap : Nat) (l : List Blk), ss.Perm ks ∧ ss.Pairwise (· ≤ ·) ∧ e = .returned (.slice ao ss.length cap) ∧ Row 37 6 ao ss.length cap (ss.flatMap fun k => kpv k (K k)) l ∧ Turn [] w l w' := by
 obtain ⟨D, hD, hDp, hDs⟩ := hm.owns (P := Tryz.prog) (kt := 3) hb Tryz.underlying3 (by
  intro p hp
  obtain ⟨k, hk, rfl⟩ := List.mem_map.1 hp
  have := hk9 k hk
  have e1 : IntKind.i64.min = -9223372036854775808 := rfl
  have e2 : IntKind.i64.max = 9223372036854775807 := rfl
  simp [Lit.wf]
  omega) (by unfold mpk maxLen; rw [List.length_map]; omega)
 have hml : (mpk ks bl).length = ks.length := by unfold mpk; rw [List.length_map]
 rw [hml] at hDs
 have hmk : (mpk ks bl).map (·.1) = ks.map fun (k : Nat) => (k : Int) := by unfold mpk; rw [List.map_map]; rfl
 rw [hmk] at hDp
 have hbl := hD.lt
 obtain ⟨c, hc⟩ : ∃ c, w.heap.size = c := ⟨_, rfl⟩
 have T1 : Turn [] w [(c, .cells #[.map (some b)] 131)] (w.alloc (.cells #[.map (some b)] 131)) := by rw [← hc]; exact (Turn.refl (Has.nil w)).alloc _
 have hS := Tryz.sortedOf b _ D _ _ (hD.alloc (.cells #[.map (some b)] 131)) (by unfold maxLen; omega) (by omega) c (by simp [hc]) (T1.cell1 0)
 have HS := uh hS
 have HDp := uh hDp
 have HT1 := uh T1
 have Hb := uh (fun w' (h : Below w.heap.size w w') => (h.block b hbl).trans hb)
 have Hr := uh (fun w' (h : Below w.heap.size w w') k hk => range_below (hr k hk) h)
 have Hg := uh (fun k hk => mpk_get (bl := bl) (k := k) (ks := ks) hk)
 have Hm := uh hm.obj
 have hz : ∀ w, (zeroValue 133).run Tryz.prog w = .ok (.pointer none) w := fun _ => by kernel_rfl
 have hsz := sz_kept
 clear hD hDp hDs T1 hS hb hr hk9 hm hml hmk
 go_enter Tryz.func58, Tryz.ntmps58
 go_wp2_with fail
 refine (Tryz.keysOf (some b) w).mono ?_
 rintro e w2 ⟨rfl, rfl⟩
 rw [hc]
 go_wp2_with fail
 refine HS.out.mono ?_
 rintro e w2 ⟨v, ssI, rfl, hp, hrow, -, hB⟩
 obtain ⟨a7, p7, l7, rfl, hr7, T2⟩ := Turn.of_owns HT1.out.has hB hrow
 obtain ⟨ss, hs1, hs2, hs3, hs4⟩ := sorted_nats (hp.trans HDp.out)
 rw [hs3, hs4] at hr7
 rw [hs4]
 have HT2 := uh (HT1.out.trans T2)
 have Hrow := uh hr7
 have Hp := uh hs1
 have Hpw := uh hs2
 have hsl : ss.length ≤ 65536 := by rw [hs1.length_eq]; exact hks
 clear HS HT1 HDp hp hrow hB T2 hs1 hs2 hs3 hs4 hr7 ssI
 go_wp2_with fail
 go_loopw [2, 9] (fun v2 v9 wr => ∃ (j : Nat) (a2 : Option Addr) (p2 : Nat) (lr : List Blk), j ≤ ss.length ∧ v9 = .int .i64 j ∧ v2 = .slice a2 j p2 ∧ Row 37 6 a2 j p2 ((ss.take j).flatMap fun k => kpv k (K k)) lr ∧ Turn [] w (lr ++ (l7 ++ [(c, .cells #[.map (some b)] 131)])) wr) (fun _ v9 _ => ss.length - (intOf v9).toNat)
 case atStart => exact ⟨0, none, 0, [], Nat.zero_le _, by go_num, rfl, Row.nil _ _, HT2.out⟩
 case round =>
  clear HT2
  obtain ⟨j, a2, p2, lr, hj, rfl, rfl, hr2, V⟩ := hrel
  by_cases hlt : j < ss.length
  · have hlt' : (j : Int) < (ss.length : Int) := by omega
    obtain ⟨k, hk⟩ : ∃ k, ss[j]? = some k := ⟨ss[j], List.getElem?_eq_getElem hlt⟩
    have hkk := Hp.out.mem_iff.1 (List.mem_of_getElem? hk)
    have hS7 := Hrow.out.src (V.has.perm (l' := l7 ++ (lr ++ [(c, .cells #[.map (some b)] 131)])) (perm_of fun c => by simp; omega))
    obtain ⟨b7, off7, rfl, hc7⟩ := hS7.form (by rw [nats_length]; omega)
    have q7 := hc7 j _ (nats_at hk)
    have HB := uh (Hb.out _ V.below)
    have HG := uh (Hg.out k hkk)
    have hrg := Hr.out _ V.below k hkk
    have HKp := uh (kpv_at (K := K) hk)
    have HV := uh V
    have Hr2 := uh hr2
    have h63 : j + 1 ≤ maxLen := by unfold maxLen; omega
    have hby : (j + 1) * 48 ≤ 140737488355328 := by omega
    unfold kpv at hrg
    clear V hk hkk hS7 hc7 hr2
    go_wp2_with (first
     | (show wpList _ _ _ (⟨_, Op.lookup 131 _ _ _, _, _, _, _⟩ :: _) _ _; refine wpList_mlookup_g (q := .i64) (by rfl) _ _ 131 false rfl 3 133 Tryz.underlying131 Tryz.underlying3 (.pointer none) (hz _) rfl HB.out Hm.out (k : Int) rfl ?_; rw [HG.out]; simp only [Option.getD_some])
     | (show wpList _ _ _ (⟨_, Op.load 37 _, _, _, _, _⟩ :: _) _ _; refine wpList_load_mid rfl 37 _ rfl (bl k) 0 rfl _ _ hrg Tryz.underlying37 rfl hsz ?_; clear hrg)
     | (at_builtin; have T6 := uh (HV.out.alloc (.cells (kpv k (K k)).toArray 37)); refine wpList_append_row rfl _ _ rfl el_kept rfl Hr2.out (R := (wr.heap.size, .cells (kpv k (K k)).toArray 37) :: (l7 ++ [(c, .cells #[.map (some b)] 131)])) (T6.out.perm (perm_of fun c => by simp; omega)).has rfl (news := kpv k (K k)) rfl (news_of (heap_alloc_new _ _)) (by simp [Value.oneCell', kpv]) h63 hby ?_; intro a9 p9 l9 w6 hr9 V9 hno; have HV9 := uh (((T6.out.perm (perm_of fun c => by simp; omega)).trans V9).perm (l2 := [(wr.heap.size, .cells (kpv k (K k)).toArray 37)] ++ (l9 ++ (l7 ++ [(c, .cells #[.map (some b)] 131)]))) (perm_of fun c => by simp; omega)); have Hr9 := uh hr9; clear V9 hr9 hno T6)
     | fail)
    go_roundw
    case rel =>
     refine ⟨j + 1, a9, p9, l9, by omega, by go_num, rfl, ?_, HV9.out.drop⟩
     rw [HKp.out]
     exact Hr9.out
    case measure => simp [intOf]; omega
  · obtain rfl : j = ss.length := by omega
    have hnl : ¬ ((ss.length : Nat) : Int) < (ss.length : Int) := by omega
    rw [List.take_length] at hr2
    have Hr2 := uh hr2
    have HV := uh V
    clear hr2 V
    go_wp2_with fail
    go_ret
    exact ⟨ss, Hp.out, Hpw.out, a2, p2, rfl, lr, Hr2.out, HV.out.sub (List.sublist_append_left lr _)⟩
end
section
open Go Go.RowKit Go.IntWalk
section
variable {P : Program} {w : World} {ops : Array Oper} {rest : List Oper} {o : Oper} {a : Act} {Q : Exit → Act → World → Prop} {q : IntKind} {mp : List (Int × Value)} {b : Nat} {ob : Obj}
theorem wpList_mupdate_st (hw : Region.wanted o (yielded ops a.tmps) = true) (m x v : Operand) (t : TypeId) (hop : o.op = Op.mapUpdate t m x v) (kt e : TypeId) (ht : P.underlying t = some (.map kt e)) (hk : P.underlying kt = some (.int q))
  (hm : a.eval m = .map (some b)) (hb : w.heap[b]? = some ob) (hmo : MapSt q mp ob) (k : Int) (hx : a.eval x = .int q k) (u : Value) (hv : a.eval v = u)
  (hK : ∀ o', MapSt q (mput mp k u) o' → wpList P ops Q rest (a.put o.dst undef) { w with heap := w.heap.setIfInBounds b o' }) : wpList P ops Q (o :: rest) a w := by
 refine wpList_wanted hw fun K' hK' => ?_
 obtain ⟨o', ho', hrun⟩ := run_mupdate_st hb hmo ht hk k u
 unfold Oper.wp
 simp only [execOp, hop, hm, hx, hv, hrun, Sem.run_bind, Result.andThen_ok, Sem.run_pure]
 exact hK' _ _ (hK o' ho')
end
theorem mput_new {m : List (Int × Value)} {k : Int} {v : Value} (h : ∀ p ∈ m, p.1 ≠ k) : mput m k v = m ++ [(k, v)] := by
 induction m with
 | nil => rfl
 | cons p m ih =>
  rw [mput, if_neg (fun e => h p (List.mem_cons_self ..) e.symm), ih fun p' hp => h p' (List.mem_cons_of_mem _ hp)]
  rfl
theorem mpk_none {bl : Nat → Nat} {k : Nat} : ∀ {ks : List Nat}, k ∉ ks → mget (mpk ks bl) (k : Int) = none
 | [], _ => rfl
 | j :: ks, h => by
  unfold mpk
  rw [List.map_cons, mget_cons, if_neg (fun e => by
   have e2 : (k : Int) = (j : Int) := e
   have : k = j := by omega
   exact h (this ▸ List.mem_cons_self ..))]
  exact mpk_none fun e => h (List.mem_cons_of_mem _ e)
def blk1 (bl : Nat → Nat) (t nb k : Nat) : Nat := if k = t then nb else bl k
theorem mpk_new {ks : List Nat} {bl : Nat → Nat} {t nb : Nat} (h : t ∉ ks) : mput (mpk ks bl) (t : Int) (.pointer (some ⟨nb, 0, none⟩)) = mpk (ks ++ [t]) (blk1 bl t nb) := by
 rw [mput_new (fun p hp e => by
  obtain ⟨k, hk, rfl⟩ := List.mem_map.1 hp
  simp only at e
  have : k = t := by omega
  exact h (this ▸ hk))]
 unfold mpk
 rw [List.map_append]
 congr 1
 · refine List.map_congr_left fun k hk => ?_
   unfold blk1
   have hne : k ≠ t := fun e => h (e ▸ hk)
   rw [if_neg hne]
 · unfold blk1
   simp
theorem ofType_same (pre : List Ce) (c : Ce) : ofType (pre ++ [c]) c.2.typ = ofType pre c.2.typ ++ [c] := by
 rw [ofType_append]
 congr 1
 unfold ofType
 simp
theorem ofType_other {pre : List Ce} {c : Ce} {k : Nat} (h : k ≠ c.2.typ) : ofType (pre ++ [c]) k = ofType pre k := by
 rw [ofType_append]
 unfold ofType
 have : (c.2.typ == k) = false := by rw [beq_eq_false_iff_ne]; exact fun e => h e.symm
 simp [this]
theorem c_eq {L : List Ty} {c : Ce} (h1 : 1 ≤ c.2.typ) : cSlots L c = (match L[c.2.typ - 1]? with | some t => t.slots c.2.len | none => 0) ∧ ∀ t, L[c.2.typ - 1]? = some t → tyAt L c.2.typ = t := by
 refine ⟨rfl, fun t ht => ?_⟩
 unfold tyAt getTy
 have e : ((c.2.typ : Int) - 1).toNat = c.2.typ - 1 := by omega
 rw [if_pos (by omega), e, ht]
 rfl
theorem c_all {L : List Ty} {W : List Nat} {c : Ce} (hs : stands L W c.1 c.2) (ht : c.2.tag = 1) : cSlots L c = oSlots L c ∧ cRefs L c = oRefs L c ∧ ∀ W', cNils L W' c = oNils L W' c := by
 obtain ⟨-, ⟨hm, hf⟩, -⟩ := hs
 obtain ⟨t, h1, -, -⟩ := hf ht
 have h2 : 1 ≤ c.2.typ := by
  rcases hm.2.2.2 with h | h
  · exact h.2.1
  · omega
 have h3 := (c_eq h2).2 t h1
 have h4 : cRefs L c = oRefs L c := by
  unfold cRefs oRefs
  rw [h1, h3]
 refine ⟨?_, h4, fun W' => ?_⟩
 · unfold cSlots oSlots
   rw [h1, h3]
 · unfold cNils oNils
   rw [h4]
   rfl
theorem kept_snoc {L : List Ty} {W : List Nat} {O : List Ce} {c : Ce} (hs : stands L W c.1 c.2) (ht : c.2.tag = 1) :
  keptOf L W (O ++ [c]) = ⟨(keptOf L W O).objects + 1, (keptOf L W O).granules + c.2.size, (keptOf L W O).slots + oSlots L c, (keptOf L W O).refs + (oRefs L c).length, (keptOf L W O).nils + oNils L W c⟩ := by
 obtain ⟨h1, h2, h3⟩ := c_all hs ht
 unfold keptOf
 rw [← h1, ← h2, ← h3 W]
 simp [cSize]
theorem sum_most {f : Ce → Nat} {O : List Ce} {m : Nat} (h : ∀ c ∈ O, f c ≤ m) : sumBy f O ≤ O.length * m := by
 induction O with
 | nil => simp
 | cons c O ih =>
  have h1 := h c (List.mem_cons_self ..)
  have h2 := ih fun d hd => h d (List.mem_cons_of_mem _ hd)
  rw [sumBy_cons, List.length_cons, Nat.succ_mul]
  omega
theorem kept_most {L : List Ty} {W : List Nat} {O : List Ce} (h : ∀ c ∈ O, stands L W c.1 c.2 ∧ c.2.tag = 1 ∧ ObIn L W c ∧ c.2.size ≤ 65536) (hO : O.length ≤ 32768) :
  (keptOf L W O).objects ≤ 32768 ∧ (keptOf L W O).granules ≤ 2147483648 ∧ (keptOf L W O).slots ≤ 2147483648 ∧ (keptOf L W O).refs ≤ 2147483648 ∧ (keptOf L W O).nils ≤ (keptOf L W O).refs := by
 have h1 : sumBy cSize O ≤ O.length * 65536 := sum_most fun c hc => (h c hc).2.2.2
 have h2 : sumBy (cSlots L) O ≤ O.length * 65536 := sum_most fun c hc => by
  rw [(c_all (h c hc).1 (h c hc).2.1).1]
  exact (obIn_refs (h c hc).2.2.1).2
 have h3 : sumBy (fun c => (cRefs L c).length) O ≤ O.length * 65536 := sum_most fun c hc => by
  show (cRefs L c).length ≤ _
  rw [(c_all (h c hc).1 (h c hc).2.1).2.1]
  exact (obIn_refs (h c hc).2.2.1).1
 have h4 : sumBy (cNils L W) O ≤ sumBy (fun c => (cRefs L c).length) O := sumBy_le fun c _ => cNils_le L W c
 unfold keptOf
 simp only
 refine ⟨hO, ?_, ?_, ?_, h4⟩ <;> omega
def kbs (L : List Ty) (W : List Nat) (pre : List Ce) (bl : Nat → Nat) (ks : List Nat) : List Blk := ks.map fun k => (bl k, .cells (kpv k (keptOf L W (ofType pre k))).toArray 37)
theorem kbs_append (L : List Ty) (W : List Nat) (pre : List Ce) (bl : Nat → Nat) (a b : List Nat) : kbs L W pre bl (a ++ b) = kbs L W pre bl a ++ kbs L W pre bl b := List.map_append
theorem kbs_cons (L : List Ty) (W : List Nat) (pre : List Ce) (bl : Nat → Nat) (k : Nat) (b : List Nat) : kbs L W pre bl (k :: b) = (bl k, .cells (kpv k (keptOf L W (ofType pre k))).toArray 37) :: kbs L W pre bl b := rfl
theorem kbs_other {L : List Ty} {W : List Nat} {pre : List Ce} {bl : Nat → Nat} {c : Ce} {ks : List Nat} (h : c.2.typ ∉ ks) : kbs L W (pre ++ [c]) bl ks = kbs L W pre bl ks :=
 List.map_congr_left fun k hk => by rw [ofType_other fun e => h (e ▸ hk)]
theorem kbs_new {L : List Ty} {W : List Nat} {pre : List Ce} {bl : Nat → Nat} {t nb : Nat} {ks : List Nat} (h : t ∉ ks) : kbs L W pre (blk1 bl t nb) ks = kbs L W pre bl ks :=
 List.map_congr_left fun k hk => by
  unfold blk1
  have hne : k ≠ t := fun e => h (e ▸ hk)
  rw [if_neg hne]
theorem kpv_snoc {L : List Ty} {W : List Nat} {pre : List Ce} {c : Ce} (hs : stands L W c.1 c.2) (ht : c.2.tag = 1) :
  kpc c.2.typ ((keptOf L W (ofType pre c.2.typ)).objects + 1) ((keptOf L W (ofType pre c.2.typ)).granules + c.2.size) ((keptOf L W (ofType pre c.2.typ)).slots + oSlots L c) ((keptOf L W (ofType pre c.2.typ)).refs + (oRefs L c).length) ((keptOf L W (ofType pre c.2.typ)).nils + oNils L W c) = (kpv c.2.typ (keptOf L W (ofType (pre ++ [c]) c.2.typ))).toArray := by
 rw [ofType_same, kept_snoc hs ht]
 rfl
theorem mpk_nd {ks : List Nat} {bl : Nat → Nat} (h : ((mpk ks bl).map (·.1)).Nodup) : ks.Nodup := by
 unfold mpk at h
 rw [List.map_map] at h
 exact h.of_map _ fun a b hab he => hab (by rw [he])
theorem kbs_pull {L : List Ty} {W : List Nat} {pre : List Ce} {bl : Nat → Nat} {ks : List Nat} {t : Nat} (hnd : ks.Nodup) (hk : t ∈ ks) :
  ∃ M, (kbs L W pre bl ks).Perm ((bl t, .cells (kpv t (keptOf L W (ofType pre t))).toArray 37) :: M) ∧ ∀ c, c.2.typ = t → (kbs L W (pre ++ [c]) bl ks).Perm ((bl t, .cells (kpv t (keptOf L W (ofType (pre ++ [c]) t))).toArray 37) :: M) := by
 obtain ⟨k1, k2, rfl⟩ := List.append_of_mem hk
 have h1 := List.perm_middle.nodup_iff.1 hnd
 rw [List.nodup_cons, List.mem_append, not_or] at h1
 refine ⟨kbs L W pre bl k1 ++ kbs L W pre bl k2, ?_, fun c hc => ?_⟩
 · rw [kbs_append, kbs_cons]
   exact List.perm_middle
 · rw [kbs_append, kbs_cons, kbs_other (by rw [hc]; exact h1.1.1), kbs_other (by rw [hc]; exact h1.1.2)]
   exact List.perm_middle
theorem kbs_more {L : List Ty} {W : List Nat} {pre : List Ce} {bl : Nat → Nat} {ks : List Nat} {c : Ce} {nb : Nat} (hk : c.2.typ ∉ ks) :
  (kbs L W (pre ++ [c]) (blk1 bl c.2.typ nb) (ks ++ [c.2.typ])).Perm ((nb, .cells (kpv c.2.typ (keptOf L W (ofType (pre ++ [c]) c.2.typ))).toArray 37) :: kbs L W pre bl ks) := by
 rw [kbs_append, kbs_cons, kbs_other hk, kbs_new hk]
 have e : blk1 bl c.2.typ nb c.2.typ = nb := by unfold blk1; rw [if_pos rfl]
 rw [e]
 exact List.perm_append_comm
theorem types_old {pre : List Ce} {c : Ce} {ks : List Nat} (h : ∀ k, k ∈ ks ↔ ∃ d ∈ pre, d.2.typ = k) (hk : c.2.typ ∈ ks) : ∀ k, k ∈ ks ↔ ∃ d ∈ pre ++ [c], d.2.typ = k := fun k => by
 rw [h k]
 constructor
 · rintro ⟨d, hd, h1⟩
   exact ⟨d, List.mem_append_left _ hd, h1⟩
 · rintro ⟨d, hd, h1⟩
   rcases List.mem_append.1 hd with h2 | h2
   · exact ⟨d, h2, h1⟩
   · obtain rfl : d = c := List.mem_singleton.1 h2
     rw [← h1]
     exact (h _).1 hk
theorem types_new {pre : List Ce} {c : Ce} {ks : List Nat} (h : ∀ k, k ∈ ks ↔ ∃ d ∈ pre, d.2.typ = k) : ∀ k, k ∈ ks ++ [c.2.typ] ↔ ∃ d ∈ pre ++ [c], d.2.typ = k := fun k => by
 rw [List.mem_append, h k]
 constructor
 · rintro (⟨d, hd, h1⟩ | h1)
   · exact ⟨d, List.mem_append_left _ hd, h1⟩
   · exact ⟨c, by simp, (List.mem_singleton.1 h1).symm⟩
 · rintro ⟨d, hd, h1⟩
   rcases List.mem_append.1 hd with h2 | h2
   · exact .inl ⟨d, h2, h1⟩
   · obtain rfl : d = c := List.mem_singleton.1 h2
     exact .inr (by rw [h1]; exact List.mem_singleton.2 rfl)
theorem ofType_none {pre : List Ce} {k : Nat} (h : ¬ ∃ d ∈ pre, d.2.typ = k) : ofType pre k = [] := by
 unfold ofType
 rw [List.filter_eq_nil_iff]
 intro d hd e
 exact h ⟨d, hd, by simpa using e⟩
theorem ofType_len (pre : List Ce) (k : Nat) : (ofType pre k).length ≤ pre.length := List.length_filter_le ..
theorem bigOf_snoc (l : List Ce) (c : Ce) : bigOf (l ++ [c]) = max (bigOf l) c.2.size := by
 induction l with
 | nil => show max c.2.size 0 = max 0 c.2.size; omega
 | cons d l ih =>
  show max d.2.size (bigOf (l ++ [c])) = max (max d.2.size (bigOf l)) c.2.size
  rw [ih]
  omega
def looseTo (K : Nat → Kp) (ss : List Nat) : Nat := (ss.map fun k => (K k).refs - (K k).nils).sum
theorem loose_next {K : Nat → Kp} {ss : List Nat} {j k : Nat} (h : ss[j]? = some k) : looseTo K (ss.take (j + 1)) = looseTo K (ss.take j) + ((K k).refs - (K k).nils) := by
 rw [take_nextA h]
 unfold looseTo
 simp
theorem loose_most {K : Nat → Kp} {ss : List Nat} {m : Nat} (h : ∀ k ∈ ss, (K k).refs ≤ m) : looseTo K ss ≤ ss.length * m := by
 induction ss with
 | nil => simp [looseTo]
 | cons c O ih =>
  have h1 := h c (List.mem_cons_self ..)
  have h2 := ih fun d hd => h d (List.mem_cons_of_mem _ hd)
  have h3 : looseTo K (c :: O) = (K c).refs - (K c).nils + looseTo K O := by simp [looseTo]
  rw [h3, List.length_cons, Nat.succ_mul]
  omega
theorem loose_take (K : Nat → Kp) (ss : List Nat) (j : Nat) : looseTo K (ss.take j) ≤ looseTo K ss := by
 conv => rhs; rw [← List.take_append_drop j ss]
 unfold looseTo
 rw [List.map_append, List.sum_append]
 exact Nat.le_add_right ..
theorem results_two {P : Program} {fn : Func} {p q : Tmp} {ty : TypeId} (h : fn.results = #[.cell p ty, .tmp q]) (tmps : Array Value) (w : World) (b : Nat) (cs : List Value) (d : TypeDesc)
  (hp : tmps.getD p undef = .pointer (some ⟨b, 0, none⟩)) (hc : w.rangeAt b 0 cs) (hu : P.underlying ty = some d) (hd : d.isRow = true) (hi : (P.info? ty).map (·.size) = some cs.length) :
  (results fn tmps).run P w = .ok (.tuple #[.agg cs.toArray, tmps.getD q undef]) w := by
 have hp' : tmps[p]?.getD undef = .pointer (some ⟨b, 0, none⟩) := by simpa using hp
 simp [results, h, hp', asAddr, run_loadVar_mid w b 0 ty cs d hc hu hd hi]
theorem kps_get {K : Nat → Kp} {ss : List Nat} {i k : Nat} (hi : ss[i]? = some k) {j : Nat} (hj : j < 6) : (ss.flatMap fun k => kpv k (K k))[i * 6 + j]? = (kpv k (K k))[j]? := by
 induction ss generalizing i with
 | nil => cases hi
 | cons a l ih =>
  rw [List.flatMap_cons]
  cases i with
  | zero =>
   have : a = k := by simpa using hi
   subst this
   rw [Nat.zero_mul, Nat.zero_add, List.getElem?_append_left (by exact hj)]
  | succ i =>
   rw [show (i + 1) * 6 + j = 6 + (i * 6 + j) by omega, List.getElem?_append_right (by show 6 ≤ _; omega)]
   rw [show 6 + (i * 6 + j) - (kpv a (K a)).length = i * 6 + j from Nat.add_sub_cancel_left ..]
   exact ih (by simpa using hi)
theorem Src.kp {w : World} {b off n cap : Nat} {K : Nat → Kp} {ss : List Nat} (h : Src w (some ⟨b, off, none⟩) n cap 6 (ss.flatMap fun k => kpv k (K k))) {i k : Nat} (hi : ss[i]? = some k) : w.rangeAt b (off + i * 6) (kpv k (K k)) := by
 intro j v hv
 have hj : j < 6 := (List.getElem?_eq_some_iff.1 hv).1
 have h1 := h.at_ _ rfl (i * 6 + j) v (by rw [kps_get hi hj]; exact hv)
 rw [add_lit] at h1
 rw [Nat.add_assoc]
 exact h1
theorem kps_length {K : Nat → Kp} (ss : List Nat) : (ss.flatMap fun k => kpv k (K k)).length = ss.length * 6 := by
 induction ss with
 | nil => rfl
 | cons a l ih =>
  rw [List.flatMap_cons, List.length_append, ih, List.length_cons]
  simp [kpv]
  omega
theorem kp_one (k : Nat) (x : Kp) : (#[.int .i64 k, .int .i64 x.objects, .int .i64 x.granules, .int .i64 x.slots, .int .i64 x.refs, .int .i64 x.nils] : Array Value).all (·.oneCell') = true := all_one (cs := kpv k x) (by simp [Value.oneCell', kpv])
end
section
open Go Go.RowKit Go.IntWalk
def stVal (ao : Option Addr) (cap : Nat) (ss : List Nat) (L : List Ty) (W : List Nat) (cs : List Ce) : Value :=
 .agg #[.slice ao ss.length cap, .int .i64 (gaps cs).length, .int .i64 (freeOf cs), .int .i64 (bigOf (gaps cs)), .int .i64 (brokenOf (freeOf cs) (bigOf (gaps cs))), .int .i64 (edgesOf L W cs), .int .i64 ((looseTo (fun k => keptOf L W (ofType (objs cs) k)) ss : Int) - (edgesOf L W cs : Int))]
def StP (w : World) (L : List Ty) (W : List Nat) (cs : List Ce) (e : Ending) (w' : World) : Prop :=
 ∃ (ss : List Nat) (ao : Option Addr) (cap : Nat) (l : List Blk), e = .returned (.tuple #[stVal ao cap ss L W cs, .int .i64 0]) ∧ ss.Pairwise (· ≤ ·) ∧ ss.Nodup ∧ (∀ k, k ∈ ss ↔ ∃ d ∈ objs cs, d.2.typ = k) ∧
  Row 37 6 ao ss.length cap (ss.flatMap fun k => kpv k (keptOf L W (ofType (objs cs) k))) l ∧ Turn [] w l w'
theorem sz_stats : (Tryz.prog.info? 32).map (·.size) = some 7 := by kernel_rfl
set_option maxRecDepth 100000 in
set_option maxHeartbeats 12800000 in
theorem sstats (w : World) (sb a aw tb : Nat) {W : List Nat} (tao : Option Addr) (tcap : Nat) (L : List Ty) (hA : SpAt w sb a aw tb W tao tcap L) (hf : W.length ≤ 65536) (hu : ∀ v ∈ W, v < 18446744073709551616) (hTy : ∀ t ∈ L, TyIn t) (hL : L.length ≤ 1000)
  (cs : List Ce) (hC : Chain L W 0 cs (W.length / 2)) :
  Calls Tryz.prog 11 #[.pointer (some ⟨sb, 0, none⟩)] w (StP w L W cs) := by
 have HO := uh (fun w' (hB : Below w.heap.size w w') => wobjects w' sb a aw tb tao tcap L (hA.below hB) hf hu hTy hL cs hC)
 have HC := uh (fun w' (hB : Below w.heap.size w w') => scells_all w' sb a aw tb tao tcap L (hA.below hB) hf hu hTy hL cs hC)
 have HE := uh (fun w' (hB : Below w.heap.size w w') => wedges w' sb a aw tb tao tcap L (hA.below hB) hf hu hTy hL cs hC)
 have hlen := hC.len
 have hcl : cs.length ≤ 32768 := by omega
 have hol : (objs cs).length ≤ 32768 := by
  have : (objs cs).length ≤ cs.length := by unfold objs; exact List.length_filter_le ..
  omega
 have hst : ∀ c ∈ objs cs, stands L W c.1 c.2 ∧ c.2.tag = 1 ∧ ObIn L W c ∧ c.2.size ≤ 65536 := fun c hc => by
  obtain ⟨h1, h2⟩ := objs_mem hc
  have hm := hC.mem c h1
  exact ⟨hm.2.2, h2, obIn_of hC hf hTy hc, by have := hm.2.2.2.2; omega⟩
 have hgl : sumBy cSize (gaps cs) ≤ 32768 := by
  have h1 := hC.sum
  have h2 := sum_cells cs cSize
  omega
 have hel : edgesOf L W cs ≤ 2147483648 := by
  have h1 := eds_len (L := L) (W := W) (A := ats cs) (os := objs cs) (fun c hc => (obIn_refs (hst c hc).2.2.1).1)
  have h2 := filter_le (eds L W (ats cs) (objs cs))
  unfold edgesOf
  omega
 have Hso := uh (fun (c : Ce) (hc : c ∈ objs cs) (w' : World) (kb t o g s r n : Nat) (ho : o ≤ 1099511627776) (hg : g ≤ 1099511627776) (hs : s ≤ 1099511627776) (hr : r ≤ 1099511627776) (hn : n ≤ 1099511627776) (R : List Blk) (T : Turn [] w ((kb, .cells (kpc t o g s r n) 37) :: R) w') =>
  sobject w' sb a aw tb tao tcap L hA hu hTy hL c (hst c hc).2.2.1 (hst c hc).2.2.2 kb t o g s r n ho hg hs hr hn T)
 have Hst := uh hst
 have Hcs := uh (fun j (c : Ce) (hc : cs[j]? = some c) => show c.2.size ≤ 65536 from by have := (hC.mem c (List.mem_of_getElem? hc)).2.2.2.2; omega)
 have Hgl := uh (fun i => show (gaps (cs.take i)).length ≤ 32768 ∧ sumBy cSize (gaps (cs.take i)) ≤ 32768 ∧ bigOf (gaps (cs.take i)) ≤ sumBy cSize (gaps (cs.take i)) from by
  have h1 : gaps cs = gaps (cs.take i) ++ gaps (cs.drop i) := by rw [← gaps_append, List.take_append_drop]
  have h2 : (gaps cs).length ≤ cs.length := by unfold gaps; exact List.length_filter_le ..
  have h3 := congrArg List.length h1
  rw [List.length_append] at h3
  have h4 := congrArg (sumBy cSize) h1
  rw [sumBy_append] at h4
  exact ⟨by omega, by omega, bigOf_le _⟩)
 have Hkm := uh (fun k => kept_most (L := L) (W := W) (O := ofType (objs cs) k) (fun d hd => hst d (ofType_mem hd).1) (by have := ofType_len (objs cs) k; omega))
 have Hlo := uh (fun (ss : List Nat) (hs : ss.length ≤ 32768) (_hm : ∀ k, k ∈ ss ↔ ∃ d ∈ objs cs, d.2.typ = k) j => show looseTo (fun k => keptOf L W (ofType (objs cs) k)) (ss.take j) ≤ 70368744177664 from by
  have h1 := loose_take (fun k => keptOf L W (ofType (objs cs) k)) ss j
  have h2 := loose_most (K := fun k => keptOf L W (ofType (objs cs) k)) (ss := ss) (m := 2147483648) (fun k _ => (Hkm.out k).2.2.2.1)
  omega)
 have Htag := uh (fun j c (hc : cs[j]? = some c) => hC.tags (List.mem_of_getElem? hc))
 have hsz := sz_cell
 have hsk := sz_kept
 have hss := sz_stats
 have hz : ∀ w, (zeroValue 133).run Tryz.prog w = .ok (.pointer none) w := fun _ => by kernel_rfl
 have hmm := @run_makeMap Tryz.prog
 obtain ⟨n2, hn2⟩ : ∃ n2, w.heap.size = n2 := ⟨_, rfl⟩
 have T0 := ((Turn.refl (Has.nil w)).alloc (.cells #[.slice none 0 0, .int .i64 0, .int .i64 0, .int .i64 0, .int .i64 0, .int .i64 0, .int .i64 0] 32)).alloc (.map #[] 0)
 simp only [World.size_alloc, hn2] at T0
 have HT0 := uh T0
 generalize hos : objs cs = os at *
 have Hos := uh hos
 clear hos
 clear hA hC hu hTy hlen hst T0
 go_enter Tryz.func11, Tryz.ntmps11
 go_wp2_with fail
 refine (HO.out _ HT0.out.below).mono ?_
 rintro e w2 ⟨a16, p16, l16, rfl, hrow, T2⟩
 have HT2 := uh ((HT0.out.grow T2).perm (l2 := (n2 + 1, .map #[] 0) :: ([] ++ (l16 ++ [(n2, .cells #[.slice none 0 0, .int .i64 0, .int .i64 0, .int .i64 0, .int .i64 0, .int .i64 0, .int .i64 0] 32)]))) (perm_of fun c => by simp <;> omega))
 have Hrow := uh hrow
 clear hrow T2 HT0 HO
 generalize n2 + 1 = n4 at *
 clear hmm
 have Hn2 := uh hn2
 clear hn2
 go_wp2_with fail
 go_loopw [18] (fun v18 wr => ∃ (i : Nat) (ks : List Nat) (bl : Nat → Nat) (ob : Obj), i ≤ os.length ∧ v18 = .int .i64 i ∧ MapSt .i64 (mpk ks bl) ob ∧ (∀ k, k ∈ ks ↔ ∃ d ∈ os.take i, d.2.typ = k) ∧ ks.length ≤ i ∧ Turn [] w ((n4, ob) :: (kbs L W (os.take i) bl ks ++ (l16 ++ [(n2, .cells #[.slice none 0 0, .int .i64 0, .int .i64 0, .int .i64 0, .int .i64 0, .int .i64 0, .int .i64 0] 32)]))) wr) (fun v18 _ => os.length - (intOf v18).toNat)
 case atStart => exact ⟨0, [], fun _ => 0, .map #[] 0, Nat.zero_le _, by go_num, MapSt.new _, by simp, Nat.le_refl _, HT2.out⟩
 case round =>
  clear HT2
  obtain ⟨i, ks, bl, ob, hi, rfl, hmo, hks, hkl, V⟩ := hrel
  by_cases hlt : i < os.length
  · have hlt' : (i : Int) < (os.length : Int) := by omega
    obtain ⟨c, hc⟩ : ∃ c, os[i]? = some c := ⟨os[i], List.getElem?_eq_getElem hlt⟩
    have hcm := List.mem_of_getElem? hc
    have hS8 := Hrow.out.src (V.has.perm (l' := l16 ++ ((n4, ob) :: (kbs L W (os.take i) bl ks ++ [(n2, .cells #[.slice none 0 0, .int .i64 0, .int .i64 0, .int .i64 0, .int .i64 0, .int .i64 0, .int .i64 0] 32)]))) (perm_of fun c => by simp; omega))
    obtain ⟨b, off, rfl, -⟩ := hS8.form (by rw [ces_length]; omega)
    have hrg : wr.rangeAt b (off + i * 5) [.int .i64 c.1, .int .u8 c.2.tag, .int .i64 c.2.typ, .int .i64 c.2.len, .int .i64 c.2.size] := hS8.ce hc
    have T3 := V.alloc (.cells #[.int .i64 0, .int .u8 0, .int .i64 0, .int .i64 0, .int .i64 0] 81)
    have hth : (wr.alloc (.cells #[.int .i64 0, .int .u8 0, .int .i64 0, .int .i64 0, .int .i64 0] 81)).there wr.heap.size 0 5 := T3.there1
    have HT3 := uh (T3.laid [.int .i64 c.1, .int .u8 c.2.tag, .int .i64 c.2.typ, .int .i64 c.2.len, .int .i64 c.2.size] rfl)
    have hoC := ce_one c
    have Hmo := uh hmo
    have Hks := uh hks
    have Htk := uh (take_nextA hc)
    have Hc := uh (Hst.out c hcm)
    have Hmost := uh (kept_most (L := L) (W := W) (O := ofType (os.take i) c.2.typ) (fun d hd => Hst.out d (List.mem_of_mem_take (ofType_mem hd).1)) (by have := ofType_len (os.take i) c.2.typ; rw [List.length_take] at this; omega))
    have HS := uh (Hso.out c hcm)
    clear T3 V hc hS8 hcm hmo
    generalize os.take i = pre at *
    by_cases hk : c.2.typ ∈ ks
    · have HG := uh (mpk_get (bl := bl) hk)
      obtain ⟨M, hM1, hM2⟩ := kbs_pull (L := L) (W := W) (pre := pre) (bl := bl) (mpk_nd Hmo.out.keys) hk
      have HM1 := uh hM1
      have HM2 := uh (hM2 c rfl)
      have Hk := uh hk
      clear hk hM1 hM2 hks
      go_wp2_with (first
       | (show wpList _ _ _ (⟨_, Op.load 81 _, _, _, _, _⟩ :: _) _ _; refine wpList_load_mid rfl 81 _ rfl b (off + i * 5) rfl [.int .i64 c.1, .int .u8 c.2.tag, .int .i64 c.2.typ, .int .i64 c.2.len, .int .i64 c.2.size] _ hrg Tryz.underlying81 rfl hsz ?_; clear hrg)
       | (show wpList _ _ _ (⟨_, Op.store 81 _ _, _, _, _, _⟩ :: _) _ _; refine wpList_store_mid rfl 81 _ _ rfl wr.heap.size 0 #[.int .i64 c.1, .int .u8 c.2.tag, .int .i64 c.2.typ, .int .i64 c.2.len, .int .i64 c.2.size] rfl rfl hth hsz hoC ?_; clear hth; generalize (wr.alloc (.cells #[.int .i64 0, .int .u8 0, .int .i64 0, .int .i64 0, .int .i64 0] 81)).setCells wr.heap.size 0 [.int .i64 c.1, .int .u8 c.2.tag, .int .i64 c.2.typ, .int .i64 c.2.len, .int .i64 c.2.size] = w3 at *; generalize wr.heap.size = nb at *; have q2 := HT3.out.cell1 2; have hr6 := HT3.out.range1; have q9 := HT3.out.has.own n4 ob (by simp))
       | (show wpList _ _ _ (⟨_, Op.lookup 131 _ _ _, _, _, _, _⟩ :: _) _ _; refine wpList_mlookup_g (q := .i64) (by rfl) _ _ 131 false rfl 3 133 Tryz.underlying131 Tryz.underlying3 (.pointer none) (hz _) rfl (q9) Hmo.out.obj (c.2.typ : Int) rfl ?_; rw [HG.out]; simp only [Option.getD_some])
       | (show wpList _ _ _ (⟨_, Op.load 81 _, _, _, _, _⟩ :: _) _ _; refine wpList_load_mid rfl 81 _ rfl nb 0 rfl [.int .i64 c.1, .int .u8 c.2.tag, .int .i64 c.2.typ, .int .i64 c.2.len, .int .i64 c.2.size] _ hr6 Tryz.underlying81 rfl hsz ?_; clear hr6)
       | fail)
      have T4 : Turn [] w ((bl c.2.typ, .cells (kpv c.2.typ (keptOf L W (ofType pre c.2.typ))).toArray 37) :: ((nb, .cells #[.int .i64 c.1, .int .u8 c.2.tag, .int .i64 c.2.typ, .int .i64 c.2.len, .int .i64 c.2.size] 81) :: (n4, ob) :: (M ++ (l16 ++ [(n2, .cells #[.slice none 0 0, .int .i64 0, .int .i64 0, .int .i64 0, .int .i64 0, .int .i64 0, .int .i64 0] 32)])))) w3 := HT3.out.perm ((((HM1.out.append_right _).cons _).cons _).trans (perm_of fun c => by simp; omega))
      obtain ⟨hm1, hm2, hm3, hm4, hm5⟩ := Hmost.out
      refine (HS.out w3 (bl c.2.typ) c.2.typ _ _ _ _ _ (by omega) (by omega) (by omega) (by omega) (by omega) _ T4).mono ?_
      rintro e w5 ⟨⟨u, rfl⟩, T5⟩
      rw [kpv_snoc Hc.out.1 Hc.out.2.1] at T5
      have HT5 := uh T5
      clear T4 T5 hm1 hm2 hm3 hm4 hm5
      go_wp2_with fail
      go_roundw
      case rel =>
       refine ⟨i + 1, ks, bl, ob, by omega, by go_num, Hmo.out, by rw [Htk.out]; exact types_old Hks.out Hk.out, by omega, ?_⟩
       rw [Htk.out]
       exact ((HT5.out.perm (l2 := (nb, .cells #[.int .i64 c.1, .int .u8 c.2.tag, .int .i64 c.2.typ, .int .i64 c.2.len, .int .i64 c.2.size] 81) :: (n4, ob) :: (((bl c.2.typ, .cells (kpv c.2.typ (keptOf L W (ofType (pre ++ [c]) c.2.typ))).toArray 37) :: M) ++ (l16 ++ [(n2, .cells #[.slice none 0 0, .int .i64 0, .int .i64 0, .int .i64 0, .int .i64 0, .int .i64 0, .int .i64 0] 32)]))) (perm_of fun c => by simp; omega)).perm (((HM2.out.symm.append_right _).cons _).cons _)).tail
      case measure => simp [intOf]; omega
    · have HG := uh (mpk_none (bl := bl) hk)
      have Hk := uh hk
      have h0 : ofType pre c.2.typ = [] := ofType_none fun h => hk ((hks _).2 h)
      have H0 := uh h0
      clear hk hks h0
      go_wp2_with (first
       | (show wpList _ _ _ (⟨_, Op.load 81 _, _, _, _, _⟩ :: _) _ _; refine wpList_load_mid rfl 81 _ rfl b (off + i * 5) rfl [.int .i64 c.1, .int .u8 c.2.tag, .int .i64 c.2.typ, .int .i64 c.2.len, .int .i64 c.2.size] _ hrg Tryz.underlying81 rfl hsz ?_; clear hrg)
       | (show wpList _ _ _ (⟨_, Op.store 81 _ _, _, _, _, _⟩ :: _) _ _; refine wpList_store_mid rfl 81 _ _ rfl wr.heap.size 0 #[.int .i64 c.1, .int .u8 c.2.tag, .int .i64 c.2.typ, .int .i64 c.2.len, .int .i64 c.2.size] rfl rfl hth hsz hoC ?_; clear hth; generalize (wr.alloc (.cells #[.int .i64 0, .int .u8 0, .int .i64 0, .int .i64 0, .int .i64 0] 81)).setCells wr.heap.size 0 [.int .i64 c.1, .int .u8 c.2.tag, .int .i64 c.2.typ, .int .i64 c.2.len, .int .i64 c.2.size] = w3 at *; generalize wr.heap.size = nb at *; have q2 := HT3.out.cell1 2; have hr6 := HT3.out.range1; have q9 := HT3.out.has.own n4 ob (by simp))
       | (show wpList _ _ _ (⟨_, Op.lookup 131 _ _ _, _, _, _, _⟩ :: _) _ _; refine wpList_mlookup_g (q := .i64) (by rfl) _ _ 131 false rfl 3 133 Tryz.underlying131 Tryz.underlying3 (.pointer none) (hz _) rfl (q9) Hmo.out.obj (c.2.typ : Int) rfl ?_; rw [HG.out]; simp only [Option.getD_none])
       | (show wpList _ _ _ (⟨_, Op.load 81 _, _, _, _, _⟩ :: _) _ _; refine wpList_load_mid rfl 81 _ rfl nb 0 rfl [.int .i64 c.1, .int .u8 c.2.tag, .int .i64 c.2.typ, .int .i64 c.2.len, .int .i64 c.2.size] _ hr6 Tryz.underlying81 rfl hsz ?_; clear hr6)
       | (show wpList _ _ _ (⟨_, Op.mapUpdate 131 _ _ _, _, _, _, _⟩ :: _) _ _; refine wpList_mupdate_st (q := .i64) (by rfl) _ _ _ 131 rfl 3 133 Tryz.underlying131 Tryz.underlying3 rfl ((HT3.out.alloc (.cells #[.int .i64 0, .int .i64 0, .int .i64 0, .int .i64 0, .int .i64 0, .int .i64 0] 37)).has.own n4 ob (by simp)) Hmo.out (c.2.typ : Int) rfl (.pointer (some ⟨w3.heap.size, 0, none⟩)) rfl ?_; intro ob2 hob2; rw [mpk_new Hk.out] at hob2; have HT7 := uh (((HT3.out.alloc (.cells #[.int .i64 0, .int .i64 0, .int .i64 0, .int .i64 0, .int .i64 0, .int .i64 0] 37)).perm (l2 := (n4, ob) :: (w3.heap.size, .cells #[.int .i64 0, .int .i64 0, .int .i64 0, .int .i64 0, .int .i64 0, .int .i64 0] 37) :: (nb, .cells #[.int .i64 c.1, .int .u8 c.2.tag, .int .i64 c.2.typ, .int .i64 c.2.len, .int .i64 c.2.size] 81) :: (kbs L W pre bl ks ++ (l16 ++ [(n2, .cells #[.slice none 0 0, .int .i64 0, .int .i64 0, .int .i64 0, .int .i64 0, .int .i64 0, .int .i64 0] 32)]))) (perm_of fun c => by simp; omega)).setBlk ob2); generalize ({ (w3.alloc (.cells #[.int .i64 0, .int .i64 0, .int .i64 0, .int .i64 0, .int .i64 0, .int .i64 0] 37)) with heap := (w3.alloc (.cells #[.int .i64 0, .int .i64 0, .int .i64 0, .int .i64 0, .int .i64 0, .int .i64 0] 37)).heap.setIfInBounds n4 ob2 } : World) = w7 at *; generalize w3.heap.size = n6 at *; have Hob2 := uh hob2; have HG2 := uh (show mget (mpk (ks ++ [c.2.typ]) (blk1 bl c.2.typ n6)) (c.2.typ : Int) = some (.pointer (some ⟨n6, 0, none⟩)) by rw [mpk_get (by simp)]; unfold blk1; rw [if_pos rfl]); clear hob2; have q2 := HT7.out.has.cell (b := nb) (c := #[.int .i64 c.1, .int .u8 c.2.tag, .int .i64 c.2.typ, .int .i64 c.2.len, .int .i64 c.2.size]) (e := 81) (f := (0, 0)) (by simp) 2; have hr7 := HT7.out.has.range (b := nb) (c := #[.int .i64 c.1, .int .u8 c.2.tag, .int .i64 c.2.typ, .int .i64 c.2.len, .int .i64 c.2.size]) (e := 81) (f := (0, 0)) (by simp); have q9b := HT7.out.has.own n4 ob2 (by simp))
       | (show wpList _ _ _ (⟨_, Op.lookup 131 _ _ _, _, _, _, _⟩ :: _) _ _; refine wpList_mlookup_g (q := .i64) (by rfl) _ _ 131 false rfl 3 133 Tryz.underlying131 Tryz.underlying3 (.pointer none) (hz _) rfl (q9b) Hob2.out.obj (c.2.typ : Int) rfl ?_; rw [HG2.out]; simp only [Option.getD_some])
       | (show wpList _ _ _ (⟨_, Op.load 81 _, _, _, _, _⟩ :: _) _ _; refine wpList_load_mid rfl 81 _ rfl nb 0 rfl [.int .i64 c.1, .int .u8 c.2.tag, .int .i64 c.2.typ, .int .i64 c.2.len, .int .i64 c.2.size] _ hr7 Tryz.underlying81 rfl hsz ?_; clear hr7)
       | fail)
      have T4a : Turn [] w ((n6, .cells #[.int .i64 0, .int .i64 0, .int .i64 0, .int .i64 0, .int .i64 0, .int .i64 0] 37) :: ((nb, .cells #[.int .i64 c.1, .int .u8 c.2.tag, .int .i64 c.2.typ, .int .i64 c.2.len, .int .i64 c.2.size] 81) :: (n4, ob2) :: (kbs L W pre bl ks ++ (l16 ++ [(n2, .cells #[.slice none 0 0, .int .i64 0, .int .i64 0, .int .i64 0, .int .i64 0, .int .i64 0, .int .i64 0] 32)])))) w7 := HT7.out.perm (l2 := (n6, .cells #[.int .i64 0, .int .i64 0, .int .i64 0, .int .i64 0, .int .i64 0, .int .i64 0] 37) :: ((nb, .cells #[.int .i64 c.1, .int .u8 c.2.tag, .int .i64 c.2.typ, .int .i64 c.2.len, .int .i64 c.2.size] 81) :: (n4, ob2) :: (kbs L W pre bl ks ++ (l16 ++ [(n2, .cells #[.slice none 0 0, .int .i64 0, .int .i64 0, .int .i64 0, .int .i64 0, .int .i64 0, .int .i64 0] 32)])))) (perm_of fun c => by simp; omega)
      have T4 : Turn [] w ((n6, .cells (kpc 0 0 0 0 0 0) 37) :: ((nb, .cells #[.int .i64 c.1, .int .u8 c.2.tag, .int .i64 c.2.typ, .int .i64 c.2.len, .int .i64 c.2.size] 81) :: (n4, ob2) :: (kbs L W pre bl ks ++ (l16 ++ [(n2, .cells #[.slice none 0 0, .int .i64 0, .int .i64 0, .int .i64 0, .int .i64 0, .int .i64 0, .int .i64 0] 32)])))) w7 := T4a
      refine (HS.out w7 n6 0 0 0 0 0 0 (by omega) (by omega) (by omega) (by omega) (by omega) _ T4).mono ?_
      rintro e w5 ⟨⟨u, rfl⟩, T5⟩
      have e9 := kpv_snoc (L := L) (W := W) (pre := pre) Hc.out.1 Hc.out.2.1
      rw [H0.out] at e9
      have HT5 : Hid (Turn [] w ((n6, .cells (kpv c.2.typ (keptOf L W (ofType (pre ++ [c]) c.2.typ))).toArray 37) :: ((nb, .cells #[.int .i64 c.1, .int .u8 c.2.tag, .int .i64 c.2.typ, .int .i64 c.2.len, .int .i64 c.2.size] 81) :: (n4, ob2) :: (kbs L W pre bl ks ++ (l16 ++ [(n2, .cells #[.slice none 0 0, .int .i64 0, .int .i64 0, .int .i64 0, .int .i64 0, .int .i64 0, .int .i64 0] 32)])))) w5) := uh (by rw [← e9]; exact T5)
      clear T4 T4a T5 e9
      go_wp2_with fail
      go_roundw
      case rel =>
       refine ⟨i + 1, ks ++ [c.2.typ], blk1 bl c.2.typ n6, ob2, by omega, by go_num, Hob2.out, by rw [Htk.out]; exact types_new Hks.out, by simp; omega, ?_⟩
       rw [Htk.out]
       exact ((HT5.out.perm (l2 := (nb, .cells #[.int .i64 c.1, .int .u8 c.2.tag, .int .i64 c.2.typ, .int .i64 c.2.len, .int .i64 c.2.size] 81) :: (n4, ob2) :: (((n6, .cells (kpv c.2.typ (keptOf L W (ofType (pre ++ [c]) c.2.typ))).toArray 37) :: kbs L W pre bl ks) ++ (l16 ++ [(n2, .cells #[.slice none 0 0, .int .i64 0, .int .i64 0, .int .i64 0, .int .i64 0, .int .i64 0, .int .i64 0] 32)]))) (perm_of fun c => by simp; omega)).perm ((((kbs_more Hk.out).symm.append_right _).cons _).cons _)).tail
      case measure => simp [intOf]; omega
  · obtain rfl : i = os.length := by omega
    have hnl : ¬ ((os.length : Nat) : Int) < (os.length : Int) := by omega
    rw [List.take_length] at V hks
    have HV := uh V
    have Hks := uh hks
    have Hmo := uh hmo
    have HSv := uh (svalues wr n4 ob ks bl (fun k => keptOf L W (ofType os k)) (V.has.own n4 ob (by simp)) hmo (by omega) (fun k hk => by
     obtain ⟨d, hd, rfl⟩ := (hks k).1 hk
     obtain ⟨-, ⟨hm, -⟩, -⟩ := (Hst.out d hd).1
     have := hm.2.2.2
     omega) (fun k hk => V.has.range (b := bl k) (c := (kpv k (keptOf L W (ofType os k))).toArray) (e := 37) (f := (0, 0)) (List.mem_cons_of_mem _ (List.mem_append_left _ (List.mem_map.2 ⟨k, hk, rfl⟩)))))
    have Hnd := uh (mpk_nd hmo.keys)
    clear V hks hmo Hmo
    go_wp2_with fail
    refine HSv.out.mono ?_
    rintro e w8 ⟨ss, a8, p8, l8, hp, hpw, rfl, hr8, T8⟩
    have HT8 := uh (((HV.out.grow T8).perm (l2 := (n2, .cells #[.slice none 0 0, .int .i64 0, .int .i64 0, .int .i64 0, .int .i64 0, .int .i64 0, .int .i64 0] 32) :: (l8 ++ ((n4, ob) :: (kbs L W os bl ks ++ l16)))) (perm_of fun c => by simp; omega)).sub (l2 := (n2, .cells #[.slice none 0 0, .int .i64 0, .int .i64 0, .int .i64 0, .int .i64 0, .int .i64 0, .int .i64 0] 32) :: l8) ((List.sublist_append_left ..).cons_cons _))
    have Hp := uh hpw
    have Hn := uh (hp.nodup_iff.2 Hnd.out)
    have Hm := uh (fun k => (hp.mem_iff (a := k)).trans (Hks.out k))
    have hsl : ss.length ≤ 32768 := by rw [hp.length_eq]; omega
    have Hr8 := uh hr8
    clear T8 hp hpw hr8 Hnd HSv HV Hks Hrow hkl
    have k0 := HT8.out.cell1 0
    have f0 := HT8.out.free1 0
    go_wp2_with fail
    have HT9 : Hid (Turn [] w ((n2, .cells #[.slice a8 ss.length p8, .int .i64 0, .int .i64 0, .int .i64 0, .int .i64 0, .int .i64 0, .int .i64 0] 32) :: l8) (w8.setCell ⟨n2, 0, none⟩ (.slice a8 ss.length p8))) := uh (HT8.out.setCell 0 (.slice a8 ss.length p8))
    generalize w8.setCell ⟨n2, 0, none⟩ (.slice a8 ss.length p8) = w9 at *
    clear HT8 k0 f0
    refine (HC.out _ HT9.out.below).mono ?_
    rintro e w10 ⟨a47, p47, l47, rfl, hrow, T10⟩
    have HT10 := uh ((HT9.out.grow T10).perm (l2 := (n2, .cells #[.slice a8 ss.length p8, .int .i64 0, .int .i64 0, .int .i64 0, .int .i64 0, .int .i64 0, .int .i64 0] 32) :: (l8 ++ l47)) (perm_of fun c => by simp <;> omega))
    have Hrow := uh hrow
    clear hrow T10 HC HT9
    go_wp2_with fail
    go_loopw [49] (fun v49 wr => ∃ (i : Nat), i ≤ cs.length ∧ v49 = .int .i64 i ∧ Turn [] w ((n2, .cells #[.slice a8 ss.length p8, .int .i64 (gaps (cs.take i)).length, .int .i64 (sumBy cSize (gaps (cs.take i))), .int .i64 (bigOf (gaps (cs.take i))), .int .i64 0, .int .i64 0, .int .i64 0] 32) :: (l8 ++ l47)) wr) (fun v49 _ => cs.length - (intOf v49).toNat)
    case atStart => exact ⟨0, Nat.zero_le _, by go_num, HT10.out⟩
    case round =>
     clear HT10
     obtain ⟨i, hi, rfl, V⟩ := hrel
     by_cases hlt2 : i < cs.length
     · have hlt' : (i : Int) < (cs.length : Int) := by omega
       obtain ⟨c, hc⟩ : ∃ c, cs[i]? = some c := ⟨cs[i], List.getElem?_eq_getElem hlt2⟩
       have hS8 := Hrow.out.src (V.has.perm (l' := l47 ++ ((n2, .cells #[.slice a8 ss.length p8, .int .i64 (gaps (cs.take i)).length, .int .i64 (sumBy cSize (gaps (cs.take i))), .int .i64 (bigOf (gaps (cs.take i))), .int .i64 0, .int .i64 0, .int .i64 0] 32) :: l8)) (perm_of fun c => by simp; omega))
       obtain ⟨b, off, rfl, -⟩ := hS8.form (by rw [ces_length]; omega)
       have hrg : wr.rangeAt b (off + i * 5) [.int .i64 c.1, .int .u8 c.2.tag, .int .i64 c.2.typ, .int .i64 c.2.len, .int .i64 c.2.size] := hS8.ce hc
       have T3 := V.alloc (.cells #[.int .i64 0, .int .u8 0, .int .i64 0, .int .i64 0, .int .i64 0] 81)
       have hth : (wr.alloc (.cells #[.int .i64 0, .int .u8 0, .int .i64 0, .int .i64 0, .int .i64 0] 81)).there wr.heap.size 0 5 := T3.there1
       have hcs := Hcs.out i c hc
       obtain ⟨hg1, hg2, hg3⟩ := Hgl.out i
       have hgn := gaps_snoc hc
       have HT3 := uh (T3.laid [.int .i64 c.1, .int .u8 c.2.tag, .int .i64 c.2.typ, .int .i64 c.2.len, .int .i64 c.2.size] rfl)
       have hoC := ce_one c
       clear T3 V hc hS8
       by_cases ht : c.2.tag = 1
       · have ho : isObj c = true := isObj_iff.2 ht
         rw [ho, if_pos rfl, List.append_nil] at hgn
         have Hgn := uh hgn
         have k1 : ((c.2.tag : Int) == 1) = true := by rw [beq_iff_eq]; omega
         have k2 : (c.2.tag == 1) = true := by rw [beq_iff_eq]; exact ht
         clear hgn ho ht
         go_wp2_with (first
          | (show wpList _ _ _ (⟨_, Op.load 81 _, _, _, _, _⟩ :: _) _ _; refine wpList_load_mid rfl 81 _ rfl b (off + i * 5) rfl [.int .i64 c.1, .int .u8 c.2.tag, .int .i64 c.2.typ, .int .i64 c.2.len, .int .i64 c.2.size] _ hrg Tryz.underlying81 rfl hsz ?_; clear hrg)
          | (show wpList _ _ _ (⟨_, Op.store 81 _ _, _, _, _, _⟩ :: _) _ _; refine wpList_store_mid rfl 81 _ _ rfl wr.heap.size 0 #[.int .i64 c.1, .int .u8 c.2.tag, .int .i64 c.2.typ, .int .i64 c.2.len, .int .i64 c.2.size] rfl rfl hth hsz hoC ?_; clear hth; generalize (wr.alloc (.cells #[.int .i64 0, .int .u8 0, .int .i64 0, .int .i64 0, .int .i64 0] 81)).setCells wr.heap.size 0 [.int .i64 c.1, .int .u8 c.2.tag, .int .i64 c.2.typ, .int .i64 c.2.len, .int .i64 c.2.size] = w3 at *; generalize wr.heap.size = nb at *; have q1 := HT3.out.cell1 1)
          | fail)
         go_roundw
         case rel => exact ⟨i + 1, by omega, by go_num, by rw [Hgn.out]; exact HT3.out.tail⟩
         case measure => simp [intOf]; omega
       · have ho : isObj c = false := Bool.eq_false_iff.2 (fun h => ht (isObj_iff.1 h))
         rw [ho, if_neg (by simp)] at hgn
         have Hgn := uh hgn
         have k1 : ((c.2.tag : Int) == 1) = false := by rw [beq_eq_false_iff_ne]; omega
         have k2 : (c.2.tag == 1) = false := by rw [beq_eq_false_iff_ne]; exact ht
         clear hgn ho ht
         generalize gaps (cs.take i) = G at *
         generalize hFe : sumBy cSize G = F at *
         generalize hBe : bigOf G = B at *
         have HFe := uh hFe
         have HBe := uh hBe
         clear hFe hBe
         have hwA : IntKind.i64.wrap ((F : Int) + (c.2.size : Int)) = (F : Int) + (c.2.size : Int) := i64_in _ (by omega)
         go_wp2_with (first
          | (show wpList _ _ _ (⟨_, Op.load 81 _, _, _, _, _⟩ :: _) _ _; refine wpList_load_mid rfl 81 _ rfl b (off + i * 5) rfl [.int .i64 c.1, .int .u8 c.2.tag, .int .i64 c.2.typ, .int .i64 c.2.len, .int .i64 c.2.size] _ hrg Tryz.underlying81 rfl hsz ?_; clear hrg)
          | (show wpList _ _ _ (⟨_, Op.store 81 _ _, _, _, _, _⟩ :: _) _ _; refine wpList_store_mid rfl 81 _ _ rfl wr.heap.size 0 #[.int .i64 c.1, .int .u8 c.2.tag, .int .i64 c.2.typ, .int .i64 c.2.len, .int .i64 c.2.size] rfl rfl hth hsz hoC ?_; clear hth; generalize (wr.alloc (.cells #[.int .i64 0, .int .u8 0, .int .i64 0, .int .i64 0, .int .i64 0] 81)).setCells wr.heap.size 0 [.int .i64 c.1, .int .u8 c.2.tag, .int .i64 c.2.typ, .int .i64 c.2.len, .int .i64 c.2.size] = w3 at *; generalize wr.heap.size = nb at *; have q1 := HT3.out.cell1 1; have T4 := HT3.out.swap; have p1 := T4.cell1 1; have g1 := T4.free1 1; have T5 := T4.setCell 1 (.int .i64 ((G.length : Int) + 1)); have p2 : (w3.setCell ⟨n2, 1, none⟩ (.int .i64 ((G.length : Int) + 1))).cell? ⟨n2, 2, none⟩ = some (.int .i64 F) := T5.cell1 2; have g2 := T5.free1 2; have s2 := T5.cell2 4; have T6 := T5.setCell 2 (.int .i64 ((F : Int) + (c.2.size : Int))); have p3 : ((w3.setCell ⟨n2, 1, none⟩ (.int .i64 ((G.length : Int) + 1))).setCell ⟨n2, 2, none⟩ (.int .i64 ((F : Int) + (c.2.size : Int)))).cell? ⟨n2, 3, none⟩ = some (.int .i64 B) := T6.cell1 3; have g3 := T6.free1 3; have s3 := T6.cell2 4; have HT7 := uh (T6.setCell 3 (.int .i64 (max (B : Int) (c.2.size : Int)))); clear T4 T5 T6)
          | fail)
         go_roundw
         case rel =>
          refine ⟨i + 1, by omega, by go_num, ?_⟩
          rw [Hgn.out]
          have e1 : (((G ++ [c]).length : Nat) : Int) = (G.length : Int) + 1 := by simp
          have e2 : ((sumBy cSize (G ++ [c]) : Nat) : Int) = (F : Int) + (c.2.size : Int) := by rw [sumBy_append, HFe.out]; simp [cSize]
          have e3 : ((bigOf (G ++ [c]) : Nat) : Int) = max (B : Int) (c.2.size : Int) := by rw [bigOf_snoc, HBe.out]; omega
          rw [e1, e2, e3]
          exact HT7.out.swap.tail
         case measure => simp [intOf]; omega
     · obtain rfl : i = cs.length := by omega
       have hnl : ¬ ((cs.length : Nat) : Int) < (cs.length : Int) := by omega
       rw [List.take_length] at V
       have hgb := bigOf_le (gaps cs)
       have hgg : (gaps cs).length ≤ 32768 := by
        have : (gaps cs).length ≤ cs.length := by unfold gaps; exact List.length_filter_le ..
        omega
       have HT11 := uh (V.sub (l2 := (n2, .cells #[.slice a8 ss.length p8, .int .i64 (gaps cs).length, .int .i64 (sumBy cSize (gaps cs)), .int .i64 (bigOf (gaps cs)), .int .i64 0, .int .i64 0, .int .i64 0] 32) :: l8) ((List.sublist_append_left ..).cons_cons _))
       clear V Hgl Hcs Htag Hst Hso Hrow
       generalize hGe : (gaps cs).length = gl at *
       generalize hFe : sumBy cSize (gaps cs) = F at *
       generalize hBe : bigOf (gaps cs) = B at *
       have HGe := uh hGe
       have HFe := uh hFe
       have HBe := uh hBe
       clear hGe hFe hBe
       have p2 := HT11.out.cell1 2
       have p3 := HT11.out.cell1 3
       by_cases hF0 : F = 0
       · subst hF0
         have Hbr := uh (show brokenOf 0 B = 0 from rfl)
         go_wp2_with fail
         have HT12 : Hid (Turn [] w ((n2, .cells #[.slice a8 ss.length p8, .int .i64 gl, .int .i64 0, .int .i64 B, .int .i64 0, .int .i64 0, .int .i64 0] 32) :: l8) wr) := HT11
         generalize wr = w12 at *
         clear p2 p3 HT11
         refine (HE.out _ HT12.out.below).mono ?_
         rintro e w13 ⟨a90, p90, l90, rfl, T13⟩
         have HT13 := uh (HT12.out.grow T13).drop
         generalize hEe : edgesOf L W cs = E at *
         have HEe := uh hEe
         have f5 := HT13.out.free1 5
         have p5 := HT13.out.cell1 5
         have T14 := HT13.out.setCell 5 (.int .i64 (E : Int))
         have p0 : (w13.setCell ⟨n2, 5, none⟩ (.int .i64 (E : Int))).cell? ⟨n2, 0, none⟩ = some (.slice a8 ss.length p8) := T14.cell1 0
         have HT14 : Hid (Turn [] w ((n2, .cells #[.slice a8 ss.length p8, .int .i64 gl, .int .i64 0, .int .i64 B, .int .i64 0, .int .i64 E, .int .i64 0] 32) :: l8) (w13.setCell ⟨n2, 5, none⟩ (.int .i64 (E : Int)))) := uh T14
         clear T13 HT12 hEe T14 HE HT13
         go_wp2_with fail
         go_loopw [96] (fun v96 wr => ∃ (j : Nat), j ≤ ss.length ∧ v96 = .int .i64 j ∧ Turn [] w ((n2, .cells #[.slice a8 ss.length p8, .int .i64 gl, .int .i64 0, .int .i64 B, .int .i64 0, .int .i64 E, .int .i64 (looseTo (fun k => keptOf L W (ofType os k)) (ss.take j) : Nat)] 32) :: l8) wr) (fun v96 _ => ss.length - (intOf v96).toNat)
         case atStart => exact ⟨0, Nat.zero_le _, by go_num, HT14.out⟩
         case round =>
          clear HT14 p0 p5 f5
          obtain ⟨j, hj, rfl, V⟩ := hrel
          have hlo := Hlo.out ss hsl Hm.out j
          by_cases hlt3 : j < ss.length
          · have hlt' : (j : Int) < (ss.length : Int) := by omega
            obtain ⟨k, hk⟩ : ∃ k, ss[j]? = some k := ⟨ss[j], List.getElem?_eq_getElem hlt3⟩
            have hS8 := Hr8.out.src (V.has.perm (l' := l8 ++ [(n2, .cells #[.slice a8 ss.length p8, .int .i64 gl, .int .i64 0, .int .i64 B, .int .i64 0, .int .i64 E, .int .i64 (looseTo (fun k => keptOf L W (ofType os k)) (ss.take j) : Nat)] 32)]) (perm_of fun c => by simp; omega))
            obtain ⟨b, off, rfl, -⟩ := hS8.form (by rw [kps_length]; omega)
            have hrg := hS8.kp hk
            have hln := loose_next (K := fun k => keptOf L W (ofType os k)) hk
            obtain ⟨-, -, -, hkr, hkn⟩ := Hkm.out k
            generalize looseTo (fun k => keptOf L W (ofType os k)) (ss.take j) = lo at *
            have Hln := uh hln
            clear hln hk hS8
            generalize keptOf L W (ofType os k) = x at *
            have hrg2 : wr.rangeAt b (off + j * 6) [.int .i64 k, .int .i64 x.objects, .int .i64 x.granules, .int .i64 x.slots, .int .i64 x.refs, .int .i64 x.nils] := hrg
            have hth : (wr.alloc (.cells #[.int .i64 0, .int .i64 0, .int .i64 0, .int .i64 0, .int .i64 0, .int .i64 0] 37)).there wr.heap.size 0 6 := (V.alloc (.cells #[.int .i64 0, .int .i64 0, .int .i64 0, .int .i64 0, .int .i64 0, .int .i64 0] 37)).there1
            have T3 := (V.alloc (.cells #[.int .i64 0, .int .i64 0, .int .i64 0, .int .i64 0, .int .i64 0, .int .i64 0] 37)).laid [.int .i64 k, .int .i64 x.objects, .int .i64 x.granules, .int .i64 x.slots, .int .i64 x.refs, .int .i64 x.nils] rfl
            have HT3 := uh T3.swap
            have hok := kp_one k x
            obtain ⟨d, hd⟩ : ∃ d, x.refs - x.nils = d := ⟨_, rfl⟩
            rw [hd] at Hln
            have hwS : IntKind.i64.wrap ((x.refs : Int) - (x.nils : Int)) = (d : Int) := by rw [i64_in _ (by omega)]; omega
            have hwA : IntKind.i64.wrap ((lo : Int) + (d : Int)) = (lo : Int) + (d : Int) := i64_in _ (by omega)
            have Hl2 := uh (show (lo : Int) + (d : Int) = ((lo + d : Nat) : Int) by omega)
            clear hrg T3 V hd hkr hkn
            go_wp2_with (first
             | (show wpList _ _ _ (⟨_, Op.load 37 _, _, _, _, _⟩ :: _) _ _; refine wpList_load_mid rfl 37 _ rfl b (off + j * 6) rfl _ _ hrg2 Tryz.underlying37 rfl hsk ?_; clear hrg2)
             | (show wpList _ _ _ (⟨_, Op.store 37 _ _, _, _, _, _⟩ :: _) _ _; refine wpList_store_mid rfl 37 _ _ rfl wr.heap.size 0 #[.int .i64 k, .int .i64 x.objects, .int .i64 x.granules, .int .i64 x.slots, .int .i64 x.refs, .int .i64 x.nils] rfl rfl hth hsk hok ?_; clear hth; generalize (wr.alloc (.cells #[.int .i64 0, .int .i64 0, .int .i64 0, .int .i64 0, .int .i64 0, .int .i64 0] 37)).setCells wr.heap.size 0 [.int .i64 k, .int .i64 x.objects, .int .i64 x.granules, .int .i64 x.slots, .int .i64 x.refs, .int .i64 x.nils] = w3 at *; generalize wr.heap.size = nb at *; have p6 := HT3.out.cell1 6; have f6 := HT3.out.free1 6; have c4 := HT3.out.cell2 4; have c5 := HT3.out.cell2 5)
             | fail)
            go_roundw
            case rel =>
             refine ⟨j + 1, by omega, by go_num, ?_⟩
             rw [Hln.out, ← Hl2.out]
             exact (HT3.out.setCell 6 (.int .i64 ((lo : Int) + (d : Int)))).swap.tail
            case measure => simp [intOf]; omega
          · obtain rfl : j = ss.length := by omega
            have hnl : ¬ ((ss.length : Nat) : Int) < (ss.length : Int) := by omega
            rw [List.take_length] at V hlo
            have p6 := V.cell1 6
            have p5 := V.cell1 5
            have f6 := V.free1 6
            have hloe : ∀ K, looseTo K ss = looseTo K ss := fun _ => rfl
            generalize hLe : looseTo (fun k => keptOf L W (ofType os k)) ss = lo at *
            have HLe := uh hLe
            have hwE : IntKind.i64.wrap ((lo : Int) - (E : Int)) = (lo : Int) - (E : Int) := i64_in _ (by omega)
            have HT15 : Hid (Turn [] w ((n2, .cells #[.slice a8 ss.length p8, .int .i64 gl, .int .i64 0, .int .i64 B, .int .i64 0, .int .i64 E, .int .i64 ((lo : Int) - (E : Int))] 32) :: l8) (wr.setCell ⟨n2, 6, none⟩ (.int .i64 ((lo : Int) - (E : Int))))) := uh (V.setCell 6 (.int .i64 ((lo : Int) - (E : Int))))
            have hrs := HT15.out.range1
            have hth := HT15.out.there1
            have hos : (#[.slice a8 ss.length p8, .int .i64 gl, .int .i64 0, .int .i64 B, .int .i64 0, .int .i64 E, .int .i64 ((lo : Int) - (E : Int))] : Array Value).all (·.oneCell') = true := all_one (cs := [.slice a8 ss.length p8, .int .i64 gl, .int .i64 0, .int .i64 B, .int .i64 0, .int .i64 E, .int .i64 ((lo : Int) - (E : Int))]) (by simp [Value.oneCell'])
            clear V hLe hloe hlo
            go_wp2_with (first
             | (show wpList _ _ _ (⟨_, Op.load 32 _, _, _, _, _⟩ :: _) _ _; refine wpList_load_mid rfl 32 _ rfl n2 0 rfl [.slice a8 ss.length p8, .int .i64 gl, .int .i64 0, .int .i64 B, .int .i64 0, .int .i64 E, .int .i64 ((lo : Int) - (E : Int))] _ hrs Tryz.underlying32 rfl hss ?_; clear hrs)
             | (show wpList _ _ _ (⟨_, Op.store 32 _ _, _, _, _, _⟩ :: _) _ _; refine wpList_store_mid rfl 32 _ _ rfl n2 0 #[.slice a8 ss.length p8, .int .i64 gl, .int .i64 0, .int .i64 B, .int .i64 0, .int .i64 E, .int .i64 ((lo : Int) - (E : Int))] rfl rfl hth hss hos ?_; clear hth)
             | fail)
            have T16 := HT15.out.laid [.slice a8 ss.length p8, .int .i64 gl, .int .i64 0, .int .i64 B, .int .i64 0, .int .i64 E, .int .i64 ((lo : Int) - (E : Int))] rfl
            refine bodyPost_ret (results_two Tryz.results11 _ _ n2 [.slice a8 ss.length p8, .int .i64 gl, .int .i64 0, .int .i64 B, .int .i64 0, .int .i64 E, .int .i64 ((lo : Int) - (E : Int))] _ rfl T16.range1 Tryz.underlying32 rfl hss) rfl ?_
            unfold StP stVal freeOf
            rw [Hos.out]
            refine ⟨ss, a8, p8, l8, ?_, Hp.out, Hn.out, Hm.out, Hr8.out, T16.tail⟩
            rw [HGe.out, HFe.out, HBe.out, HEe.out, Hbr.out, HLe.out]
            rfl
       · have f4 := HT11.out.free1 4
         have p4 := HT11.out.cell1 4
         have k1 : ((0 : Int) < (F : Int)) := by omega
         have k2 : ¬ (F : Int) = 0 := by omega
         have hw1 : IntKind.i64.wrap ((F : Int) - (B : Int)) = ((F - B : Nat) : Int) := by rw [i64_in _ (by omega)]; omega
         have hw2 : IntKind.i64.wrap (1000 * ((F - B : Nat) : Int)) = ((1000 * (F - B) : Nat) : Int) := by rw [i64_in _ (by omega)]; omega
         have Hbr := uh (show brokenOf F B = 1000 * (F - B) / F by unfold brokenOf; rw [if_neg hF0])
         have hm9 : 1000 * (F - B) ≤ 32768000 := by omega
         generalize F - B = fb at *
         generalize 1000 * fb = m at *
         have hq1 : ((m : Int)).tdiv (F : Int) = ((m / F : Nat) : Int) := tdiv_nat _ _
         have hq2 : ((m : Int)) / (F : Int) = ((m / F : Nat) : Int) := by simp
         have hq3 : m / F ≤ m := Nat.div_le_self ..
         generalize m / F = br at *
         have hw3 : IntKind.i64.wrap (br : Int) = (br : Int) := i64_in _ (by omega)
         go_wp2_with fail
         have HT12 : Hid (Turn [] w ((n2, .cells #[.slice a8 ss.length p8, .int .i64 gl, .int .i64 F, .int .i64 B, .int .i64 br, .int .i64 0, .int .i64 0] 32) :: l8) (wr.setCell ⟨n2, 4, none⟩ (.int .i64 br))) := uh (HT11.out.setCell 4 (.int .i64 br))
         generalize wr.setCell ⟨n2, 4, none⟩ (.int .i64 br) = w12 at *
         clear p2 p3 f4 p4 k1 k2 hw1 hw2 hw3 hq1 hq2 hq3 HT11
         refine (HE.out _ HT12.out.below).mono ?_
         rintro e w13 ⟨a90, p90, l90, rfl, T13⟩
         have HT13 := uh (HT12.out.grow T13).drop
         generalize hEe : edgesOf L W cs = E at *
         have HEe := uh hEe
         have f5 := HT13.out.free1 5
         have p5 := HT13.out.cell1 5
         have T14 := HT13.out.setCell 5 (.int .i64 (E : Int))
         have p0 : (w13.setCell ⟨n2, 5, none⟩ (.int .i64 (E : Int))).cell? ⟨n2, 0, none⟩ = some (.slice a8 ss.length p8) := T14.cell1 0
         have HT14 : Hid (Turn [] w ((n2, .cells #[.slice a8 ss.length p8, .int .i64 gl, .int .i64 F, .int .i64 B, .int .i64 br, .int .i64 E, .int .i64 0] 32) :: l8) (w13.setCell ⟨n2, 5, none⟩ (.int .i64 (E : Int)))) := uh T14
         clear T13 HT12 hEe T14 HE HT13
         go_wp2_with fail
         go_loopw [96] (fun v96 wr => ∃ (j : Nat), j ≤ ss.length ∧ v96 = .int .i64 j ∧ Turn [] w ((n2, .cells #[.slice a8 ss.length p8, .int .i64 gl, .int .i64 F, .int .i64 B, .int .i64 br, .int .i64 E, .int .i64 (looseTo (fun k => keptOf L W (ofType os k)) (ss.take j) : Nat)] 32) :: l8) wr) (fun v96 _ => ss.length - (intOf v96).toNat)
         case atStart => exact ⟨0, Nat.zero_le _, by go_num, HT14.out⟩
         case round =>
          clear HT14 p0 p5 f5
          obtain ⟨j, hj, rfl, V⟩ := hrel
          have hlo := Hlo.out ss hsl Hm.out j
          by_cases hlt3 : j < ss.length
          · have hlt' : (j : Int) < (ss.length : Int) := by omega
            obtain ⟨k, hk⟩ : ∃ k, ss[j]? = some k := ⟨ss[j], List.getElem?_eq_getElem hlt3⟩
            have hS8 := Hr8.out.src (V.has.perm (l' := l8 ++ [(n2, .cells #[.slice a8 ss.length p8, .int .i64 gl, .int .i64 F, .int .i64 B, .int .i64 br, .int .i64 E, .int .i64 (looseTo (fun k => keptOf L W (ofType os k)) (ss.take j) : Nat)] 32)]) (perm_of fun c => by simp; omega))
            obtain ⟨b, off, rfl, -⟩ := hS8.form (by rw [kps_length]; omega)
            have hrg := hS8.kp hk
            have hln := loose_next (K := fun k => keptOf L W (ofType os k)) hk
            obtain ⟨-, -, -, hkr, hkn⟩ := Hkm.out k
            generalize looseTo (fun k => keptOf L W (ofType os k)) (ss.take j) = lo at *
            have Hln := uh hln
            clear hln hk hS8
            generalize keptOf L W (ofType os k) = x at *
            have hrg2 : wr.rangeAt b (off + j * 6) [.int .i64 k, .int .i64 x.objects, .int .i64 x.granules, .int .i64 x.slots, .int .i64 x.refs, .int .i64 x.nils] := hrg
            have hth : (wr.alloc (.cells #[.int .i64 0, .int .i64 0, .int .i64 0, .int .i64 0, .int .i64 0, .int .i64 0] 37)).there wr.heap.size 0 6 := (V.alloc (.cells #[.int .i64 0, .int .i64 0, .int .i64 0, .int .i64 0, .int .i64 0, .int .i64 0] 37)).there1
            have T3 := (V.alloc (.cells #[.int .i64 0, .int .i64 0, .int .i64 0, .int .i64 0, .int .i64 0, .int .i64 0] 37)).laid [.int .i64 k, .int .i64 x.objects, .int .i64 x.granules, .int .i64 x.slots, .int .i64 x.refs, .int .i64 x.nils] rfl
            have HT3 := uh T3.swap
            have hok := kp_one k x
            obtain ⟨d, hd⟩ : ∃ d, x.refs - x.nils = d := ⟨_, rfl⟩
            rw [hd] at Hln
            have hwS : IntKind.i64.wrap ((x.refs : Int) - (x.nils : Int)) = (d : Int) := by rw [i64_in _ (by omega)]; omega
            have hwA : IntKind.i64.wrap ((lo : Int) + (d : Int)) = (lo : Int) + (d : Int) := i64_in _ (by omega)
            have Hl2 := uh (show (lo : Int) + (d : Int) = ((lo + d : Nat) : Int) by omega)
            clear hrg T3 V hd hkr hkn
            go_wp2_with (first
             | (show wpList _ _ _ (⟨_, Op.load 37 _, _, _, _, _⟩ :: _) _ _; refine wpList_load_mid rfl 37 _ rfl b (off + j * 6) rfl _ _ hrg2 Tryz.underlying37 rfl hsk ?_; clear hrg2)
             | (show wpList _ _ _ (⟨_, Op.store 37 _ _, _, _, _, _⟩ :: _) _ _; refine wpList_store_mid rfl 37 _ _ rfl wr.heap.size 0 #[.int .i64 k, .int .i64 x.objects, .int .i64 x.granules, .int .i64 x.slots, .int .i64 x.refs, .int .i64 x.nils] rfl rfl hth hsk hok ?_; clear hth; generalize (wr.alloc (.cells #[.int .i64 0, .int .i64 0, .int .i64 0, .int .i64 0, .int .i64 0, .int .i64 0] 37)).setCells wr.heap.size 0 [.int .i64 k, .int .i64 x.objects, .int .i64 x.granules, .int .i64 x.slots, .int .i64 x.refs, .int .i64 x.nils] = w3 at *; generalize wr.heap.size = nb at *; have p6 := HT3.out.cell1 6; have f6 := HT3.out.free1 6; have c4 := HT3.out.cell2 4; have c5 := HT3.out.cell2 5)
             | fail)
            go_roundw
            case rel =>
             refine ⟨j + 1, by omega, by go_num, ?_⟩
             rw [Hln.out, ← Hl2.out]
             exact (HT3.out.setCell 6 (.int .i64 ((lo : Int) + (d : Int)))).swap.tail
            case measure => simp [intOf]; omega
          · obtain rfl : j = ss.length := by omega
            have hnl : ¬ ((ss.length : Nat) : Int) < (ss.length : Int) := by omega
            rw [List.take_length] at V hlo
            have p6 := V.cell1 6
            have p5 := V.cell1 5
            have f6 := V.free1 6
            have hloe : ∀ K, looseTo K ss = looseTo K ss := fun _ => rfl
            generalize hLe : looseTo (fun k => keptOf L W (ofType os k)) ss = lo at *
            have HLe := uh hLe
            have hwE : IntKind.i64.wrap ((lo : Int) - (E : Int)) = (lo : Int) - (E : Int) := i64_in _ (by omega)
            have HT15 : Hid (Turn [] w ((n2, .cells #[.slice a8 ss.length p8, .int .i64 gl, .int .i64 F, .int .i64 B, .int .i64 br, .int .i64 E, .int .i64 ((lo : Int) - (E : Int))] 32) :: l8) (wr.setCell ⟨n2, 6, none⟩ (.int .i64 ((lo : Int) - (E : Int))))) := uh (V.setCell 6 (.int .i64 ((lo : Int) - (E : Int))))
            have hrs := HT15.out.range1
            have hth := HT15.out.there1
            have hos : (#[.slice a8 ss.length p8, .int .i64 gl, .int .i64 F, .int .i64 B, .int .i64 br, .int .i64 E, .int .i64 ((lo : Int) - (E : Int))] : Array Value).all (·.oneCell') = true := all_one (cs := [.slice a8 ss.length p8, .int .i64 gl, .int .i64 F, .int .i64 B, .int .i64 br, .int .i64 E, .int .i64 ((lo : Int) - (E : Int))]) (by simp [Value.oneCell'])
            clear V hLe hloe hlo
            go_wp2_with (first
             | (show wpList _ _ _ (⟨_, Op.load 32 _, _, _, _, _⟩ :: _) _ _; refine wpList_load_mid rfl 32 _ rfl n2 0 rfl [.slice a8 ss.length p8, .int .i64 gl, .int .i64 F, .int .i64 B, .int .i64 br, .int .i64 E, .int .i64 ((lo : Int) - (E : Int))] _ hrs Tryz.underlying32 rfl hss ?_; clear hrs)
             | (show wpList _ _ _ (⟨_, Op.store 32 _ _, _, _, _, _⟩ :: _) _ _; refine wpList_store_mid rfl 32 _ _ rfl n2 0 #[.slice a8 ss.length p8, .int .i64 gl, .int .i64 F, .int .i64 B, .int .i64 br, .int .i64 E, .int .i64 ((lo : Int) - (E : Int))] rfl rfl hth hss hos ?_; clear hth)
             | fail)
            have T16 := HT15.out.laid [.slice a8 ss.length p8, .int .i64 gl, .int .i64 F, .int .i64 B, .int .i64 br, .int .i64 E, .int .i64 ((lo : Int) - (E : Int))] rfl
            refine bodyPost_ret (results_two Tryz.results11 _ _ n2 [.slice a8 ss.length p8, .int .i64 gl, .int .i64 F, .int .i64 B, .int .i64 br, .int .i64 E, .int .i64 ((lo : Int) - (E : Int))] _ rfl T16.range1 Tryz.underlying32 rfl hss) rfl ?_
            unfold StP stVal freeOf
            rw [Hos.out]
            refine ⟨ss, a8, p8, l8, ?_, Hp.out, Hn.out, Hm.out, Hr8.out, T16.tail⟩
            rw [HGe.out, HFe.out, HBe.out, HEe.out, Hbr.out, HLe.out]
            rfl
end
section
open Go Go.RowKit Go.IntWalk
theorem results_cell {P : Program} {fn : Func} {p : Tmp} {ty : TypeId} (h : fn.results = #[.cell p ty]) (tmps : Array Value) (w : World) (b : Nat) (cs : List Value) (d : TypeDesc)
  (hp : tmps.getD p undef = .pointer (some ⟨b, 0, none⟩)) (hc : w.rangeAt b 0 cs) (hu : P.underlying ty = some d) (hd : d.isRow = true) (hi : (P.info? ty).map (·.size) = some cs.length) :
  (results fn tmps).run P w = .ok (.agg cs.toArray) w := by
 have hp' : tmps[p]?.getD undef = .pointer (some ⟨b, 0, none⟩) := by simpa using hp
 simp [results, h, hp', asAddr, run_loadVar_mid w b 0 ty cs d hc hu hd hi]
def kp0 : Kp := ⟨0, 0, 0, 0, 0⟩
def kpAt (K : Nat → Kp) (ss : List Nat) (id : Nat) : Kp := if id ∈ ss then K id else kp0
set_option maxRecDepth 100000 in
set_option maxHeartbeats 3200000 in
theorem lof (w : World) (ao : Option Addr) (cap : Nat) (ss : List Nat) (K : Nat → Kp) (hs : ss.length ≤ 65536) (hS : Src w ao ss.length cap 6 (ss.flatMap fun k => kpv k (K k))) (x1 x2 x3 x4 x5 x6 : Int) (id : Nat) :
  Calls Tryz.prog 21 #[.agg #[.slice ao ss.length cap, .int .i64 x1, .int .i64 x2, .int .i64 x3, .int .i64 x4, .int .i64 x5, .int .i64 x6], .int .i64 id] w fun e w' => e = .returned (.agg (kpv id (kpAt K ss id)).toArray) ∧ Turn [] w [] w' := by
 obtain ⟨n2, hn2⟩ : ∃ n2, w.heap.size = n2 := ⟨_, rfl⟩
 have T0 := ((Turn.refl (Has.nil w)).alloc (.cells #[.slice ao ss.length cap, .int .i64 x1, .int .i64 x2, .int .i64 x3, .int .i64 x4, .int .i64 x5, .int .i64 x6] 32)).alloc (.cells #[.int .i64 0, .int .i64 0, .int .i64 0, .int .i64 0, .int .i64 0, .int .i64 0] 37)
 simp only [World.size_alloc, hn2] at T0
 have HT0 := uh T0
 have HSr := uh (fun w' (hB : Below w.heap.size w w') => hS.below hB)
 have hsk := sz_kept
 clear hS T0
 go_enter Tryz.func21, Tryz.ntmps21
 go_wp2_with fail
 go_loopw [5] (fun v5 wr => ∃ (i : Nat), i ≤ ss.length ∧ v5 = .int .i64 i ∧ id ∉ ss.take i ∧ Turn [] w [(n2 + 1, .cells #[.int .i64 0, .int .i64 0, .int .i64 0, .int .i64 0, .int .i64 0, .int .i64 0] 37), (n2, .cells #[.slice ao ss.length cap, .int .i64 x1, .int .i64 x2, .int .i64 x3, .int .i64 x4, .int .i64 x5, .int .i64 x6] 32)] wr) (fun v5 _ => ss.length - (intOf v5).toNat)
 case atStart => exact ⟨0, Nat.zero_le _, by go_num, by simp, HT0.out⟩
 case round =>
  clear HT0
  obtain ⟨i, hi, rfl, hno, V⟩ := hrel
  have p0 := V.cell2 0
  have HV := uh V
  have Hno := uh hno
  by_cases hlt : i < ss.length
  · have hlt' : (i : Int) < (ss.length : Int) := by omega
    obtain ⟨k, hk⟩ : ∃ k, ss[i]? = some k := ⟨ss[i], List.getElem?_eq_getElem hlt⟩
    have hS8 := HSr.out _ V.below
    obtain ⟨b, off, rfl, -⟩ := hS8.form (by rw [kps_length]; omega)
    have hrg : wr.rangeAt b (off + i * 6) [.int .i64 k, .int .i64 (K k).objects, .int .i64 (K k).granules, .int .i64 (K k).slots, .int .i64 (K k).refs, .int .i64 (K k).nils] := hS8.kp hk
    have q0 : wr.cell? ⟨b, off + i * 6, none⟩ = some (.int .i64 k) := hrg 0 _ rfl
    have hth := V.there1
    have hok := kp_one k (K k)
    have Htk := uh (take_nextA hk)
    have hkm := List.mem_of_getElem? hk
    clear V hno hS8 hk
    by_cases he : k = id
    · subst he
      have Hk : Hid (kpAt K ss k = K k) := uh (by unfold kpAt; rw [if_pos hkm])
      clear hkm
      go_wp2_with (first
       | (show wpList _ _ _ (⟨_, Op.load 37 _, _, _, _, _⟩ :: _) _ _; refine wpList_load_mid rfl 37 _ rfl b (off + i * 6) rfl _ _ hrg Tryz.underlying37 rfl hsk ?_; clear hrg)
       | (show wpList _ _ _ (⟨_, Op.store 37 _ _, _, _, _, _⟩ :: _) _ _; refine wpList_store_mid rfl 37 _ _ rfl (n2 + 1) 0 #[.int .i64 k, .int .i64 (K k).objects, .int .i64 (K k).granules, .int .i64 (K k).slots, .int .i64 (K k).refs, .int .i64 (K k).nils] rfl rfl hth hsk hok ?_; clear hth)
       | fail)
      have T4 := HV.out.laid (kpv k (K k)) rfl
      refine bodyPost_ret (results_cell Tryz.results21 _ _ (n2 + 1) (kpv k (K k)) _ rfl T4.range1 Tryz.underlying37 rfl hsk) rfl ?_
      rw [Hk.out]
      exact ⟨rfl, T4.tail.tail⟩
    · have he' : ¬ (k : Int) = (id : Int) := by omega
      clear hkm
      go_wp2_with fail
      go_roundw
      case rel =>
       refine ⟨i + 1, by omega, by go_num, ?_, HV.out⟩
       rw [Htk.out, List.mem_append, not_or, List.mem_singleton]
       exact ⟨Hno.out, fun h => he h.symm⟩
      case measure => simp [intOf]; omega
  · obtain rfl : i = ss.length := by omega
    have hnl : ¬ ((ss.length : Nat) : Int) < (ss.length : Int) := by omega
    have hth := V.there1
    have hok := kp_one id kp0
    rw [List.take_length] at hno
    have Hk : Hid (kpAt K ss id = kp0) := uh (by unfold kpAt; rw [if_neg hno])
    clear V hno
    go_wp2_with (first
     | (show wpList _ _ _ (⟨_, Op.store 37 _ _, _, _, _, _⟩ :: _) _ _; refine wpList_store_mid rfl 37 _ _ rfl (n2 + 1) 0 #[.int .i64 id, .int .i64 0, .int .i64 0, .int .i64 0, .int .i64 0, .int .i64 0] rfl rfl hth hsk hok ?_; clear hth)
     | fail)
    have T4 := HV.out.laid (kpv id kp0) rfl
    refine bodyPost_ret (results_cell Tryz.results21 _ _ (n2 + 1) (kpv id kp0) _ rfl T4.range1 Tryz.underlying37 rfl hsk) rfl ?_
    rw [Hk.out]
    exact ⟨rfl, T4.tail.tail⟩
end
section
open Go Go.RowKit Go.IntWalk
set_option maxRecDepth 100000 in
set_option maxHeartbeats 3200000 in
theorem lsame (w : World) (ao ap : Option Addr) (cap cap2 : Nat) (ss : List Nat) (K : Nat → Kp) (hs : ss.length ≤ 65536) (hS : Src w ao ss.length cap 6 (ss.flatMap fun k => kpv k (K k))) (hS2 : Src w ap ss.length cap2 6 (ss.flatMap fun k => kpv k (K k))) (x1 x2 x3 x4 x5 x6 : Int) :
  Calls Tryz.prog 17 #[.agg #[.slice ao ss.length cap, .int .i64 x1, .int .i64 x2, .int .i64 x3, .int .i64 x4, .int .i64 x5, .int .i64 x6], .agg #[.slice ap ss.length cap2, .int .i64 x1, .int .i64 x2, .int .i64 x3, .int .i64 x4, .int .i64 x5, .int .i64 x6]] w fun e w' => e = .returned (.bool true) ∧ Turn [] w [] w' := by
 obtain ⟨n2, hn2⟩ : ∃ n2, w.heap.size = n2 := ⟨_, rfl⟩
 have T0 := ((Turn.refl (Has.nil w)).alloc (.cells #[.slice ao ss.length cap, .int .i64 x1, .int .i64 x2, .int .i64 x3, .int .i64 x4, .int .i64 x5, .int .i64 x6] 32)).alloc (.cells #[.slice ap ss.length cap2, .int .i64 x1, .int .i64 x2, .int .i64 x3, .int .i64 x4, .int .i64 x5, .int .i64 x6] 32)
 simp only [World.size_alloc, hn2] at T0
 have HT0 := uh T0
 have HSr := uh (fun w' (hB : Below w.heap.size w w') => hS.below hB)
 have HSr2 := uh (fun w' (hB : Below w.heap.size w w') => hS2.below hB)
 have hsk := sz_kept
 clear hS hS2 T0
 go_enter Tryz.func17, Tryz.ntmps17
 have HV0 := HT0
 have r0 := HT0.out.cell1 0
 have r1 := HT0.out.cell1 1
 have r2 := HT0.out.cell1 2
 have r3 := HT0.out.cell1 3
 have r4 := HT0.out.cell1 4
 have r5 := HT0.out.cell1 5
 have r6 := HT0.out.cell1 6
 have s0 := HT0.out.cell2 0
 have s1 := HT0.out.cell2 1
 have s2 := HT0.out.cell2 2
 have s3 := HT0.out.cell2 3
 have s4 := HT0.out.cell2 4
 have s5 := HT0.out.cell2 5
 have s6 := HT0.out.cell2 6
 go_wp2_with fail
 clear r0 r1 r2 r3 r4 r5 r6 s0 s1 s2 s3 s4 s5 s6 HV0
 go_loopw [5] (fun v5 wr => ∃ (i : Nat), i ≤ ss.length ∧ v5 = .int .i64 i ∧ Turn [] w [(n2 + 1, .cells #[.slice ap ss.length cap2, .int .i64 x1, .int .i64 x2, .int .i64 x3, .int .i64 x4, .int .i64 x5, .int .i64 x6] 32), (n2, .cells #[.slice ao ss.length cap, .int .i64 x1, .int .i64 x2, .int .i64 x3, .int .i64 x4, .int .i64 x5, .int .i64 x6] 32)] wr) (fun v5 _ => ss.length - (intOf v5).toNat)
 case atStart => exact ⟨0, Nat.zero_le _, by go_num, HT0.out⟩
 case round =>
  clear HT0
  obtain ⟨i, hi, rfl, V⟩ := hrel
  have p0 := V.cell2 0
  have p1 := V.cell1 0
  have HV := uh V
  by_cases hlt : i < ss.length
  · have hlt' : (i : Int) < (ss.length : Int) := by omega
    obtain ⟨k, hk⟩ : ∃ k, ss[i]? = some k := ⟨ss[i], List.getElem?_eq_getElem hlt⟩
    have hS8 := HSr.out _ V.below
    obtain ⟨b, off, rfl, -⟩ := hS8.form (by rw [kps_length]; omega)
    have hS9 := HSr2.out _ V.below
    obtain ⟨b2, off2, rfl, -⟩ := hS9.form (by rw [kps_length]; omega)
    have hr1 := hS8.kp hk
    have hr2 := hS9.kp hk
    generalize K k = x at hr1 hr2
    have hS0 : (fun W' => W'.cell? ⟨n2, 0, none⟩ = some (.slice (some ⟨b, off, none⟩) ss.length cap) ∧ W'.cell? ⟨n2 + 1, 0, none⟩ = some (.slice (some ⟨b2, off2, none⟩) ss.length cap2) ∧ W'.rangeAt b (off + i * 6) [.int .i64 k, .int .i64 x.objects, .int .i64 x.granules, .int .i64 x.slots, .int .i64 x.refs, .int .i64 x.nils] ∧ W'.rangeAt b2 (off2 + i * 6) [.int .i64 k, .int .i64 x.objects, .int .i64 x.granules, .int .i64 x.slots, .int .i64 x.refs, .int .i64 x.nils]) wr.drew := ⟨p0, p1, hr1, hr2⟩
    have HV9 := uh V.drew
    clear V hS8 hS9 hr1 hr2 hk
    go_wp2_with fail
    clear p0 p1
    refine wp_region_noPanic ?_
    refine wp_region_listed (S := fun W' => W'.cell? ⟨n2, 0, none⟩ = some (.slice (some ⟨b, off, none⟩) ss.length cap) ∧ W'.cell? ⟨n2 + 1, 0, none⟩ = some (.slice (some ⟨b2, off2, none⟩) ss.length cap2) ∧ W'.rangeAt b (off + i * 6) [.int .i64 k, .int .i64 x.objects, .int .i64 x.granules, .int .i64 x.slots, .int .i64 x.refs, .int .i64 x.nils] ∧ W'.rangeAt b2 (off2 + i * 6) [.int .i64 k, .int .i64 x.objects, .int .i64 x.granules, .int .i64 x.slots, .int .i64 x.refs, .int .i64 x.nils]) 11 [false, false, false, false, false, false, false, false, false, false, false] rfl rfl (by kernel_rfl) ?_
    generalize wr.drew = w1 at *
    refine tkA 0 62 hS0 ?_
    refine tkB 1 63 hS0 (fun w hSw => hSw.1) ?_
    refine tkA 2 64 hS0 ?_
    refine tkA 3 65 hS0 ?_
    refine tkC 4 66 hS0 (fun w' hSw => load_mid_run 37 _ rfl b (off + i * 6) rfl [.int .i64 k, .int .i64 x.objects, .int .i64 x.granules, .int .i64 x.slots, .int .i64 x.refs, .int .i64 x.nils] _ hSw.2.2.1 Tryz.underlying37 rfl hsk) ?_
    refine tkA 5 67 hS0 ?_
    refine tkB 6 68 hS0 (fun w hSw => hSw.2.1) ?_
    refine tkA 7 69 hS0 ?_
    refine tkA 8 70 hS0 ?_
    refine tkC 9 71 hS0 (fun w' hSw => load_mid_run 37 _ rfl b2 (off2 + i * 6) rfl [.int .i64 k, .int .i64 x.objects, .int .i64 x.granules, .int .i64 x.slots, .int .i64 x.refs, .int .i64 x.nils] _ hSw.2.2.2 Tryz.underlying37 rfl hsk) ?_
    refine tkA 10 72 hS0 ?_
    refine wpAnyH_done (by kernel_rfl) ?_ _
    refine NoPanic.normal ?_
    clear hS0
    go_wp2_with fail
    go_roundw
    case rel => exact ⟨i + 1, by omega, by go_num, HV9.out⟩
    case measure => simp [intOf]; omega
  · obtain rfl : i = ss.length := by omega
    have hnl : ¬ ((ss.length : Nat) : Int) < (ss.length : Int) := by omega
    clear V
    go_wp2_with fail
    go_ret
    exact ⟨rfl, HV.out.tail.tail⟩
end
section
open Go Go.RowKit Go.Shelf Go.IntWalk
theorem builder_below {T e : TypeId} {B b : Nat} {bs : List Value} {w w' : World} (h : Lib.IsBuilder T e B b bs w) (hB : Below w.heap.size w w') : Lib.IsBuilder T e B b bs w' := by
 have h1 : ∀ p, Lib.BuilderAt T e B b p bs w → Lib.BuilderAt T e B b p bs w' := fun p hp => by
  have hlt := hp.lt
  obtain ⟨h1, v, h2, h3, h4⟩ := hp
  exact ⟨h1, v, (hB.block b hlt).trans h2, h3.kept (row := none) ⟨hB.os, hB.tape, hB.output, hB.size, fun b hb _ => hB.block b hb⟩ (by cases v.ownBlock <;> simp), h4⟩
 rcases h with h | h
 · exact .inl (h1 _ h)
 · exact .inr (h1 _ h)
def ln (s : List UInt8) (l : List Int) : List UInt8 := s ++ lnW l ++ [10]
def sType : List UInt8 := [116, 121, 112, 101]
def sGaps : List UInt8 := [103, 97, 112, 115]
def sRefs : List UInt8 := [114, 101, 102, 115]
def kpInts (k : Nat) (x : Kp) : List Int := [(k : Int), (x.objects : Int), (x.granules : Int), (x.slots : Int), (x.refs : Int), (x.nils : Int)]
def txTypes (K : Nat → Kp) (ss : List Nat) : List UInt8 := ss.flatMap fun k => ln sType (kpInts k (K k))
theorem txTypes_next {K : Nat → Kp} {ss : List Nat} {j k : Nat} (h : ss[j]? = some k) : txTypes K (ss.take (j + 1)) = txTypes K (ss.take j) ++ ln sType (kpInts k (K k)) := by
 rw [take_nextA h]
 unfold txTypes
 rw [List.flatMap_append]
 simp
theorem ln_len {s : List UInt8} {l : List Int} (hs : s.length ≤ 4) (hl : l.length ≤ 6) (h : ∀ n ∈ l, I64 n) : (ln s l).length ≤ 137 := by
 have := lnW_len h
 unfold ln
 rw [List.length_append, List.length_append, List.length_singleton]
 omega
theorem txTypes_len {K : Nat → Kp} {ss : List Nat} (h : ∀ k ∈ ss, ∀ n ∈ kpInts k (K k), I64 n) : (txTypes K ss).length ≤ ss.length * 137 := by
 induction ss with
 | nil => simp [txTypes]
 | cons k l ih =>
  have h1 := ln_len (s := sType) (l := kpInts k (K k)) (by decide) (by simp [kpInts]) (h k (List.mem_cons_self ..))
  have h2 := ih fun m hm => h m (List.mem_cons_of_mem _ hm)
  have h4 : txTypes K (k :: l) = ln sType (kpInts k (K k)) ++ txTypes K l := rfl
  rw [h4, List.length_append, List.length_cons, Nat.succ_mul]
  omega
theorem sline_new {L : List Blk} {w0 : World} (w : World) (T : Turn [] w0 L w) (s : List UInt8) (hs : s.length ≤ 4) (l : List Int) (hl : l.length ≤ 6) (h : ∀ n ∈ l, I64 n) (ht : TabW w0) :
  Calls Tryz.prog 132 #[.string ⟨s.toArray⟩, .slice (some ⟨w.heap.size, 0, none⟩) l.length l.length] (w.alloc (.cells (l.map (Value.int .i64)).toArray 3)) fun e w' => e = .returned (.string ⟨(ln s l).toArray⟩) ∧ Turn [] w0 L w' := by
 have T1 := T.alloc (.cells (l.map (Value.int .i64)).toArray 3)
 have hr : Row 3 1 (some ⟨w.heap.size, 0, none⟩) l.length l.length (l.map (Value.int .i64)) [(w.heap.size, .cells (l.map (Value.int .i64)).toArray 3)] := Row.lit _ _ _ (by simp) (by unfold maxLen; omega)
 have hS := hr.src (R := L) T1.has
 refine (sline _ s _ l.length l (by omega) (by omega) h hS (Lib.tabBelow_of_tabIs ht _ T1.below)).mono ?_
 rintro e w' ⟨rfl, T2⟩
 exact ⟨rfl, (T1.call T2.below).tail⟩
def txAll (K : Nat → Kp) (ss : List Nat) (x1 x2 x3 x4 x5 x6 : Int) : List UInt8 := txTypes K ss ++ ln sGaps [x1, x2, x3, x4] ++ ln sRefs [x5, x6]
set_option maxRecDepth 100000 in
set_option maxHeartbeats 6400000 in
theorem stext (w : World) (ao : Option Addr) (cap : Nat) (ss : List Nat) (K : Nat → Kp) (hs : ss.length ≤ 65536) (hS : Src w ao ss.length cap 6 (ss.flatMap fun k => kpv k (K k))) (x1 x2 x3 x4 x5 x6 : Int) (hx1 : ∀ n ∈ [x1, x2, x3, x4], I64 n) (hx2 : ∀ n ∈ [x5, x6], I64 n) (hK : ∀ k ∈ ss, ∀ n ∈ kpInts k (K k), I64 n) (ht : TabW w) :
  Calls Tryz.prog 53 #[.agg #[.slice ao ss.length cap, .int .i64 x1, .int .i64 x2, .int .i64 x3, .int .i64 x4, .int .i64 x5, .int .i64 x6]] w fun e w' => e = .returned (.string ⟨(txAll K ss x1 x2 x3 x4 x5 x6).toArray⟩) ∧ Below w.heap.size w w' := by
 obtain ⟨n1, hn1⟩ : ∃ n1, w.heap.size = n1 := ⟨_, rfl⟩
 have T0 := (Turn.refl (Has.nil w)).alloc (.cells #[.slice ao ss.length cap, .int .i64 x1, .int .i64 x2, .int .i64 x3, .int .i64 x4, .int .i64 x5, .int .i64 x6] 32)
 have hsz : (w.alloc (.cells #[.slice ao ss.length cap, .int .i64 x1, .int .i64 x2, .int .i64 x3, .int .i64 x4, .int .i64 x5, .int .i64 x6] 32)).heap.size = n1 + 1 := by simp [hn1]
 rw [hn1] at T0
 generalize hw1 : w.alloc (.cells #[.slice ao ss.length cap, .int .i64 x1, .int .i64 x2, .int .i64 x3, .int .i64 x4, .int .i64 x5, .int .i64 x6] 32) = w1 at *
 have hB1 := heap_alloc_new w1 (.cells #[.pointer none, .slice none 0 0] 242)
 have T1 := (Turn.refl (Has.nil w1)).alloc (.cells #[.pointer none, .slice none 0 0] 242)
 have hib : Lib.IsBuilder 242 5 (n1 + 1) (n1 + 1) (Lib.byteCells []) (w1.alloc (.cells #[.pointer none, .slice none 0 0] 242)) := by
  refine .inl ⟨Nat.le_refl _, .slice none 0 0, ?_, World.ownsRow_nil _ _ _ _, by simp [Value.ownBlock]⟩
  have := T1.has.own w1.heap.size _ (List.mem_cons_self ..)
  rw [hsz] at this
  exact this
 have hb1 : Below (n1 + 1) w1 (w1.alloc (.cells #[.pointer none, .slice none 0 0] 242)) := by
  have := T1.below
  rw [hsz] at this
  exact this
 have HT0 := uh T0
 have HSr := uh (fun w' (hB : Below w1.heap.size w1 w') => (hS.below T0.below).below hB)
 have Ht := uh (Lib.tabBelow_of_tabIs ht)
 have HI := uh (⟨hib, hb1⟩ : Lib.IsBuilder 242 5 (n1 + 1) (n1 + 1) (Lib.byteCells []) (w1.alloc (.cells #[.pointer none, .slice none 0 0] 242)) ∧ Below (n1 + 1) w1 (w1.alloc (.cells #[.pointer none, .slice none 0 0] 242)))
 have HK := uh hK
 have hsk := sz_kept
 have hb1' : Below w1.heap.size w1 (w1.alloc (.cells #[.pointer none, .slice none 0 0] 242)) := by rw [hsz]; exact hb1
 have p0 : (w1.alloc (.cells #[.pointer none, .slice none 0 0] 242)).cell? ⟨n1, 0, none⟩ = some (.slice ao ss.length cap) := (T0.call hb1').cell1 0
 clear hS ht T0 T1 hib hb1 hB1 hK
 go_enter Tryz.func53, Tryz.ntmps53
 go_wp2_with fail
 clear p0
 go_loopw [9] (fun v9 wr => ∃ (j : Nat), j ≤ ss.length ∧ v9 = .int .i64 j ∧ Lib.IsBuilder 242 5 (n1 + 1) (n1 + 1) (Lib.byteCells (txTypes K (ss.take j))) wr ∧ Below (n1 + 1) w1 wr) (fun v9 _ => ss.length - (intOf v9).toNat)
 case atStart => exact ⟨0, Nat.zero_le _, by go_num, HI.out.1, HI.out.2⟩
 case round =>
  clear HI
  obtain ⟨j, hj, rfl, hI, hB⟩ := hrel
  have hB' : Below w1.heap.size w1 wr := by rw [hsz]; exact hB
  have hwr : n1 + 1 ≤ wr.heap.size := by have := hB'.size; omega
  have T2 := HT0.out.call hB'
  have hTw := Ht.out wr T2.below
  by_cases hlt : j < ss.length
  · have hlt' : (j : Int) < (ss.length : Int) := by omega
    obtain ⟨k, hk⟩ : ∃ k, ss[j]? = some k := ⟨ss[j], List.getElem?_eq_getElem hlt⟩
    have hS8 := HSr.out _ hB'
    obtain ⟨b, off, rfl, -⟩ := hS8.form (by rw [kps_length]; omega)
    have hrg := hS8.kp hk
    have Hnx := uh (txTypes_next (K := K) hk)
    have hki := HK.out k (List.mem_of_getElem? hk)
    have hacc := txTypes_len (K := K) (ss := ss.take j) (fun m hm => HK.out m (List.mem_of_mem_take hm))
    rw [List.length_take] at hacc
    generalize K k = x at *
    have Hki := uh hki
    have hrg2 : wr.rangeAt b (off + j * 6) [.int .i64 k, .int .i64 x.objects, .int .i64 x.granules, .int .i64 x.slots, .int .i64 x.refs, .int .i64 x.nils] := hrg
    have T3 := (Turn.refl (Has.nil wr)).alloc (.cells #[.int .i64 0, .int .i64 0, .int .i64 0, .int .i64 0, .int .i64 0, .int .i64 0] 37)
    have hth : (wr.alloc (.cells #[.int .i64 0, .int .i64 0, .int .i64 0, .int .i64 0, .int .i64 0, .int .i64 0] 37)).there wr.heap.size 0 6 := T3.there1
    have HT3 := uh (T3.laid [.int .i64 k, .int .i64 x.objects, .int .i64 x.granules, .int .i64 x.slots, .int .i64 x.refs, .int .i64 x.nils] rfl)
    have hok := kp_one k x
    have HIB := uh (⟨hI, hB⟩ : Lib.IsBuilder 242 5 (n1 + 1) (n1 + 1) (Lib.byteCells (txTypes K (ss.take j))) wr ∧ Below (n1 + 1) w1 wr)
    have HTw := uh hTw
    clear hrg T3 T2 hTw hB' hI hB hk hS8 hki
    generalize txTypes K (ss.take j) = acc at *
    go_wp2_with (first
     | (show wpList _ _ _ (⟨_, Op.load 37 _, _, _, _, _⟩ :: _) _ _; refine wpList_load_mid rfl 37 _ rfl b (off + j * 6) rfl _ _ hrg2 Tryz.underlying37 rfl hsk ?_; clear hrg2)
     | (show wpList _ _ _ (⟨_, Op.store 37 _ _, _, _, _, _⟩ :: _) _ _; refine wpList_store_mid rfl 37 _ _ rfl wr.heap.size 0 #[.int .i64 k, .int .i64 x.objects, .int .i64 x.granules, .int .i64 x.slots, .int .i64 x.refs, .int .i64 x.nils] rfl rfl hth hsk hok ?_; clear hth; generalize hw3 : (wr.alloc (.cells #[.int .i64 0, .int .i64 0, .int .i64 0, .int .i64 0, .int .i64 0, .int .i64 0] 37)).setCells wr.heap.size 0 [.int .i64 k, .int .i64 x.objects, .int .i64 x.granules, .int .i64 x.slots, .int .i64 x.refs, .int .i64 x.nils] = w3 at *; generalize hnb : wr.heap.size = nb at *; have c0 := HT3.out.cell1 0; have c1 := HT3.out.cell1 1; have c2 := HT3.out.cell1 2; have c3 := HT3.out.cell1 3; have c4 := HT3.out.cell1 4; have c5 := HT3.out.cell1 5; clear hw3)
     | fail)
    refine (sline_new w3 (Turn.refl (Has.nil w3)) sType (by decide) (kpInts k x) (by simp [kpInts]) Hki.out (Lib.tabBelow_of_tabIs HTw.out _ HT3.out.below)).mono ?_
    rintro e w5 ⟨rfl, T5⟩
    have hB5 := (HT3.out.call T5.below).below
    have h9 := builder_below HIB.out.1 hB5
    have hlnl := ln_len (s := sType) (l := kpInts k x) (by decide) (by simp [kpInts]) Hki.out
    have hsz5 := hB5.size
    have HW := uh (bwrite (n1 + 1) (n1 + 1) _ ⟨(ln sType (kpInts k x)).toArray⟩ w5 h9 (by rw [Lib.byteCells_length]; show acc.length + (ln sType (kpInts k x)).toArray.size ≤ _; rw [List.size_toArray]; omega) (by omega))
    have HB9 := uh (HIB.out.2.trans (hB5.mono (by omega)))
    clear h9 hB5 T5 HIB HT3 c0 c1 c2 c3 c4 c5
    go_wp2_with fail
    refine HW.out.mono ?_
    rintro e w7 ⟨rfl, h10, hB7⟩
    have HF := uh (⟨.inr h10, HB9.out.trans hB7⟩ : Lib.IsBuilder 242 5 (n1 + 1) (n1 + 1) (Lib.byteCells acc ++ Lib.strCells ⟨(ln sType (kpInts k x)).toArray⟩) w7 ∧ Below (n1 + 1) w1 w7)
    clear h10 hB7 HW HB9
    go_wp2_with fail
    go_roundw
    case rel =>
     refine ⟨j + 1, by omega, by go_num, ?_, HF.out.2⟩
     rw [Hnx.out]
     have e1 : Lib.byteCells (acc ++ ln sType (kpInts k x)) = Lib.byteCells acc ++ Lib.strCells ⟨(ln sType (kpInts k x)).toArray⟩ := by rw [Lib.strCells_toArray]; simp [Lib.byteCells]
     rw [e1]
     exact HF.out.1
    case measure => simp [intOf]; omega
  · obtain rfl : j = ss.length := by omega
    have hnl : ¬ ((ss.length : Nat) : Int) < (ss.length : Int) := by omega
    rw [List.take_length] at hI
    have hacc := txTypes_len (K := K) (ss := ss) HK.out
    have c1 := T2.cell1 1
    have c2 := T2.cell1 2
    have c3 := T2.cell1 3
    have c4 := T2.cell1 4
    have HT2 := uh T2
    have HTw := uh hTw
    have HIB := uh (⟨hI, hB⟩ : Lib.IsBuilder 242 5 (n1 + 1) (n1 + 1) (Lib.byteCells (txTypes K ss)) wr ∧ Below (n1 + 1) w1 wr)
    have Hx1 := uh hx1
    have Hx2 := uh hx2
    clear T2 hTw hI hB hB' hx1 hx2
    have Htx := uh (show txAll K ss x1 x2 x3 x4 x5 x6 = txTypes K ss ++ ln sGaps [x1, x2, x3, x4] ++ ln sRefs [x5, x6] from rfl)
    generalize txTypes K ss = acc at *
    go_wp2_with fail
    refine (sline_new wr (Turn.refl (Has.nil wr)) sGaps (by decide) [x1, x2, x3, x4] (by simp) Hx1.out HTw.out).mono ?_
    rintro e w5 ⟨rfl, T5⟩
    have hB5 := T5.below
    have h9 := builder_below HIB.out.1 hB5
    have hlnl := ln_len (s := sGaps) (l := [x1, x2, x3, x4]) (by decide) (by simp) Hx1.out
    have hsz5 := hB5.size
    have HW := uh (bwrite (n1 + 1) (n1 + 1) _ ⟨(ln sGaps [x1, x2, x3, x4]).toArray⟩ w5 h9 (by rw [Lib.byteCells_length]; show acc.length + (ln sGaps [x1, x2, x3, x4]).toArray.size ≤ _; rw [List.size_toArray]; omega) (by omega))
    have HB9 := uh (HIB.out.2.trans (hB5.mono (by omega)))
    clear h9 hB5 T5 HIB c1 c2 c3 c4 HT2 HTw
    go_wp2_with fail
    refine HW.out.mono ?_
    rintro e w7 ⟨rfl, h10, hB7⟩
    rw [Lib.strCells_toArray, show Lib.byteCells acc ++ Lib.byteCells (ln sGaps [x1, x2, x3, x4]) = Lib.byteCells (acc ++ ln sGaps [x1, x2, x3, x4]) by simp [Lib.byteCells]] at h10
    have hB8 : Below (n1 + 1) w1 w7 := HB9.out.trans hB7
    have hB8' : Below w1.heap.size w1 w7 := by rw [hsz]; exact hB8
    have hsz7 := hB8'.size
    have T7 := HT0.out.call hB8'
    have c5 := T7.cell1 5
    have c6 := T7.cell1 6
    have HTw := uh (Ht.out w7 T7.below)
    have HIB := uh (⟨.inr h10, hB8⟩ : Lib.IsBuilder 242 5 (n1 + 1) (n1 + 1) (Lib.byteCells (acc ++ ln sGaps [x1, x2, x3, x4])) w7 ∧ Below (n1 + 1) w1 w7)
    clear h10 hB7 hB8 hB8' T7 HW HB9
    go_wp2_with fail
    refine (sline_new w7 (Turn.refl (Has.nil w7)) sRefs (by decide) [x5, x6] (by simp) Hx2.out HTw.out).mono ?_
    rintro e w8 ⟨rfl, T8⟩
    have hB5 := T8.below
    have h9 := builder_below HIB.out.1 hB5
    have hlnm := ln_len (s := sRefs) (l := [x5, x6]) (by decide) (by simp) Hx2.out
    have hsz8 := hB5.size
    have HW := uh (bwrite (n1 + 1) (n1 + 1) _ ⟨(ln sRefs [x5, x6]).toArray⟩ w8 h9 (by rw [Lib.byteCells_length, List.length_append]; show acc.length + _ + (ln sRefs [x5, x6]).toArray.size ≤ _; rw [List.size_toArray]; omega) (by omega))
    have HB9 := uh (HIB.out.2.trans (hB5.mono (by omega)))
    clear h9 hB5 T8 HIB c5 c6 HTw
    go_wp2_with fail
    refine HW.out.mono ?_
    rintro e w9 ⟨rfl, h10, hB9⟩
    rw [Lib.strCells_toArray, show Lib.byteCells (acc ++ ln sGaps [x1, x2, x3, x4]) ++ Lib.byteCells (ln sRefs [x5, x6]) = Lib.byteCells (acc ++ ln sGaps [x1, x2, x3, x4] ++ ln sRefs [x5, x6]) by simp [Lib.byteCells]] at h10
    have hB10 : Below (n1 + 1) w1 w9 := HB9.out.trans hB9
    have hsz9 := hB10.size
    have HS := uh (Tryz.Builder_String_any (n1 + 1) (n1 + 1) _ w9 (.inr h10) (by omega))
    have HB10 := uh hB10
    clear h10 hB9 hB10 HW HB9
    go_wp2_with fail
    refine HS.out.mono ?_
    rintro e w10 ⟨rfl, hB11⟩
    have HF := uh (HT0.out.call (show Below w1.heap.size w1 w10 by rw [hsz]; exact HB10.out.trans hB11)).below
    clear hB11 HS HB10
    go_wp2_with fail
    go_ret
    rw [Htx.out]
    refine ⟨?_, by have := HF.out; first | exact this | rwa [hn1] at this⟩
    rw [List.append_assoc]
    rfl
end
section
open Go Go.RowKit Go.IntWalk
def aL : List Ty := [⟨2, 0, 0⟩]
def aH : Hd := ⟨1, 1, 3, 2⟩
def aC : Ce := (0, gapHd 8)
def aW0 : List Nat := lay (List.replicate 16 0) 0 8
def aW1 : List Nat := putW aW0 aC 1 aH
def aW2 : List Nat := aW1.set 3 1048578
def aCs : List Ce := [(0, gapHd 1), (1, aH), (3, gapHd 5)]
theorem aMay : (∀ t ∈ aL, t.may) ∧ aL.length ≤ 64 := ⟨by intro t ht; obtain rfl : t = ⟨2, 0, 0⟩ := List.mem_singleton.1 ht; decide, by decide⟩
theorem aTy : ∀ t ∈ aL, TyIn t := by
 intro t ht
 obtain rfl : t = ⟨2, 0, 0⟩ := List.mem_singleton.1 ht
 constructor <;> decide
theorem aGood0 : Good aL aW0 [aC] := Good.new (n := 16) aMay.1 aMay.2 (by decide) (by decide) (by decide)
theorem aFits : fits aL aH := ⟨by decide, fun _ => ⟨⟨2, 0, 0⟩, rfl, by decide, by decide⟩⟩
theorem aGood1 : Good aL aW1 aCs := Good.put (a := []) (b := []) (c := aC) aGood0 (g := 1) (hd := aH) aFits (by decide) (by decide)
theorem aGood2 : Good aL aW2 aCs := aGood1.slot (c := (1, aH)) (by unfold aCs; simp) (j := 3) (v := 1048578) (by decide) (by decide) (by decide)
theorem aObjs : objs aCs = [(1, aH)] := rfl
theorem aGaps : gaps aCs = [(0, gapHd 1), (3, gapHd 5)] := rfl
theorem aKept : keptOf aL aW2 (ofType (objs aCs) 1) = ⟨1, 2, 3, 3, 2⟩ := by rw [aObjs]; rfl
theorem aFree : freeOf aCs = 6 ∧ bigOf (gaps aCs) = 5 ∧ brokenOf 6 5 = 166 := by decide
theorem aCls : clsOf (sizesOf (objs aCs)) = [0, 1] ∧ clsOf (sizesOf (gaps aCs)) = [1, 0, 1] := by rw [aObjs, aGaps]; decide
theorem one_list {ss : List Nat} (h : ss.Nodup) (hm : ∀ k, k ∈ ss ↔ ∃ d ∈ objs aCs, d.2.typ = k) : ss = [1] := by
 have h1 : ∀ k, k ∈ ss ↔ k = 1 := fun k => by
  rw [hm k, aObjs]
  constructor
  · rintro ⟨d, hd, he⟩
    obtain rfl : d = (1, aH) := List.mem_singleton.1 hd
    exact he.symm
  · rintro rfl
    exact ⟨_, List.mem_singleton.2 rfl, rfl⟩
 match ss, h, h1 with
 | [], _, h1 => exact absurd ((h1 1).2 rfl) (by simp)
 | [a], _, h1 => rw [(h1 a).1 (by simp)]
 | a :: b :: l, h, h1 =>
  have ha := (h1 a).1 (by simp)
  have hb := (h1 b).1 (by simp)
  rw [ha, hb] at h
  simp at h
theorem aEdges : edgesOf aL aW2 aCs = 1 := by
 unfold edgesOf
 rw [aObjs]
 decide
theorem aLoose : looseTo (fun k => keptOf aL aW2 (ofType (objs aCs) k)) [1] = 1 := by
 unfold looseTo
 rw [List.map_cons, List.map_nil]
 simp only [aKept]
 rfl
def aText : List UInt8 := [116, 121, 112, 101, 32, 49, 32, 49, 32, 50, 32, 51, 32, 51, 32, 50, 10, 103, 97, 112, 115, 32, 50, 32, 54, 32, 53, 32, 49, 54, 54, 10, 114, 101, 102, 115, 32, 49, 32, 48, 10]
theorem aTextIs : txAll (fun k => keptOf aL aW2 (ofType (objs aCs) k)) [1] 2 6 5 166 1 0 = aText := by
 unfold txAll txTypes
 rw [List.flatMap_cons, List.flatMap_nil]
 simp only [aKept]
 decide +kernel
theorem aRow : ([1].flatMap fun k => kpv k (keptOf aL aW2 (ofType (objs aCs) k))) = [.int .i64 1, .int .i64 1, .int .i64 2, .int .i64 3, .int .i64 3, .int .i64 2] := by
 rw [List.flatMap_cons, List.flatMap_nil]
 simp only [aKept]
 rfl
theorem aVal (ao : Option Addr) (cap : Nat) : stVal ao cap [1] aL aW2 aCs = .agg #[.slice ao 1 cap, .int .i64 2, .int .i64 6, .int .i64 5, .int .i64 166, .int .i64 1, .int .i64 0] := by
 unfold stVal
 rw [aLoose, aEdges, aFree.1, aFree.2.1, aFree.2.2]
 rfl
end
section
open Go Go.RowKit Go.IntWalk
set_option maxRecDepth 100000 in
theorem sstats_nil (w : World) : Calls Tryz.prog 11 #[.pointer none] w fun e w' => e = .returned (.tuple #[.agg #[.slice none 0 0, .int .i64 0, .int .i64 0, .int .i64 0, .int .i64 0, .int .i64 0, .int .i64 0], .int .i64 1]) ∧ Turn [] w [] w' := by
 obtain ⟨n2, hn2⟩ : ∃ n2, w.heap.size = n2 := ⟨_, rfl⟩
 have T0 := (Turn.refl (Has.nil w)).alloc (.cells #[.slice none 0 0, .int .i64 0, .int .i64 0, .int .i64 0, .int .i64 0, .int .i64 0, .int .i64 0] 32)
 rw [hn2] at T0
 have HT0 := uh T0
 have hrs := T0.range1
 have hth := T0.there1
 have hss := sz_stats
 have hos : (#[.slice none 0 0, .int .i64 0, .int .i64 0, .int .i64 0, .int .i64 0, .int .i64 0, .int .i64 0] : Array Value).all (·.oneCell') = true := all_one (cs := [.slice none 0 0, .int .i64 0, .int .i64 0, .int .i64 0, .int .i64 0, .int .i64 0, .int .i64 0]) (by simp [Value.oneCell'])
 clear T0
 go_enter Tryz.func11, Tryz.ntmps11
 go_wp2_with (first
  | (show wpList _ _ _ (⟨_, Op.load 32 _, _, _, _, _⟩ :: _) _ _; refine wpList_load_mid rfl 32 _ rfl n2 0 rfl [.slice none 0 0, .int .i64 0, .int .i64 0, .int .i64 0, .int .i64 0, .int .i64 0, .int .i64 0] _ hrs Tryz.underlying32 rfl hss ?_; clear hrs)
  | (show wpList _ _ _ (⟨_, Op.store 32 _ _, _, _, _, _⟩ :: _) _ _; refine wpList_store_mid rfl 32 _ _ rfl n2 0 #[.slice none 0 0, .int .i64 0, .int .i64 0, .int .i64 0, .int .i64 0, .int .i64 0, .int .i64 0] rfl rfl hth hss hos ?_; clear hth)
  | fail)
 have T16 := HT0.out.laid [.slice none 0 0, .int .i64 0, .int .i64 0, .int .i64 0, .int .i64 0, .int .i64 0, .int .i64 0] rfl
 refine bodyPost_ret (results_two Tryz.results11 _ _ n2 [.slice none 0 0, .int .i64 0, .int .i64 0, .int .i64 0, .int .i64 0, .int .i64 0, .int .i64 0] _ rfl T16.range1 Tryz.underlying32 rfl hss) rfl ?_
 exact ⟨rfl, T16.tail⟩
theorem VwAt.of4 {l L M : List Blk} {w w' : World} {vb a : Nat} {g : Int} {h : Hd} {t : Ty} (T : Turn l w (L ++ (M ++ [(vb, .cells (viewCells a g h t).toArray 238)])) w') : VwAt w' vb a g h t :=
 T.has.range (b := vb) (c := (viewCells a g h t).toArray) (e := 238) (f := (0, 0)) (by simp)
set_option maxRecDepth 100000 in
set_option maxHeartbeats 6400000 in
theorem alive32 (w : World) (hF : Fields w) (ht : TabW w) : Calls Tryz.prog 9 #[] w fun e w' => e = .returned (.bool true) ∧ Below w.heap.size w w' := by
 have HF := uh hF
 have Ht := uh (Lib.tabBelow_of_tabIs ht)
 obtain ⟨n1, hn1⟩ : ∃ n1, w.heap.size = n1 := ⟨_, rfl⟩
 have T0 := (Turn.refl (Has.nil w)).alloc (.cells #[.int .u8 2, .int .i64 0, .int .u64 0] 49)
 have hr : Row 49 3 (some ⟨w.heap.size, 0, none⟩) 1 1 [.int .u8 2, .int .i64 0, .int .u64 0] [(w.heap.size, .cells #[.int .u8 2, .int .i64 0, .int .u64 0] 49)] := Row.lit (size := 3) w.heap.size #[.int .u8 2, .int .i64 0, .int .u64 0] 1 rfl (by decide)
 have hS : Src (w.alloc (.cells #[.int .u8 2, .int .i64 0, .int .u64 0] 49)) (some ⟨w.heap.size, 0, none⟩) aL.length 1 3 (tys aL) := hr.src (R := []) T0.has
 rw [hn1] at T0 hS
 have HS := uh hS
 have HT0 := uh T0
 clear hF ht hr hS T0
 go_enter Tryz.func9, Tryz.ntmps9
 go_wp2_with fail
 refine tnew _ aL (some ⟨n1, 0, none⟩) 1 HS.out aTy (by decide) _ (uh (fun _ w1 lt hti T1 => ?_)) (uh (fun h => absurd aMay h))
 obtain ⟨tao, tcap, hTab⟩ := hti.tab (R := []) (by rw [List.append_nil]; exact T1.has)
 have hB1 := (HT0.out.call T1.below).below
 have HTab := uh hTab
 have HB1 := uh hB1
 have HF1 := uh (range_below HF.out hB1)
 have Hsn := uh (snew w1 (range_below HF.out hB1) (w.alloc (.cells #[.int .u8 2, .int .i64 0, .int .u64 0] 49)).heap.size 16 (by decide))
 generalize (w.alloc (.cells #[.int .u8 2, .int .i64 0, .int .u64 0] 49)).heap.size = tb at *
 clear T1 hti HS hTab hB1 HT0
 go_wp2_with fail
 refine Hsn.out.mono ?_
 rintro e w2 ⟨sb, l, rfl, ⟨a, aw, bb, cw, lb, hbit, rfl⟩, T2⟩
 have T2' : Turn [] w1 (arBlks a aw aW0 cw ++ (spBlk sb a tb bb :: lb) ++ []) w2 := by rw [List.append_nil]; exact T2
 have hA2 := spAt_of T2' HTab.out HF1.out (by decide)
 have HP := uh (callsIn_wide.1 (sput_in 5 (by omega) w2 sb a aw tb bb tao tcap aL hA2 hbit (by intro v hv; simp at hv; omega) (by decide) (fun x hx => by cases hx) T2' HTab.out HF1.out (by decide) aGood0.u64 aTy (by decide) [aC] aGood0.chain 1 1 3 2 (by decide) (by decide) (by decide) (by decide)))
 clear T2 T2' hA2 Hsn hbit
 go_wp2_with fail
 refine HP.out.mono ?_
 rintro e w3 ⟨er, l', rfl, T3, hE⟩
 rcases hE with ⟨rfl, rfl, hno⟩ | ⟨rfl, c, hc, htk, B', lb', cw', hset, hbit', rfl⟩
 · exact absurd (show takes aC 1 2 by unfold takes; decide) (hno aC (by simp))
 obtain rfl : c = aC := List.mem_singleton.1 hc
 have T3' : Turn [] w1 (arBlks a aw aW1 cw' ++ (spBlk sb a tb bb :: lb') ++ []) w3 := T3
 have hA3 := spAt_of T3' HTab.out HF1.out (by decide)
 have Har := uh (sarena w3 (a := ⟨a, 0, none⟩) rfl hA3.c0)
 have hof := sof w3 hA3.fields hA3.ar aGood1.u64 aL aTy (by decide) tb tao tcap hA3.tab ((1 : Nat) : Int)
 rw [objq_of (g := 1) (h := aH) (aGood1.chain.mem (1, aH) (by unfold aCs; simp)).2.2 rfl] at hof
 have Hof := uh hof
 have HT3 := uh T3'
 clear T3 T3' hA3 hof htk hset hbit' hc HP
 go_wp2_with fail
 refine Har.out.mono ?_
 rintro e w4 ⟨rfl, hw⟩
 subst hw
 go_wp2_with fail
 refine Hof.out.mono ?_
 rintro e w5 ⟨vb, rfl, T4⟩
 have HT4 := uh ((HT3.out.grow T4).perm (l2 := arBlks a aw aW1 cw' ++ ((spBlk sb a tb bb :: lb') ++ [(vb, .cells (viewCells a ((1 : Nat) : Int) aH (tyAt aL aH.typ)).toArray 238)])) (perm_of fun c => by simp; omega))
 clear T4 Har Hof HT3
 go_wp2_with fail
 refine (saddr w5 1 (by decide)).mono ?_
 rintro e w6 ⟨rfl, hw⟩
 subst hw
 have Hst := uh (vstore w6 HT4.out (by decide) (VwAt.of4 HT4.out) (aTy _ (List.mem_singleton.2 rfl)) (by decide) (by decide) 0 1048578 (by decide) (by decide))
 clear HT4
 go_wp2_with fail
 refine Hst.out.mono ?_
 rintro e w7 ⟨rfl, n', T7⟩
 have T7' : Turn [] w1 (arBlks a aw aW2 n' ++ (spBlk sb a tb bb :: lb') ++ [(vb, .cells (viewCells a ((1 : Nat) : Int) aH (tyAt aL aH.typ)).toArray 238)]) w7 := by rw [List.append_assoc]; exact T7
 have hA7 := spAt_of T7' HTab.out HF1.out (by decide)
 have HA := uh hA7
 have HB7 := uh (HB1.out.trans (T7'.below.mono HB1.out.size))
 have Hso := uh (sstats w7 sb a aw tb tao tcap aL hA7 (by decide) aGood2.u64 aTy (by decide) aCs aGood2.chain)
 clear Hst T7 T7' hA7
 go_wp2_with fail
 refine Hso.out.mono ?_
 rintro e w8 ⟨ss, ao, cap, l8, rfl, -, hnd, hm, hrow, T8⟩
 obtain rfl := one_list hnd hm
 rw [aVal]
 have HA8 := uh (HA.out.below T8.below)
 have hS8 := hrow.src (R := []) (by rw [List.append_nil]; exact T8.has)
 rw [aRow] at hS8
 have HS8 := uh hS8
 have HB8 := uh (HB7.out.trans (T8.below.mono HB7.out.size))
 have hss := sz_stats
 have hos : (#[.slice ao 1 cap, .int .i64 2, .int .i64 6, .int .i64 5, .int .i64 166, .int .i64 1, .int .i64 0] : Array Value).all (·.oneCell') = true := all_one (cs := [.slice ao 1 cap, .int .i64 2, .int .i64 6, .int .i64 5, .int .i64 166, .int .i64 1, .int .i64 0]) (by simp [Value.oneCell'])
 have hoz : (#[.slice none 0 0, .int .i64 0, .int .i64 0, .int .i64 0, .int .i64 0, .int .i64 0, .int .i64 0] : Array Value).all (·.oneCell') = true := all_one (cs := [.slice none 0 0, .int .i64 0, .int .i64 0, .int .i64 0, .int .i64 0, .int .i64 0, .int .i64 0]) (by simp [Value.oneCell'])
 obtain ⟨n7, hn7⟩ : ∃ n7, w8.heap.size = n7 := ⟨_, rfl⟩
 have T9 := (Turn.refl (Has.nil w8)).alloc (.cells #[.slice none 0 0, .int .i64 0, .int .i64 0, .int .i64 0, .int .i64 0, .int .i64 0, .int .i64 0] 32)
 rw [hn7] at T9
 have hth : (w8.alloc (.cells #[.slice none 0 0, .int .i64 0, .int .i64 0, .int .i64 0, .int .i64 0, .int .i64 0, .int .i64 0] 32)).there n7 0 7 := T9.there1
 have HT9 := uh (T9.laid [.slice ao 1 cap, .int .i64 2, .int .i64 6, .int .i64 5, .int .i64 166, .int .i64 1, .int .i64 0] rfl)
 clear T8 hrow hS8 hnd hm HA HB7 T9 Hso
 go_wp2_with (first
  | (show wpList _ _ _ (⟨_, Op.store 32 _ _, _, _, _, _⟩ :: _) _ _; refine wpList_store_mid rfl 32 _ _ rfl n7 0 #[.slice ao 1 cap, .int .i64 2, .int .i64 6, .int .i64 5, .int .i64 166, .int .i64 1, .int .i64 0] rfl rfl hth hss hos ?_; clear hth; generalize (w8.alloc (.cells #[.slice none 0 0, .int .i64 0, .int .i64 0, .int .i64 0, .int .i64 0, .int .i64 0, .int .i64 0] 32)).setCells n7 0 [.slice ao 1 cap, .int .i64 2, .int .i64 6, .int .i64 5, .int .i64 166, .int .i64 1, .int .i64 0] = w9 at *)
  | fail)
 refine (sstats_nil w9).mono ?_
 rintro e w10 ⟨rfl, T10⟩
 obtain ⟨n9, hn9⟩ : ∃ n9, w10.heap.size = n9 := ⟨_, rfl⟩
 have T11 := (HT9.out.call T10.below).alloc (.cells #[.slice none 0 0, .int .i64 0, .int .i64 0, .int .i64 0, .int .i64 0, .int .i64 0, .int .i64 0] 32)
 rw [hn9] at T11
 have hth : (w10.alloc (.cells #[.slice none 0 0, .int .i64 0, .int .i64 0, .int .i64 0, .int .i64 0, .int .i64 0, .int .i64 0] 32)).there n9 0 7 := T11.there1
 have HT11 := uh ((T11.laid [.slice none 0 0, .int .i64 0, .int .i64 0, .int .i64 0, .int .i64 0, .int .i64 0, .int .i64 0] rfl).tail)
 clear T10 T11 HT9
 go_wp2_with (first
  | (show wpList _ _ _ (⟨_, Op.store 32 _ _, _, _, _, _⟩ :: _) _ _; refine wpList_store_mid rfl 32 _ _ rfl n9 0 #[.slice none 0 0, .int .i64 0, .int .i64 0, .int .i64 0, .int .i64 0, .int .i64 0, .int .i64 0] rfl rfl hth hss hoz ?_; clear hth; generalize (w10.alloc (.cells #[.slice none 0 0, .int .i64 0, .int .i64 0, .int .i64 0, .int .i64 0, .int .i64 0, .int .i64 0] 32)).setCells n9 0 [.slice none 0 0, .int .i64 0, .int .i64 0, .int .i64 0, .int .i64 0, .int .i64 0, .int .i64 0] = w12 at *; have hr7 := HT11.out.range1)
  | (show wpList _ _ _ (⟨_, Op.load 32 _, _, _, _, _⟩ :: _) _ _; refine wpList_load_g 32 _ rfl (by rfl) n7 0 rfl [.slice ao 1 cap, .int .i64 2, .int .i64 6, .int .i64 5, .int .i64 166, .int .i64 1, .int .i64 0] _ hr7 Tryz.underlying32 rfl hss ?_; clear hr7)
  | fail)
 have T13 := HT11.out.alloc (.cells #[.int .i64 1, .int .i64 1, .int .i64 2, .int .i64 3, .int .i64 3, .int .i64 2] 37)
 have hR13 : Row 37 6 (some ⟨w12.heap.size, 0, none⟩) 1 1 [.int .i64 1, .int .i64 1, .int .i64 2, .int .i64 3, .int .i64 3, .int .i64 2] [(w12.heap.size, .cells #[.int .i64 1, .int .i64 1, .int .i64 2, .int .i64 3, .int .i64 3, .int .i64 2] 37)] := Row.lit (size := 6) w12.heap.size #[.int .i64 1, .int .i64 1, .int .i64 2, .int .i64 3, .int .i64 3, .int .i64 2] 1 rfl (by decide)
 have hsm := lsame (w12.alloc (.cells #[.int .i64 1, .int .i64 1, .int .i64 2, .int .i64 3, .int .i64 3, .int .i64 2] 37)) ao (some ⟨w12.heap.size, 0, none⟩) cap 1 [1] (fun k => keptOf aL aW2 (ofType (objs aCs) k)) (by decide) (by rw [aRow]; exact HS8.out.below T13.below) (by rw [aRow]; exact hR13.src (R := [(n7, .cells #[.slice ao 1 cap, .int .i64 2, .int .i64 6, .int .i64 5, .int .i64 166, .int .i64 1, .int .i64 0] 32)]) T13.has) 2 6 5 166 1 0
 refine hsm.mono ?_
 rintro e w14 ⟨rfl, T14⟩
 have HTw14 := uh (T13.call T14.below).tail
 clear T13 T14 hsm hR13 HT11
 have hc := sclasses w14 sb a aw tb tao tcap aL (HA8.out.below HTw14.out.below) (by decide) aGood2.u64 aTy (by decide) aCs aGood2.chain
 rw [aCls.1] at hc
 have Hc := uh hc
 clear hc
 go_wp2_with fail
 refine Hc.out.mono ?_
 rintro e w16a ⟨aoc, capc, lc, rfl, hrowc, Tc⟩
 have HTw16a := uh (HTw14.out.grow Tc)
 have Tcb := HTw16a.out.alloc (.cells #[.int .i64 0, .int .i64 1] 3)
 have hRc : Row 3 1 (some ⟨w16a.heap.size, 0, none⟩) 2 2 (nats [0, 1]) [(w16a.heap.size, .cells #[.int .i64 0, .int .i64 1] 3)] := Row.lit (size := 1) w16a.heap.size #[.int .i64 0, .int .i64 1] 2 rfl (by decide)
 have HIc := uh (sameints (w16a.alloc (.cells #[.int .i64 0, .int .i64 1] 3)) [0, 1] [0, 1] aoc capc (some ⟨w16a.heap.size, 0, none⟩) 2 ((hrowc.src (R := [(n7, .cells #[.slice ao 1 cap, .int .i64 2, .int .i64 6, .int .i64 5, .int .i64 166, .int .i64 1, .int .i64 0] 32)]) HTw16a.out.has).below ((Turn.refl (Has.nil w16a)).alloc (.cells #[.int .i64 0, .int .i64 1] 3)).below) (hRc.src (R := lc ++ [(n7, .cells #[.slice ao 1 cap, .int .i64 2, .int .i64 6, .int .i64 5, .int .i64 166, .int .i64 1, .int .i64 0] 32)]) Tcb.has) (by decide) (by decide))
 have HTcb := uh Tcb
 clear Tc Tcb hrowc hRc Hc
 go_wp2_with fail
 refine HIc.out.mono ?_
 rintro e w16 ⟨rfl, hBc⟩
 have HTw16 := uh ((HTcb.out.call hBc).sub (l2 := [(n7, .cells #[.slice ao 1 cap, .int .i64 2, .int .i64 6, .int .i64 5, .int .i64 166, .int .i64 1, .int .i64 0] 32)]) ((List.sublist_append_right lc _).trans (List.sublist_cons_self _ _)))
 clear hBc HIc HTcb HTw16a HTw14
 have hg := sgaps w16 sb a aw tb tao tcap aL (HA8.out.below HTw16.out.below) (by decide) aGood2.u64 aTy (by decide) aCs aGood2.chain
 rw [aCls.2] at hg
 have Hg := uh hg
 clear hg
 go_wp2_with fail
 refine Hg.out.mono ?_
 rintro e w18a ⟨aog, capg, lg, rfl, hrowg, Tg⟩
 have HTw18a := uh (HTw16.out.grow Tg)
 have Tgb := HTw18a.out.alloc (.cells #[.int .i64 1, .int .i64 0, .int .i64 1] 3)
 have hRg : Row 3 1 (some ⟨w18a.heap.size, 0, none⟩) 3 3 (nats [1, 0, 1]) [(w18a.heap.size, .cells #[.int .i64 1, .int .i64 0, .int .i64 1] 3)] := Row.lit (size := 1) w18a.heap.size #[.int .i64 1, .int .i64 0, .int .i64 1] 3 rfl (by decide)
 have HIg := uh (sameints (w18a.alloc (.cells #[.int .i64 1, .int .i64 0, .int .i64 1] 3)) [1, 0, 1] [1, 0, 1] aog capg (some ⟨w18a.heap.size, 0, none⟩) 3 ((hrowg.src (R := [(n7, .cells #[.slice ao 1 cap, .int .i64 2, .int .i64 6, .int .i64 5, .int .i64 166, .int .i64 1, .int .i64 0] 32)]) HTw18a.out.has).below ((Turn.refl (Has.nil w18a)).alloc (.cells #[.int .i64 1, .int .i64 0, .int .i64 1] 3)).below) (hRg.src (R := lg ++ [(n7, .cells #[.slice ao 1 cap, .int .i64 2, .int .i64 6, .int .i64 5, .int .i64 166, .int .i64 1, .int .i64 0] 32)]) Tgb.has) (by decide) (by decide))
 have HTgb := uh Tgb
 clear Tg Tgb hrowg hRg Hg
 go_wp2_with fail
 refine HIg.out.mono ?_
 rintro e w18 ⟨rfl, hBg⟩
 have HTw18 := uh ((HTgb.out.call hBg).sub (l2 := [(n7, .cells #[.slice ao 1 cap, .int .i64 2, .int .i64 6, .int .i64 5, .int .i64 166, .int .i64 1, .int .i64 0] 32)]) ((List.sublist_append_right lg _).trans (List.sublist_cons_self _ _)))
 clear hBg HIg HTgb HTw18a HTw16
 have hr7 := HTw18.out.range1
 go_wp2_with (first
  | (show wpList _ _ _ (⟨_, Op.load 32 _, _, _, _, _⟩ :: _) _ _; refine wpList_load_g 32 _ rfl (by rfl) n7 0 rfl [.slice ao 1 cap, .int .i64 2, .int .i64 6, .int .i64 5, .int .i64 166, .int .i64 1, .int .i64 0] _ hr7 Tryz.underlying32 rfl hss ?_; clear hr7)
  | fail)
 have htx := stext w18 ao cap [1] (fun k => keptOf aL aW2 (ofType (objs aCs) k)) (by decide) (by rw [aRow]; exact HS8.out.below HTw18.out.below) 2 6 5 166 1 0 (by unfold I64; decide) (by unfold I64; decide) (by
  intro k hk n hn
  obtain rfl : k = 1 := List.mem_singleton.1 hk
  simp only [aKept] at hn
  revert n
  unfold I64
  decide) (Ht.out w18 (HB8.out.trans (HTw18.out.below.mono HB8.out.size)))
 rw [aTextIs] at htx
 refine htx.mono ?_
 rintro e w19 ⟨rfl, hB19⟩
 have HF9 := uh (HB8.out.trans ((HTw18.out.call hB19).below.mono HB8.out.size))
 clear hB19 htx
 unfold aText
 go_wp2_with fail
 go_ret
 exact ⟨rfl, HF9.out⟩
end
section
open Go Go.RowKit
theorem typs_in {ss : List Nat} {os : List Ce} (hm : ∀ k, k ∈ ss ↔ ∃ d ∈ os, d.2.typ = k) : ∀ c ∈ os, c.2.typ ∈ ss := fun c hc => (hm _).2 ⟨c, hc, rfl⟩
theorem sumBy_one (os : List Ce) : sumBy (fun _ => 1) os = os.length := by
 induction os with
 | nil => rfl
 | cons c l ih => rw [sumBy_cons, ih, List.length_cons]; omega
theorem ofType_some {ss : List Nat} {os : List Ce} (hm : ∀ k, k ∈ ss ↔ ∃ d ∈ os, d.2.typ = k) {k : Nat} (hk : k ∈ ss) : 1 ≤ (ofType os k).length := by
 obtain ⟨d, hd, he⟩ := (hm k).1 hk
 have : d ∈ ofType os k := List.mem_filter.2 ⟨hd, by simpa using he⟩
 exact List.length_pos_of_mem this
theorem objects_sum {L : List Ty} {W : List Nat} {ss : List Nat} {os : List Ce} (hn : ss.Nodup) (hm : ∀ k, k ∈ ss ↔ ∃ d ∈ os, d.2.typ = k) : (ss.map fun k => (keptOf L W (ofType os k)).objects).sum = os.length := by
 have h := sum_types (f := fun _ => 1) hn (typs_in hm)
 rw [sumBy_one] at h
 rw [← h]
 congr 1
 exact List.map_congr_left fun k _ => (sumBy_one _).symm
theorem granules_sum {L : List Ty} {W : List Nat} {ss : List Nat} {os : List Ce} (hn : ss.Nodup) (hm : ∀ k, k ∈ ss ↔ ∃ d ∈ os, d.2.typ = k) : (ss.map fun k => (keptOf L W (ofType os k)).granules).sum = sumBy cSize os := sum_types hn (typs_in hm)
theorem len_sum {f : Nat → Nat} {ss : List Nat} (h : ∀ k ∈ ss, 1 ≤ f k) : ss.length ≤ (ss.map f).sum := by
 induction ss with
 | nil => simp
 | cons a l ih =>
  have h1 := h a (List.mem_cons_self ..)
  have h2 := ih fun k hk => h k (List.mem_cons_of_mem _ hk)
  rw [List.map_cons, List.sum_cons, List.length_cons]
  omega
theorem ss_len {ss : List Nat} {os : List Ce} (hn : ss.Nodup) (hm : ∀ k, k ∈ ss ↔ ∃ d ∈ os, d.2.typ = k) : ss.length ≤ os.length := by
 have h := sum_types (f := fun _ => 1) hn (typs_in hm)
 rw [sumBy_one] at h
 rw [← h]
 exact len_sum fun k hk => by rw [sumBy_one]; exact ofType_some hm hk
theorem sum_take {f : Nat → Nat} (ss : List Nat) (i : Nat) : ((ss.take i).map f).sum ≤ (ss.map f).sum := by
 conv => rhs; rw [← List.take_append_drop i ss]
 rw [List.map_append, List.sum_append]
 exact Nat.le_add_right ..
theorem sum_snoc {f : Nat → Nat} {ss : List Nat} {i k : Nat} (h : ss[i]? = some k) : ((ss.take (i + 1)).map f).sum = ((ss.take i).map f).sum + f k := by
 rw [take_nextA h, List.map_append, List.sum_append]
 simp
theorem rises_next {ss : List Nat} (hp : ss.Pairwise (· ≤ ·)) (hn : ss.Nodup) {i j k : Nat} (hj : ss[i]? = some j) (hk : ss[i + 1]? = some k) : j < k := by
 have h1 : ss.Pairwise (· < ·) := (hp.and hn).imp fun h => by omega
 obtain ⟨a1, a2⟩ := List.getElem?_eq_some_iff.1 hj
 obtain ⟨b1, b2⟩ := List.getElem?_eq_some_iff.1 hk
 have := List.pairwise_iff_getElem.1 h1 i (i + 1) a1 b1 (by omega)
 omega
theorem kept_asks {L : List Ty} {W : List Nat} {cs : List Ce} {ss : List Nat} (hC : Chain L W 0 cs (W.length / 2)) (hm : ∀ k, k ∈ ss ↔ ∃ d ∈ objs cs, d.2.typ = k) {k : Nat} (hk : k ∈ ss) :
  1 ≤ (keptOf L W (ofType (objs cs) k)).objects ∧ (keptOf L W (ofType (objs cs) k)).nils ≤ (keptOf L W (ofType (objs cs) k)).refs ∧ (keptOf L W (ofType (objs cs) k)).refs ≤ (keptOf L W (ofType (objs cs) k)).slots ∧ (keptOf L W (ofType (objs cs) k)).slots + (keptOf L W (ofType (objs cs) k)).objects ≤ 2 * (keptOf L W (ofType (objs cs) k)).granules ∧ (keptOf L W (ofType (objs cs) k)).granules ≤ (keptOf L W (ofType (objs cs) k)).slots + (keptOf L W (ofType (objs cs) k)).objects ∧ k ≤ 4095 := by
 have h := kept_laws (L := L) (W := W) (O := ofType (objs cs) k) (fun c hc => by
  obtain ⟨h1, h2⟩ := objs_mem (ofType_mem hc).1
  exact ⟨(hC.mem c h1).2.2, h2⟩)
 refine ⟨ofType_some hm hk, h.1, h.2.1, h.2.2.1, h.2.2.2, ?_⟩
 obtain ⟨d, hd, rfl⟩ := (hm k).1 hk
 obtain ⟨h1, h2⟩ := objs_mem hd
 obtain ⟨-, ⟨hmm, -⟩, -⟩ := (hC.mem d h1).2.2
 have := hmm.2.2.2
 omega
theorem wsum_snoc : ∀ (l : List Nat) (x : Nat), wsum (l ++ [x]) = wsum l + x * 2 ^ l.length
 | [], x => by simp [wsum]
 | a :: l, x => by
  show a + 2 * wsum (l ++ [x]) = a + 2 * wsum l + x * 2 ^ (l.length + 1)
  rw [wsum_snoc l x, Nat.pow_succ, Nat.mul_add, ← Nat.mul_assoc x, Nat.mul_comm 2 (x * 2 ^ l.length)]
  omega
theorem wsum_next {l : List Nat} {j x : Nat} (h : l[j]? = some x) : wsum (l.take (j + 1)) = wsum (l.take j) + x * 2 ^ j := by
 obtain ⟨hj, -⟩ := List.getElem?_eq_some_iff.1 h
 rw [take_nextA h, wsum_snoc, List.length_take, Nat.min_eq_left (by omega)]
theorem wsum_append : ∀ (a b : List Nat), wsum a ≤ wsum (a ++ b)
 | [], b => Nat.zero_le _
 | x :: a, b => by
  have := wsum_append a b
  show x + 2 * wsum a ≤ x + 2 * wsum (a ++ b)
  omega
theorem wsum_take (l : List Nat) (j : Nat) : wsum (l.take j) ≤ wsum l := by
 conv => rhs; rw [← List.take_append_drop j l]
 exact wsum_append ..
theorem gap_classes {L : List Ty} {W : List Nat} {cs : List Ce} (h : Good L W cs) : (clsOf (sizesOf (gaps cs))).length ≤ 17 ∧ wsum (clsOf (sizesOf (gaps cs))) ≤ freeOf cs ∧ (0 < freeOf cs → freeOf cs < 2 * wsum (clsOf (sizesOf (gaps cs)))) ∧ (clsOf (sizesOf (gaps cs))).sum = (gaps cs).length ∧ freeOf cs ≤ 300 := by
 have hsm := h.small
 have hg1 : ∀ n ∈ sizesOf (gaps cs), 1 ≤ n ∧ n ≤ 300 := fun n hn => by
  obtain ⟨c, hc, rfl⟩ := List.mem_map.1 hn
  have hm := h.chain.mem c (List.mem_filter.1 hc).1
  have h1 := hm.2.2.pos
  exact ⟨h1, by have := hm.2.1; omega⟩
 have hs : (sizesOf (gaps cs)).sum = freeOf cs := rfl
 have hl := low_sum (sizes := sizesOf (gaps cs)) (fun n hn => (hg1 n hn).1)
 rw [hs] at hl
 refine ⟨cls_len fun n hn => ?_, by rw [cls_wsum]; exact hl.1, fun h0 => ?_, ?_, ?_⟩
 · have h1 := hg1 n hn
   exact (Nat.log2_lt (by omega)).2 (by omega)
 · rw [cls_wsum]
   refine hl.2 fun he => ?_
   rw [← hs, he] at h0
   exact absurd h0 (by decide)
 · rw [cls_sum]
   unfold sizesOf
   rw [List.length_map]
 · have h1 := h.chain.sum
   have h2 := sum_cells cs cSize
   unfold freeOf
   omega
theorem obj_classes {L : List Ty} {W : List Nat} {cs : List Ce} (h : Good L W cs) : (clsOf (sizesOf (objs cs))).length ≤ 17 ∧ (clsOf (sizesOf (objs cs))).sum = (objs cs).length := by
 have hsm := h.small
 have hg1 : ∀ n ∈ sizesOf (objs cs), 1 ≤ n ∧ n ≤ 300 := fun n hn => by
  obtain ⟨c, hc, rfl⟩ := List.mem_map.1 hn
  have hm := h.chain.mem c (List.mem_filter.1 hc).1
  have h1 := hm.2.2.pos
  exact ⟨h1, by have := hm.2.1; omega⟩
 refine ⟨cls_len fun n hn => ?_, ?_⟩
 · have h1 := hg1 n hn
   exact (Nat.log2_lt (by omega)).2 (by omega)
 · rw [cls_sum]
   unfold sizesOf
   rw [List.length_map]
end
end Go.Proofs.YtbecgkejdacidaaGreatDoor
