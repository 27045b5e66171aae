import Derived.Test.YtlcokkiohilmlaaGreatDoorTo
namespace Go.Proofs.YtlcokkiohilmlaaGreatDoor
open Go.RowKit
theorem info_acc : (Tryz.prog.info? 46).map (fun i => (i.zero.map (·.cells.size), i.size, i.bytes)) = some (some 27, 27, 112) := by kernel_rfl
theorem info_slot : (Tryz.prog.info? 77).map (fun i => (i.zero.map (·.cells.size), i.size, i.bytes)) = some (some 8, 8, 64) := by kernel_rfl
theorem info_parts' {P : Program} {t : TypeId} {n b : Nat} (h : (P.info? t).map (fun i => (i.zero.map (·.cells.size), i.size, i.bytes)) = some (some n, n, b)) : ∃ i z, P.info? t = some i ∧ i.zero = some z ∧ z.cells.size = n ∧ i.size = n ∧ i.bytes = b := by
  cases hi : P.info? t with
  | none => simp [hi] at h
  | some i =>
    rw [hi] at h
    simp only [Option.map_some, Option.some.injEq, Prod.mk.injEq] at h
    obtain ⟨h1, h2, h3⟩ := h
    cases hz : i.zero with
    | none => simp [hz] at h1
    | some z => exact ⟨i, z, rfl, hz, by simpa [hz] using h1, h2, h3⟩
theorem ownsRow_slot0 (w : World) : (w.alloc (.cells #[] 77)).ownsRow w.heap.size 77 8 (.slice (some ⟨w.heap.size, 0, none⟩) 0 0) 0 [] :=
  ⟨rfl, .inr ⟨w.heap.size, 0, #[], rfl, Nat.le_refl _, heap_alloc_new w _, Nat.le_refl _, by unfold maxLen; omega, rfl, rfl⟩⟩
theorem ownsRow_slot0' {w : World} {g : Nat} (hg : g = w.heap.size) : (w.alloc (.cells #[] 77)).ownsRow g 77 8 (.slice (some ⟨g, 0, none⟩) 0 0) 0 [] := by
  subst hg; exact ownsRow_slot0 w

set_option maxRecDepth 100000 in
set_option maxHeartbeats 3200000 in
theorem law15_Twins (w : World) (v : Value) (ds : List AccD) (hv : RdS w.heap.size w 27 (AccV w.heap.size w) v ds) (hl : ds.length ≤ 2 ^ 40) (hcl : ∀ d ∈ ds, d.code.length ≤ 2 ^ 46) :
    Calls Tryz.prog 4 #[v] w fun e w' => ∃ v', e = .returned v' ∧ AccsO w' v' ((ds.take 30).map cutA) ∧ Below w.heap.size w w' := by
  obtain ⟨ia, za, hia, hza, hzac, hias, hiab⟩ := info_parts' info_acc
  obtain ⟨is, zs, his, hzs, hzsc, hiss, hisb⟩ := info_parts' info_slot
  obtain ⟨a, cap, rfl, hc⟩ := hv
  have HC := Lib.hid hc; clear hc
  have HCL := Lib.hid hcl; clear hcl
  go_enter Tryz.func4, Tryz.ntmps4
  go_wp2_with fail
  go_loopw [3, 4] (fun o i wr => ∃ (k : Nat) (xs : List Value), k ≤ ds.length ∧ k ≤ 30 ∧ i = .int .i64 k ∧ wr.ownsRow w.heap.size 46 27 o k xs ∧ (∀ j (h : j < ds.length), j < k → AccO wr ((xs.drop (j * 27)).take 27).toArray (cutA ds[j])) ∧ Below w.heap.size w wr) (fun _ i _ => 30 - (intOf i).toNat)
  case atStart => exact ⟨0, [], Nat.zero_le _, Nat.zero_le _, rfl, ⟨rfl, .inl ⟨rfl, rfl⟩⟩, fun j _ h => absurd h (by omega), Below.refl _ _⟩
  case round =>
    obtain ⟨k, xs, hk, hk30, rfl, hown, hacc, hbw⟩ := hrel
    obtain ⟨wo, rfl⟩ : ∃ wo : World, wo = wr := ⟨_, rfl⟩
    have HO := Lib.hid hown; clear hown
    have HA := Lib.hid hacc; clear hacc
    have hsz := hbw.size
    by_cases hlt : k < ds.length
    · by_cases hlt30 : k < 30
      · obtain ⟨lb, off, cs, rfl, hlb, hrange, hcs, hone, ha20, haddr, h20, hnon, hbal, hbl, ⟨cv, h25, hcode⟩, sv, h26, hst⟩ := HC.out k hlt
        have HR := Lib.hid (rangeAt_below hbw hlb hrange); clear hrange
        have HAD := Lib.hid haddr; clear haddr
        have HBA := Lib.hid hbal; clear hbal
        have hd30 : decide ((k : Int) < 30) = true := by simp; omega
        have hszc : (Tryz.prog.info? 46).map (·.size) = some cs.size := by rw [hcs]; exact size_acc
        go_wp2_with (first | (refine wpList_load_arr rfl 46 _ rfl _ _ rfl cs _ HR.out Tryz.underlying46 rfl hszc ?_) | (refine wpList_store_mid rfl 46 _ _ rfl _ _ cs rfl rfl ?h1 hszc hone ?_; (case h1 => exact (Blk.new _ _ _).there 0 _ (by rw [hcs]; exact Nat.le_refl _)); generalize hw1 : World.setCells _ _ _ _ = w1; obtain ⟨hN, hs1, hbel, hoth⟩ := stored_new hw1 (by rw [hcs]; rfl); clear hw1; have c20 := (hN.cell 20).trans h20; have c25 := (hN.cell 25).trans h25; have c26 := (hN.cell 26).trans h26))
        have hb1 := hbel _ _ (Below.refl wo.heap.size wo) (Nat.le_refl _)
        have hbw1 : Below w.heap.size w w1 := hbw.trans (hb1.mono hsz)
        have hkc := HCL.out _ (List.getElem_mem hlt)
        refine (keep_Twin w.heap.size _ cv (ds[k]).code (hcode.below hbw1) (by omega) hkc).mono ?_
        rintro e w2 ⟨cv', rfl, hown2', hb2⟩
        have hown2 : w2.ownsRow w.heap.size 5 1 cv' (cutA ds[k]).code.length (Lib.byteCells (cutA ds[k]).code) := ownsRow_base hown2' (by omega)
        clear hown2'
        generalize hn1 : (cutA ds[k]).code.length = n1 at hown2
        have HN1 := Lib.hid hn1; clear hn1
        have hN2 := hN.below hb2 (by omega)
        have d25 := (hN2.cell 25).trans h25
        have d26 := (hN2.cell 26).trans h26
        have z25 := hN2.frozen 25
        have z26 := hN2.frozen 26
        have hs2 := hb2.size
        obtain ⟨ca, cc, rfl⟩ := ownsRow_slice hown2
        have HOW2 := Lib.hid hown2; clear hown2
        have hbo2 : Below wo.heap.size wo w2 := hb1.trans (hb2.mono (by omega))
        clear c20 c25 c26 hcode hoth hbel hb1 hbw1 hb2 hN h26
        obtain ⟨sa, scap, rfl, hscap, hsc⟩ := hst
        have hstb : ∀ i (h : i < (ds[k]).store.length), ((ds[k]).store[i]).1 < 2 ^ 256 ∧ ((ds[k]).store[i]).2 < 2 ^ 256 := fun i h => by
          obtain ⟨_, _, _, -, -, -, -, hp⟩ := hsc i h
          exact hp.2
        have HSTB := Lib.hid hstb; clear hstb
        have HSC := Lib.hid hsc; clear hsc
        have HBO := Lib.hid hbo2; clear hbo2
        by_cases h20' : 20 < (ds[k]).store.length
        · obtain ⟨ad, rfl⟩ : ∃ ad, sa = some ad := by
            obtain ⟨b, off, _, h, -⟩ := HSC.out 0 (by omega)
            exact ⟨_, h⟩
          have hn' : (20 : Int) ≤ (scap : Int) := by omega
          have hN4 := ((hN2.set 25 (.slice ca n1 cc)).set 26 (.slice (some ad) 20 scap)).alloc (.cells #[] 77)
          have e26 : (((w2.setCell ⟨wo.heap.size, 25, none⟩ (.slice ca n1 cc)).setCell ⟨wo.heap.size, 26, none⟩ (.slice (some ad) 20 scap)).alloc (.cells #[] 77)).cell? ⟨wo.heap.size, 26, none⟩ = some (.slice (some ad) 20 scap) := by
            rw [hN4.cell 26, Array.getElem?_setIfInBounds_self_of_lt (by simp; omega)]
          have y26 := hN4.frozen 26
          have hb4 : Below wo.heap.size wo (((w2.setCell ⟨wo.heap.size, 25, none⟩ (.slice ca n1 cc)).setCell ⟨wo.heap.size, 26, none⟩ (.slice (some ad) 20 scap)).alloc (.cells #[] 77)) := (((HBO.out.setCell (p := ⟨_, _, none⟩) (Nat.le_refl _) _).setCell (p := ⟨_, _, none⟩) (Nat.le_refl _) _).alloc (by simp [World.setCell]; omega) _)
          have hbw4 := hbw.trans (hb4.mono hsz)
          have hnews : ∀ j u, (slotsV (cutA ds[k]).store)[j]? = some u → (((w2.setCell ⟨wo.heap.size, 25, none⟩ (.slice ca n1 cc)).setCell ⟨wo.heap.size, 26, none⟩ (.slice (some ad) 20 scap)).alloc (.cells #[] 77)).cell? (ad.add j) = some u := slots_news HSC.out hbw4 20
          have hlen : (slotsV (cutA ds[k]).store).length = 20 * 8 := by rw [slotsV_len]; simp only [cutA, List.length_take]; omega
          have HNW := Lib.hid hnews; clear hnews
          have HLN := Lib.hid hlen; clear hlen
          have how4 : (((w2.setCell ⟨wo.heap.size, 25, none⟩ (.slice ca n1 cc)).setCell ⟨wo.heap.size, 26, none⟩ (.slice (some ad) 20 scap)).alloc (.cells #[] 77)).ownsRow w2.heap.size 77 8 (.slice (some ⟨w2.heap.size, 0, none⟩) 0 0) 0 [] := ownsRow_slot0' (by simp [World.setCell])
          have HOW4 := Lib.hid how4; clear how4
          go_wp2_with (at_builtin; refine wpList_append_own _ rfl _ _ 44 rfl w2.heap.size 77 is zs 8 64 Tryz.underlying44 his hzs hiss hisb hzsc (by decide) (.slice (some ⟨w2.heap.size, 0, none⟩) 0 0) 0 [] rfl HOW4.out ad 20 _ (slotsV (cutA ds[k]).store) rfl HLN.out HNW.out (slotsV_one _) ?c3 ?c4 ?c5 ?_)
          case c3 => unfold maxLen; omega
          case c4 => omega
          case c5 => simp [World.setCell]
          intro sv' w5 hown5 hgrow5 _
          obtain ⟨ta, n2, tc, rfl⟩ := ownsRow_slice3 hown5
          have hN5 := hN4.grown hgrow5 (by simp [Value.ownBlock]; omega)
          have hb5 : Below wo.heap.size wo w5 := hb4.grown hgrow5 (by simp [World.setCell]; omega) (fun q hq => by simp [Value.ownBlock] at hq; omega)
          have hc5 : w5.ownsRow w.heap.size 5 1 (.slice ca n1 cc) n1 (Lib.byteCells (cutA ds[k]).code) := ownsRow_grown (ownsRow_low (ownsRow_set (ownsRow_set HOW2.out hN2 (by decide) _) (hN2.set 25 _) (by decide) _) ((Below.refl _ _).alloc (Nat.le_refl _) _)) HOW4.out (by decide) hgrow5
          have hown6 : w5.ownsRow w2.heap.size 77 8 (.slice ta n2 tc) (cutA ds[k]).store.length (slotsV (cutA ds[k]).store) := ownsRow_cast (by simp only [cutA, List.length_take]; omega) (by simp) hown5
          clear hown5
          have hsz5 := hb5.size
          have hN6 := hN5.set 26 (.slice ta n2 tc)
          have i26 : w5.cell? ⟨wo.heap.size, 26, none⟩ = some (.slice (some ad) 20 scap) := by
            rw [hN5.cell 26, Array.getElem?_setIfInBounds_self_of_lt (by simp; omega)]
          have y526 := hN5.frozen 26
          have hb6 : Below wo.heap.size wo (w5.setCell ⟨wo.heap.size, 26, none⟩ (.slice ta n2 tc)) := hb5.setCell (p := ⟨_, _, none⟩) (Nat.le_refl _) _
          have hc6 : (w5.setCell ⟨wo.heap.size, 26, none⟩ (.slice ta n2 tc)).ownsRow w.heap.size 5 1 (.slice ca n1 cc) n1 (Lib.byteCells (cutA ds[k]).code) := ownsRow_set hc5 hN5 (by decide) _
          have hd6 : (w5.setCell ⟨wo.heap.size, 26, none⟩ (.slice ta n2 tc)).ownsRow w2.heap.size 77 8 (.slice ta n2 tc) (cutA ds[k]).store.length (slotsV (cutA ds[k]).store) := ownsRow_set hown6 hN5 (by decide) _
          have hs6 : (((cs.setIfInBounds 25 (.slice ca n1 cc)).setIfInBounds 26 (.slice (some ad) 20 scap)).setIfInBounds 26 (.slice ta n2 tc)).size = 27 := by simp [hcs]
          generalize hcs6 : ((cs.setIfInBounds 25 (.slice ca n1 cc)).setIfInBounds 26 (.slice (some ad) 20 scap)).setIfInBounds 26 (.slice ta n2 tc) = cs6 at *
          have hlo6 : ∀ i, i < 25 → cs6[i]? = cs[i]? := fun i hi => by
            rw [← hcs6]
            exact set3 _ _ _ i hi
          have h625 : cs6[25]? = some (.slice ca n1 cc) := by
            rw [← hcs6, Array.getElem?_setIfInBounds_ne (by omega), Array.getElem?_setIfInBounds_ne (by omega), Array.getElem?_setIfInBounds_self_of_lt (by omega)]
          have h626 : cs6[26]? = some (.slice ta n2 tc) := by
            rw [← hcs6, Array.getElem?_setIfInBounds_self_of_lt (by simp; omega)]
          have hA6 : AccO (w5.setCell ⟨wo.heap.size, 26, none⟩ (.slice ta n2 tc)) cs6 (cutA ds[k]) := acc_new hone hcs ha20 HAD.out h20 hnon HBA.out hbl HSTB.out hs6 hlo6 h625 h626 (ownsRow_base (ownsRow_cast HN1.out.symm rfl hc6) (Nat.zero_le _)) (ownsRow_base hd6 (Nat.zero_le _))
          have hb7 := hb6.alloc (by simp [World.setCell]; omega) (.cells cs6 46)
          have HO7 := Lib.hid (ownsRow_low HO.out hb7)
          have hA7 := Lib.hid (hA6.low ((Below.refl _ _).alloc (Nat.le_refl _) (.cells cs6 46)))
          have HA7 := Lib.hid (fun j (h : j < ds.length) hj => (HA.out j h hj).low hb7)
          have hone6 : ∀ u ∈ cs6.toList, u.oneCell' = true := fun u hu => Array.all_eq_true_iff_forall_mem.1 hA6.1 u (by simpa using hu)
          have HONE6 := Lib.hid hone6; clear hone6
          have hszc6 : (Tryz.prog.info? 46).map (·.size) = some cs6.size := by rw [hs6]; exact size_acc
          have hl6 : cs6.toList.length = 1 * 27 := by simpa using hs6
          have HL6 := Lib.hid hl6; clear hl6
          have hbw7 := hbw.trans (hb7.mono hsz)
          clear hcs6 hlo6 h625 h626 hA6 hc6 hd6
          go_wp2_with (first | (refine wpList_load_arr rfl 46 _ rfl _ 0 rfl cs6 _ hN6.all Tryz.underlying46 rfl hszc6 ?_) | (refine wpList_build_one rfl 27 46 _ rfl cs6 rfl ia za 27 Tryz.underlying27 hia hza hias hs6 (by decide) (by decide) ?_) | (at_builtin; refine wpList_append_own _ rfl _ _ 27 rfl w.heap.size 46 ia za 27 112 Tryz.underlying27 hia hza hias hiab hzac (by decide) u3 k xs rfl HO7.out ⟨_, 0, none⟩ 1 1 cs6.toList rfl HL6.out (news_new _ _ _) HONE6.out ?c3 ?c4 ?c5 ?_))
          case c3 => unfold maxLen; omega
          case c4 => omega
          case c5 => simp [World.setCell]; omega
          intro v8 w8 hown8 hgrow8 _
          have hA8 := accs_step HA7.out HO7.out hgrow8 hlt (by simpa using hA7.out)
          have hbw8 := hbw7.grown hgrow8 (by simp [World.setCell]; omega) (fun q hq => ownsRow_ge HO7.out q hq)
          have HA8 := Lib.hid hA8; clear hA8
          have HOW8 := Lib.hid hown8; clear hown8
          clear hN6 i26 y526 hb6 hb7 hbw7 HA7 hA7 HO7
          go_wp2_with fail
          go_roundw
          case rel => exact ⟨k + 1, _, hlt, hlt30, by go_num, HOW8.out, HA8.out, hbw8⟩
          case measure => simp [intOf] <;> omega
        · have hlen20 : (ds[k]).store.length ≤ 20 := by omega
          have h20n : ¬ 20 < ((ds[k]).store.length : Int) := by omega
          cases sa with
          | some ad =>
            have HS26 := Lib.hid (show ((cs.setIfInBounds 25 (.slice ca n1 cc)) : Array Value)[26]? = some (.slice (some ad) (ds[k]).store.length scap) by
              rw [Array.getElem?_setIfInBounds_ne (by omega), ← hN2.cell 26]; exact d26)
            have hN4 := (hN2.set 25 (.slice ca n1 cc)).alloc (.cells #[] 77)
            have e26 : ((w2.setCell ⟨wo.heap.size, 25, none⟩ (.slice ca n1 cc)).alloc (.cells #[] 77)).cell? ⟨wo.heap.size, 26, none⟩ = some (.slice (some ad) (ds[k]).store.length scap) := by
              rw [hN4.cell 26]; exact HS26.out
            have y26 := hN4.frozen 26
            have hb4 : Below wo.heap.size wo ((w2.setCell ⟨wo.heap.size, 25, none⟩ (.slice ca n1 cc)).alloc (.cells #[] 77)) := ((HBO.out.setCell (p := ⟨_, _, none⟩) (Nat.le_refl _) _).alloc (by simp [World.setCell]; omega) _)
            have hbw4 := hbw.trans (hb4.mono hsz)
            have hnews : ∀ j u, (slotsV (cutA ds[k]).store)[j]? = some u → ((w2.setCell ⟨wo.heap.size, 25, none⟩ (.slice ca n1 cc)).alloc (.cells #[] 77)).cell? (ad.add j) = some u := slots_news HSC.out hbw4 20
            have hlen : (slotsV (cutA ds[k]).store).length = (ds[k]).store.length * 8 := by rw [slotsV_len]; simp only [cutA, List.length_take]; omega
            have HNW := Lib.hid hnews; clear hnews
            have HLN := Lib.hid hlen; clear hlen
            have how4 : ((w2.setCell ⟨wo.heap.size, 25, none⟩ (.slice ca n1 cc)).alloc (.cells #[] 77)).ownsRow w2.heap.size 77 8 (.slice (some ⟨w2.heap.size, 0, none⟩) 0 0) 0 [] := ownsRow_slot0' (by simp [World.setCell])
            have HOW4 := Lib.hid how4; clear how4
            go_wp2_with (at_builtin; refine wpList_append_own _ rfl _ _ 44 rfl w2.heap.size 77 is zs 8 64 Tryz.underlying44 his hzs hiss hisb hzsc (by decide) (.slice (some ⟨w2.heap.size, 0, none⟩) 0 0) 0 [] rfl HOW4.out ad (ds[k]).store.length _ (slotsV (cutA ds[k]).store) rfl HLN.out HNW.out (slotsV_one _) ?c3 ?c4 ?c5 ?_)
            case c3 => unfold maxLen; omega
            case c4 => omega
            case c5 => simp [World.setCell]
            intro sv' w5 hown5 hgrow5 _
            obtain ⟨ta, n2, tc, rfl⟩ := ownsRow_slice3 hown5
            have hN5 := hN4.grown hgrow5 (by simp [Value.ownBlock]; omega)
            have hb5 : Below wo.heap.size wo w5 := hb4.grown hgrow5 (by simp [World.setCell]; omega) (fun q hq => by simp [Value.ownBlock] at hq; omega)
            have hc5 : w5.ownsRow w.heap.size 5 1 (.slice ca n1 cc) n1 (Lib.byteCells (cutA ds[k]).code) := ownsRow_grown (ownsRow_low (ownsRow_set HOW2.out hN2 (by decide) _) ((Below.refl _ _).alloc (Nat.le_refl _) _)) HOW4.out (by decide) hgrow5
            have hown6 : w5.ownsRow w2.heap.size 77 8 (.slice ta n2 tc) (cutA ds[k]).store.length (slotsV (cutA ds[k]).store) := ownsRow_cast (by simp only [cutA, List.length_take]; omega) (by simp) hown5
            clear hown5
            have hsz5 := hb5.size
            have hN6 := hN5.set 26 (.slice ta n2 tc)
            have i26 : w5.cell? ⟨wo.heap.size, 26, none⟩ = some (.slice (some ad) (ds[k]).store.length scap) := by
              rw [hN5.cell 26]; exact HS26.out
            have y526 := hN5.frozen 26
            have hb6 : Below wo.heap.size wo (w5.setCell ⟨wo.heap.size, 26, none⟩ (.slice ta n2 tc)) := hb5.setCell (p := ⟨_, _, none⟩) (Nat.le_refl _) _
            have hc6 : (w5.setCell ⟨wo.heap.size, 26, none⟩ (.slice ta n2 tc)).ownsRow w.heap.size 5 1 (.slice ca n1 cc) n1 (Lib.byteCells (cutA ds[k]).code) := ownsRow_set hc5 hN5 (by decide) _
            have hd6 : (w5.setCell ⟨wo.heap.size, 26, none⟩ (.slice ta n2 tc)).ownsRow w2.heap.size 77 8 (.slice ta n2 tc) (cutA ds[k]).store.length (slotsV (cutA ds[k]).store) := ownsRow_set hown6 hN5 (by decide) _
            have hs6 : ((cs.setIfInBounds 25 (.slice ca n1 cc)).setIfInBounds 26 (.slice ta n2 tc)).size = 27 := by simp [hcs]
            generalize hcs6 : (cs.setIfInBounds 25 (.slice ca n1 cc)).setIfInBounds 26 (.slice ta n2 tc) = cs6 at *
            have hlo6 : ∀ i, i < 25 → cs6[i]? = cs[i]? := fun i hi => by
              rw [← hcs6]
              rw [Array.getElem?_setIfInBounds_ne (by omega), Array.getElem?_setIfInBounds_ne (by omega)]
            have h625 : cs6[25]? = some (.slice ca n1 cc) := by
              rw [← hcs6, Array.getElem?_setIfInBounds_ne (by omega), Array.getElem?_setIfInBounds_self_of_lt (by omega)]
            have h626 : cs6[26]? = some (.slice ta n2 tc) := by
              rw [← hcs6, Array.getElem?_setIfInBounds_self_of_lt (by simp; omega)]
            have hA6 : AccO (w5.setCell ⟨wo.heap.size, 26, none⟩ (.slice ta n2 tc)) cs6 (cutA ds[k]) := acc_new hone hcs ha20 HAD.out h20 hnon HBA.out hbl HSTB.out hs6 hlo6 h625 h626 (ownsRow_base (ownsRow_cast HN1.out.symm rfl hc6) (Nat.zero_le _)) (ownsRow_base hd6 (Nat.zero_le _))
            have hb7 := hb6.alloc (by simp [World.setCell]; omega) (.cells cs6 46)
            have HO7 := Lib.hid (ownsRow_low HO.out hb7)
            have hA7 := Lib.hid (hA6.low ((Below.refl _ _).alloc (Nat.le_refl _) (.cells cs6 46)))
            have HA7 := Lib.hid (fun j (h : j < ds.length) hj => (HA.out j h hj).low hb7)
            have hone6 : ∀ u ∈ cs6.toList, u.oneCell' = true := fun u hu => Array.all_eq_true_iff_forall_mem.1 hA6.1 u (by simpa using hu)
            have HONE6 := Lib.hid hone6; clear hone6
            have hszc6 : (Tryz.prog.info? 46).map (·.size) = some cs6.size := by rw [hs6]; exact size_acc
            have hl6 : cs6.toList.length = 1 * 27 := by simpa using hs6
            have HL6 := Lib.hid hl6; clear hl6
            have hbw7 := hbw.trans (hb7.mono hsz)
            clear hcs6 hlo6 h625 h626 hA6 hc6 hd6
            go_wp2_with (first | (refine wpList_load_arr rfl 46 _ rfl _ 0 rfl cs6 _ hN6.all Tryz.underlying46 rfl hszc6 ?_) | (refine wpList_build_one rfl 27 46 _ rfl cs6 rfl ia za 27 Tryz.underlying27 hia hza hias hs6 (by decide) (by decide) ?_) | (at_builtin; refine wpList_append_own _ rfl _ _ 27 rfl w.heap.size 46 ia za 27 112 Tryz.underlying27 hia hza hias hiab hzac (by decide) u3 k xs rfl HO7.out ⟨_, 0, none⟩ 1 1 cs6.toList rfl HL6.out (news_new _ _ _) HONE6.out ?c3 ?c4 ?c5 ?_))
            case c3 => unfold maxLen; omega
            case c4 => omega
            case c5 => simp [World.setCell]; omega
            intro v8 w8 hown8 hgrow8 _
            have hA8 := accs_step HA7.out HO7.out hgrow8 hlt (by simpa using hA7.out)
            have hbw8 := hbw7.grown hgrow8 (by simp [World.setCell]; omega) (fun q hq => ownsRow_ge HO7.out q hq)
            have HA8 := Lib.hid hA8; clear hA8
            have HOW8 := Lib.hid hown8; clear hown8
            clear hN6 i26 y526 hb6 hb7 hbw7 HA7 hA7 HO7
            go_wp2_with fail
            go_roundw
            case rel => exact ⟨k + 1, _, hlt, hlt30, by go_num, HOW8.out, HA8.out, hbw8⟩
            case measure => simp [intOf] <;> omega
          | none =>
            have hz : (ds[k]).store.length = 0 := by
              rcases Nat.eq_zero_or_pos (ds[k]).store.length with h | h
              · exact h
              · obtain ⟨_, _, _, h1, -⟩ := HSC.out 0 h; cases h1
            have hnil : (cutA ds[k]).store = [] := List.eq_nil_of_length_eq_zero (by simp only [cutA, List.length_take]; omega)
            have HNIL := Lib.hid hnil; clear hnil
            rw [hz] at d26
            have HS26 := Lib.hid (show ((cs.setIfInBounds 25 (.slice ca n1 cc)) : Array Value)[26]? = some (.slice none 0 scap) by
              rw [Array.getElem?_setIfInBounds_ne (by omega), ← hN2.cell 26]; exact d26)
            clear hz hlen20 h20n h20' hscap HSC
            have hN4 := (hN2.set 25 (.slice ca n1 cc)).alloc (.cells #[] 77)
            have e26 : ((w2.setCell ⟨wo.heap.size, 25, none⟩ (.slice ca n1 cc)).alloc (.cells #[] 77)).cell? ⟨wo.heap.size, 26, none⟩ = some (.slice none 0 scap) := by
              rw [hN4.cell 26]; exact HS26.out
            have y26 := hN4.frozen 26
            have hb4 : Below wo.heap.size wo ((w2.setCell ⟨wo.heap.size, 25, none⟩ (.slice ca n1 cc)).alloc (.cells #[] 77)) := (HBO.out.setCell (p := ⟨_, _, none⟩) (Nat.le_refl _) _).alloc (by simp [World.setCell]; omega) _
            have hc4 : ((w2.setCell ⟨wo.heap.size, 25, none⟩ (.slice ca n1 cc)).alloc (.cells #[] 77)).ownsRow w.heap.size 5 1 (.slice ca n1 cc) n1 (Lib.byteCells (cutA ds[k]).code) := ownsRow_low (ownsRow_set HOW2.out hN2 (by decide) _) ((Below.refl _ _).alloc (Nat.le_refl _) _)
            have hown4 : ((w2.setCell ⟨wo.heap.size, 25, none⟩ (.slice ca n1 cc)).alloc (.cells #[] 77)).ownsRow w2.heap.size 77 8 (.slice (some ⟨w2.heap.size, 0, none⟩) 0 0) (cutA ds[k]).store.length (slotsV (cutA ds[k]).store) := ownsRow_cast (by rw [HNIL.out]; rfl) (by rw [HNIL.out]; rfl) (ownsRow_slot0' (by simp [World.setCell]))
            have hsz5 := hb4.size
            have hN6 := hN4.set 26 (.slice (some ⟨w2.heap.size, 0, none⟩) 0 0)
            have i26 : ((w2.setCell ⟨wo.heap.size, 25, none⟩ (.slice ca n1 cc)).alloc (.cells #[] 77)).cell? ⟨wo.heap.size, 26, none⟩ = some (.slice none 0 scap) := e26
            have y526 := hN4.frozen 26
            have hb6 : Below wo.heap.size wo (((w2.setCell ⟨wo.heap.size, 25, none⟩ (.slice ca n1 cc)).alloc (.cells #[] 77)).setCell ⟨wo.heap.size, 26, none⟩ (.slice (some ⟨w2.heap.size, 0, none⟩) 0 0)) := hb4.setCell (p := ⟨_, _, none⟩) (Nat.le_refl _) _
            have hc6 : (((w2.setCell ⟨wo.heap.size, 25, none⟩ (.slice ca n1 cc)).alloc (.cells #[] 77)).setCell ⟨wo.heap.size, 26, none⟩ (.slice (some ⟨w2.heap.size, 0, none⟩) 0 0)).ownsRow w.heap.size 5 1 (.slice ca n1 cc) n1 (Lib.byteCells (cutA ds[k]).code) := ownsRow_set hc4 hN4 (by decide) _
            have hd6 : (((w2.setCell ⟨wo.heap.size, 25, none⟩ (.slice ca n1 cc)).alloc (.cells #[] 77)).setCell ⟨wo.heap.size, 26, none⟩ (.slice (some ⟨w2.heap.size, 0, none⟩) 0 0)).ownsRow w2.heap.size 77 8 (.slice (some ⟨w2.heap.size, 0, none⟩) 0 0) (cutA ds[k]).store.length (slotsV (cutA ds[k]).store) := ownsRow_set hown4 hN4 (by decide) _
            have hs6 : ((cs.setIfInBounds 25 (.slice ca n1 cc)).setIfInBounds 26 (.slice (some ⟨w2.heap.size, 0, none⟩) 0 0)).size = 27 := by simp [hcs]
            generalize hcs6 : (cs.setIfInBounds 25 (.slice ca n1 cc)).setIfInBounds 26 (.slice (some ⟨w2.heap.size, 0, none⟩) 0 0) = cs6 at *
            have hlo6 : ∀ i, i < 25 → cs6[i]? = cs[i]? := fun i hi => by
              rw [← hcs6]
              rw [Array.getElem?_setIfInBounds_ne (by omega), Array.getElem?_setIfInBounds_ne (by omega)]
            have h625 : cs6[25]? = some (.slice ca n1 cc) := by
              rw [← hcs6, Array.getElem?_setIfInBounds_ne (by omega), Array.getElem?_setIfInBounds_self_of_lt (by omega)]
            have h626 : cs6[26]? = some (.slice (some ⟨w2.heap.size, 0, none⟩) 0 0) := by
              rw [← hcs6, Array.getElem?_setIfInBounds_self_of_lt (by simp; omega)]
            have hA6 : AccO (((w2.setCell ⟨wo.heap.size, 25, none⟩ (.slice ca n1 cc)).alloc (.cells #[] 77)).setCell ⟨wo.heap.size, 26, none⟩ (.slice (some ⟨w2.heap.size, 0, none⟩) 0 0)) cs6 (cutA ds[k]) := acc_new hone hcs ha20 HAD.out h20 hnon HBA.out hbl HSTB.out hs6 hlo6 h625 h626 (ownsRow_base (ownsRow_cast HN1.out.symm rfl hc6) (Nat.zero_le _)) (ownsRow_base hd6 (Nat.zero_le _))
            have hb7 := hb6.alloc (by simp [World.setCell]; omega) (.cells cs6 46)
            have HO7 := Lib.hid (ownsRow_low HO.out hb7)
            have hA7 := Lib.hid (hA6.low ((Below.refl _ _).alloc (Nat.le_refl _) (.cells cs6 46)))
            have HA7 := Lib.hid (fun j (h : j < ds.length) hj => (HA.out j h hj).low hb7)
            have hone6 : ∀ u ∈ cs6.toList, u.oneCell' = true := fun u hu => Array.all_eq_true_iff_forall_mem.1 hA6.1 u (by simpa using hu)
            have HONE6 := Lib.hid hone6; clear hone6
            have hszc6 : (Tryz.prog.info? 46).map (·.size) = some cs6.size := by rw [hs6]; exact size_acc
            have hl6 : cs6.toList.length = 1 * 27 := by simpa using hs6
            have HL6 := Lib.hid hl6; clear hl6
            have hbw7 := hbw.trans (hb7.mono hsz)
            clear hcs6 hlo6 h625 h626 hA6 hc6 hd6
            go_wp2_with (first | (refine wpList_load_arr rfl 46 _ rfl _ 0 rfl cs6 _ hN6.all Tryz.underlying46 rfl hszc6 ?_) | (refine wpList_build_one rfl 27 46 _ rfl cs6 rfl ia za 27 Tryz.underlying27 hia hza hias hs6 (by decide) (by decide) ?_) | (at_builtin; refine wpList_append_own _ rfl _ _ 27 rfl w.heap.size 46 ia za 27 112 Tryz.underlying27 hia hza hias hiab hzac (by decide) u3 k xs rfl HO7.out ⟨_, 0, none⟩ 1 1 cs6.toList rfl HL6.out (news_new _ _ _) HONE6.out ?c3 ?c4 ?c5 ?_))
            case c3 => unfold maxLen; omega
            case c4 => omega
            case c5 => simp [World.setCell]; omega
            intro v8 w8 hown8 hgrow8 _
            have hA8 := accs_step HA7.out HO7.out hgrow8 hlt (by simpa using hA7.out)
            have hbw8 := hbw7.grown hgrow8 (by simp [World.setCell]; omega) (fun q hq => ownsRow_ge HO7.out q hq)
            have HA8 := Lib.hid hA8; clear hA8
            have HOW8 := Lib.hid hown8; clear hown8
            clear hN6 i26 y526 hb6 hb7 hbw7 HA7 hA7 HO7
            go_wp2_with fail
            go_roundw
            case rel => exact ⟨k + 1, _, hlt, hlt30, by go_num, HOW8.out, HA8.out, hbw8⟩
            case measure => simp [intOf] <;> omega
      · obtain rfl : k = 30 := by omega
        have hacc := HA.out
        go_wp2_with fail
        go_ret
        have hl30 : ((ds.take 30).map cutA).length = 30 := by simp; omega
        refine ⟨_, rfl, ⟨xs, ownsRow_cast hl30.symm rfl (ownsRow_base HO.out (Nat.zero_le _)), fun i hi => ?_⟩, hbw⟩
        have := hacc i (by omega) (by omega)
        simpa using this
    · obtain rfl : k = ds.length := by omega
      have hacc := HA.out
      go_wp2_with fail
      go_ret
      have hl30 : ((ds.take 30).map cutA).length = ds.length := by simp; omega
      refine ⟨_, rfl, ⟨xs, ownsRow_cast hl30.symm rfl (ownsRow_base HO.out (Nat.zero_le _)), fun i hi => ?_⟩, hbw⟩
      have := hacc i (by omega) (by omega)
      simpa using this
end Go.Proofs.YtlcokkiohilmlaaGreatDoor
