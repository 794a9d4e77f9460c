/- The device's Write, Flush. -/
import Derived.Test.YtcahhopneobjbaaDevA
import Derived.BigRegion
namespace Go.Proofs.Ytcahhopneobjbaa
open Go.RowKit

theorem Rd.but {k : IntKind} {w w' : World} {ao : Option Addr} {xs : List Int} {bs : List Nat} (h : Rd k w ao xs) (hb : But bs w w') (hn : ∀ a, ao = some a → a.block ∉ bs) : Rd k w' ao xs := by
  intro i hi
  obtain ⟨a, ha, hc⟩ := h i hi
  refine ⟨a, ha, ?_⟩
  have hk : (a.add i).block = a.block := by unfold Addr.add; split <;> rfl
  have hl := World.block_lt_of_cell? _ _ hc
  rw [← hc]
  unfold World.cell?
  rw [hb.block _ hl (by rw [hk]; exact hn a ha)]

theorem secCell_at_now {s : Sec} {j : Nat} (h : j < 64) : secCell s j = .int .u8 (s.now.getD j 0) := by unfold secCell; rw [if_pos h]
theorem secCell_at_lasts {s : Sec} {j : Nat} (h : 64 ≤ j) (h2 : j < 128) : secCell s j = .int .u8 (s.lasts.getD (j - 64) 0) := by unfold secCell; rw [if_neg (by omega), if_pos h2]
theorem secCell_at_loose {s : Sec} : secCell s 128 = .bool s.loose := by unfold secCell; rw [if_neg (by omega), if_neg (by omega)]
def Sec.over (s : Sec) (bs : List Int) : Sec := { s with now := bs ++ s.now.drop bs.length }
theorem Sec.over_ok {s : Sec} (h : SecOk s) {bs : List Int} (hl : bs.length ≤ 64) (hb : Byt bs) : SecOk (s.over bs) :=
  ⟨by simp [Sec.over, h.n]; omega, h.l, hb.append (h.bn.drop _), h.bl⟩
section
variable {w : World} {b r : Nat} {D : Dv}
theorem DevAt.setNow (h : DevAt w b r D) {i : Nat} (hi : i < D.n) (bs : List Int) (hl : bs.length ≤ 64) (hb : Byt bs) :
    DevAt (w.setCells r (i * 129) (bs.map (Value.int .u8))) b r (D.put i ((D.sec i).over bs)) := by
  have ok := h.ok i hi
  refine h.setSec hi 0 _ _ (by simp; omega) (Sec.over_ok ok hl hb) ?_
  intro j hj
  by_cases h1 : j < 64
  · rw [secCell_at_now h1, secCell_at_now h1]
    by_cases h2 : j < bs.length
    · rw [if_pos (by simp; omega), Nat.sub_zero, List.getElem?_map, List.getElem?_eq_getElem h2]
      simp [Sec.over, List.getElem?_append_left h2, h2]
    · rw [if_neg (by simp; omega)]
      simp only [Sec.over, List.getD_eq_getElem?_getD]
      rw [List.getElem?_append_right (by omega), List.getElem?_drop]
      congr 5
      omega
  · rw [if_neg (by simp; omega)]
    unfold secCell Sec.over
    rw [if_neg h1, if_neg h1]
theorem DevAt.setLasts (h : DevAt w b r D) {i : Nat} (hi : i < D.n) (xs : List Int) (hl : xs.length = 64) (hb : Byt xs) :
    DevAt (w.setCells r (i * 129 + 64) (xs.map (Value.int .u8))) b r (D.put i { D.sec i with lasts := xs }) := by
  have ok := h.ok i hi
  refine h.setSec hi 64 _ _ (by simp; omega) ⟨ok.n, hl, ok.bn, hb⟩ ?_
  intro j hj
  by_cases h1 : 64 ≤ j ∧ j < 128
  · rw [if_pos (by simp; omega), secCell_at_lasts h1.1 h1.2, List.getElem?_map, List.getElem?_eq_getElem (show j - 64 < xs.length by omega)]
    have h2 : j - 64 < xs.length := by omega
    simp [h2]
  · rw [if_neg (by simp; omega)]
    unfold secCell
    by_cases h2 : j < 64
    · rw [if_pos h2, if_pos h2]
    · rw [if_neg h2, if_neg h2, if_neg (by omega), if_neg (by omega)]
theorem DevAt.setLoose (h : DevAt w b r D) {i : Nat} (hi : i < D.n) (v : Bool) :
    DevAt (w.setCell ⟨r, i * 129 + 128, none⟩ (.bool v)) b r (D.put i { D.sec i with loose := v }) := by
  have ok := h.ok i hi
  refine h.setSec hi 128 [.bool v] _ (by simp) ⟨ok.n, ok.l, ok.bn, ok.bl⟩ ?_
  intro j hj
  by_cases h1 : j = 128
  · subst h1
    rw [if_pos (by simp), secCell_at_loose]
    rfl
  · rw [if_neg (by simp; omega)]
    unfold secCell
    by_cases h2 : j < 64
    · rw [if_pos h2, if_pos h2]
    · rw [if_neg h2, if_neg h2, if_pos (by omega), if_pos (by omega)]
end
theorem Dv.put_put (D : Dv) (i : Nat) (s t : Sec) : (D.put i s).put i t = D.put i t := by
  unfold Dv.put
  congr 1
  funext k
  by_cases h : k = i <;> simp [h]
theorem Dv.put_at (D : Dv) (i : Nat) (s : Sec) : (D.put i s).sec i = s := by simp [Dv.put]

/-- What Write answers, and what it leaves. -/
def Dv.wErr (D : Dv) (i : Int) (n : Nat) : Int := if D.isDead then 10 else if D.atErr i ≠ 0 then 3 else if 64 < n then 1 else 0
def Dv.wr (D : Dv) (i : Int) (bs : List Int) : Dv := if D.wErr i bs.length = 0 then D.burn.put i.toNat { (D.sec i.toNat).over bs with loose := true } else D

theorem write_any (w : World) (b r : Nat) (D : Dv) (i : Int) (bs : List Int) (ao : Option Addr) (n cap : Nat) (hn : n = bs.length) (h : DevAt w b r D) (hf : Fit D) (hrd : Rd .u8 w ao bs) (hb : Byt bs) (hao : ∀ a, ao = some a → a.block ∉ [b, r]) (h63 : bs.length ≤ 9223372036854775807) :
    Calls Try.prog 24 #[.pointer (some ⟨b, 0, none⟩), .int .i64 i, .slice ao n cap] w fun e w' => e = .returned (.int .i64 (D.wErr i bs.length)) ∧ DevAt w' b r (D.wr i bs) ∧ But [b, r] w w' := by
  subst hn
  have hd := dead_any w b r D h
  have hat := at_any w b r D i h
  unfold Dv.wr Dv.wErr
  cases hde : D.isDead <;> rw [hde] at hd
  · rw [if_neg (by decide)]
    by_cases he : D.atErr i = 0
    · have hi : 0 ≤ i ∧ i < D.n := by
        unfold Dv.atErr at he
        split at he
        · assumption
        · cases he
      rw [if_neg (by simpa using he)]
      rw [he] at hat
      by_cases hl : 64 < bs.length
      · have hl' : (64 : Int) < bs.length := by omega
        rw [if_pos hl, if_neg (by decide)]
        have Hd := Lib.hid hd; have Ha := Lib.hid hat; have H := Lib.hid h
        clear hd hat hde he hf hrd hao h hl
        go_enter Try.func24, Try.ntmps24
        go_wp2_with (with_reducible refine halt_call ?_)
        refine Halted.run (Hd.out.mono ?_); rintro e w' ⟨rfl, rfl⟩
        go_wp2_with (with_reducible refine halt_call ?_)
        refine Halted.run (Ha.out.mono ?_); rintro e w' ⟨rfl, rfl⟩
        go_wp2
        go_ret
        exact ⟨rfl, H.out, But.refl _ _⟩
      · have hl' : (bs.length : Int) ≤ 64 := by omega
        rw [if_neg hl, if_pos rfl]
        obtain ⟨j, rfl⟩ : ∃ j : Nat, i = j := ⟨i.toNat, by omega⟩
        have hj : j < D.n := by omega
        have hbn := burns_any w b r D h hf hde
        have Hd := Lib.hid hd; have Ha := Lib.hid hat; have Hb := Lib.hid hbn
        have hx := hi.1
        have hx2 := hi.2
        have h2 := h.h2
        clear hd hat hde he hf h hl
        go_enter Try.func24, Try.ntmps24
        go_wp2_with (with_reducible refine halt_call ?_)
        refine Halted.run (Hd.out.mono ?_); rintro e w' ⟨rfl, rfl⟩
        go_wp2_with (with_reducible refine halt_call ?_)
        refine Halted.run (Ha.out.mono ?_); rintro e w' ⟨rfl, rfl⟩
        go_wp2_with (with_reducible refine halt_call ?_)
        refine Halted.run (Hb.out.mono ?_); rintro e w1 ⟨rfl, hd1, hbut⟩
        have hj1 : j < D.burn.n := hj
        have hrd1 := hrd.but hbut hao
        have c0 : w1.cell? ⟨b, 0, none⟩ = some (.slice (some ⟨r, 0, none⟩) D.n D.n) := hd1.c0
        have hset := hd1.setNow hj1 bs (by omega) hb
        have hcp : ∃ m : Int, (Builtin.copy_ #[22, 22] 3 #[.slice (some ⟨r, j * 129, none⟩) 64 64, .slice ao bs.length cap]).run Try.prog w1 = .ok (.int .i64 m) (w1.setCells r (j * 129) (bs.map (Value.int .u8))) := by
          cases ao with
          | none =>
            have : bs = [] := by
              cases bs with
              | nil => rfl
              | cons y ys => obtain ⟨_, h, _⟩ := hrd 0 (by simp); cases h
            subst this
            exact ⟨_, run_copy_none w1 22 22 3 5 _ _ _ _ _ _ (by kernel_rfl) (by kernel_rfl) (by simp)⟩
          | some ad =>
            refine ⟨_, run_copy_cells w1 22 22 3 5 r (j * 129) 64 64 ad bs.length cap (bs.map (Value.int .u8)) (by kernel_rfl) (by kernel_rfl) ?_ ?_ ?_ ?_ ?_⟩
            · rw [List.length_map]; exact (Nat.min_eq_left (by omega)).symm
            · intro k v hv
              rw [List.getElem?_map] at hv
              have hk : k < bs.length := by
                rcases Nat.lt_or_ge k bs.length with h | h
                · exact h
                · simp [List.getElem?_eq_none h] at hv
              obtain ⟨a', ha', hc'⟩ := hrd1 k hk
              cases ha'
              rw [hc']
              simpa [List.getElem?_eq_getElem hk] using hv
            · intro k hk
              simp at hk
              rw [hd1.cs hj1 (by omega)]; rfl
            · intro k hk; exact hd1.fr _
            · exact ints_oneCell _ _
        obtain ⟨m, hcp⟩ := hcp
        have c0' : (w1.setCells r (j * 129) (bs.map (Value.int .u8))).cell? ⟨b, 0, none⟩ = some (.slice (some ⟨r, 0, none⟩) D.n D.n) := hset.c0
        have hlo := hset.loose hj1
        have hfr := hset.fr (j * 129 + 128)
        have Hset := Lib.hid (hset.setLoose hj1 true)
        have Hbut := Lib.hid ((hbut.setCells (by simp : r ∈ [b, r]) (j * 129) (bs.map (Value.int .u8))))
        clear hset hd1 hrd1 hbut hrd hao hb
        go_wp2_with (with_reducible refine halt_op 30 ?_)
        refine Halted.run ?_
        go_wp2
        go_ret
        refine ⟨rfl, ?_, Hbut.out.setCell (by simp) _⟩
        have := Hset.out
        rw [Dv.put_put, Dv.put_at] at this
        exact this
    · have he' : D.atErr i = 3 := by
        unfold Dv.atErr at he ⊢
        split at he
        · exact absurd rfl he
        · rename_i hx
          rw [if_neg hx]
      rw [if_pos he, if_neg (by decide)]
      rw [he'] at hat
      have Hd := Lib.hid hd; have Ha := Lib.hid hat; have H := Lib.hid h
      clear hd hat hde he hf hrd hao h he'
      go_enter Try.func24, Try.ntmps24
      go_wp2_with (with_reducible refine halt_call ?_)
      refine Halted.run (Hd.out.mono ?_); rintro e w' ⟨rfl, rfl⟩
      go_wp2_with (with_reducible refine halt_call ?_)
      refine Halted.run (Ha.out.mono ?_); rintro e w' ⟨rfl, rfl⟩
      go_wp2
      go_ret
      exact ⟨rfl, H.out, But.refl _ _⟩
  · rw [if_pos rfl, if_neg (by decide)]
    have Hd := Lib.hid hd; have H := Lib.hid h
    clear hd hat hde hf hrd hao h
    go_enter Try.func24, Try.ntmps24
    go_wp2_with (with_reducible refine halt_call ?_)
    refine Halted.run (Hd.out.mono ?_); rintro e w' ⟨rfl, rfl⟩
    go_wp2
    go_ret
    exact ⟨rfl, H.out, But.refl _ _⟩

/-- The load and the store of a whole array, kept whole in a walk. -/
def ld60 (p : Value) : Sem Value := Instr.loadAt 60 p
def st60 (p v : Value) : Sem Unit := Instr.storeAt 60 p v
theorem ld60_is (p : Value) : Instr.loadAt 60 p = ld60 p := rfl
theorem st60_is (p v : Value) : Instr.storeAt 60 p v = st60 p v := rfl
section
attribute [local go_sem ↓ high] ld60_is st60_is
/-- What Flush answers, and what it leaves. -/
def Dv.flErr (D : Dv) : Int := if D.isDead then 10 else 0
def Sec.fl (s : Sec) : Sec := { s with lasts := s.now, loose := false }
def Dv.flTo (D : Dv) (k : Nat) : Dv := { D with sec := fun i => if i < k then (D.sec i).fl else D.sec i }
def Dv.fl (D : Dv) : Dv := if D.isDead then D else D.burn.flTo D.n
theorem Dv.flTo_zero (D : Dv) : D.flTo 0 = D := by unfold Dv.flTo; simp
theorem Dv.flTo_succ (D : Dv) (k : Nat) : D.flTo (k + 1) = (D.flTo k).put k (D.sec k).fl := by
  unfold Dv.flTo Dv.put
  simp only
  congr 1
  funext i
  by_cases h : i = k
  · subst h; simp
  · rw [if_neg h]
    by_cases h2 : i < k
    · rw [if_pos h2, if_pos (by omega)]
    · rw [if_neg h2, if_neg (by omega)]
theorem flush_any (w : World) (b r : Nat) (D : Dv) (h : DevAt w b r D) (hf : Fit D) :
    Calls Try.prog 27 #[.pointer (some ⟨b, 0, none⟩)] w fun e w' => e = .returned (.int .i64 D.flErr) ∧ DevAt w' b r D.fl ∧ But [b, r] w w' := by
  have hd := dead_any w b r D h
  unfold Dv.flErr Dv.fl
  cases hde : D.isDead <;> rw [hde] at hd
  · rw [if_neg (by decide), if_neg (by decide)]
    have hbn := burns_any w b r D h hf hde
    have Hd := Lib.hid hd; have Hb := Lib.hid hbn
    have h2 := h.h2
    have hnn : D.burn.n = D.n := rfl
    clear hd hde hf h
    go_enter Try.func27, Try.ntmps27
    go_wp2_with (with_reducible refine halt_call ?_)
    refine Halted.run (Hd.out.mono ?_); rintro e w' ⟨rfl, rfl⟩
    go_wp2_with (with_reducible refine halt_call ?_)
    refine Halted.run (Hb.out.mono ?_); rintro e w1 ⟨rfl, hd1, hbut⟩
    have c0 : w1.cell? ⟨b, 0, none⟩ = some (.slice (some ⟨r, 0, none⟩) D.n D.n) := hd1.c0
    have Hd1 := Lib.hid hd1; have Hbut := Lib.hid hbut
    have Hnn := Lib.hid hnn
    clear hd1 hbut hnn
    clear hbn
    go_wp2
    go_loopw [13] (fun i wl => ∃ j : Nat, j ≤ D.n ∧ i = .int .i64 j ∧ DevAt wl b r (D.burn.flTo j) ∧ But [b, r] w wl) (fun i _ => D.n - (intOf i).toNat)
    case atStart => exact ⟨0, by omega, rfl, by rw [Dv.flTo_zero]; exact Hd1.out, Hbut.out⟩
    case round =>
      clear Hd1 Hbut c0
      obtain ⟨j, hjn, rfl, hdl, hbl⟩ := hrel
      by_cases hlt : j < D.n
      · have hj : j < (D.burn.flTo j).n := by show j < D.burn.n; rw [Hnn.out]; omega
        have c0l : wr.cell? ⟨b, 0, none⟩ = some (.slice (some ⟨r, 0, none⟩) D.n D.n) := by have := hdl.c0; rw [show (D.burn.flTo j).n = D.n from Hnn.out] at this; exact this
        have hsec : (D.burn.flTo j).sec j = D.sec j := by unfold Dv.flTo; simp; rfl
        have ok := hdl.ok j hj
        have hdr := hdl.drew
        have hr0 := hdr.range_now hj
        have hst0 := hdr.setLasts hj ((D.burn.flTo j).sec j).now ok.n ok.bn
        have hlo0 := hdr.setLoose hj false
        have hr1 := hlo0.range_now hj
        rw [Dv.put_at] at hr1
        have hl0 := run_loadAt_mid (P := Try.prog) wr.drew r (j * 129) 60 _ _ hr0 Try.underlying60 rfl (by rw [List.length_map, ok.n]; kernel_rfl)
        have hl1 := run_loadAt_mid (P := Try.prog) _ r (j * 129) 60 _ _ hr1 Try.underlying60 rfl (by rw [List.length_map, ok.n]; kernel_rfl)
        have hs0 := run_storeAt_mid (P := Try.prog) wr.drew r (j * 129 + 64) 60 (((D.burn.flTo j).sec j).now.map (Value.int .u8)).toArray (hdr.there hj 64 _ (by simp [ok.n])) (by simp only [List.size_toArray, List.length_map, ok.n]; kernel_rfl) (all_oneCell_toArray (ints_oneCell _ _))
        have hs1 := run_storeAt_mid (P := Try.prog) _ r (j * 129 + 64) 60 (((D.burn.flTo j).sec j).now.map (Value.int .u8)).toArray (hlo0.there hj 64 _ (by simp [ok.n])) (by simp only [List.size_toArray, List.length_map, ok.n]; kernel_rfl) (all_oneCell_toArray (ints_oneCell _ _))
        have hst1 := hlo0.setLasts hj ((D.burn.flTo j).sec j).now ok.n ok.bn
        have k0 := hdl.loose hj
        have k1 := hst0.loose hj
        have f0 := hdl.fr (j * 129 + 128)
        have f1 := hst0.fr (j * 129 + 128)
        have c1 : (wr.drew.setCells r (j * 129 + 64) (((D.burn.flTo j).sec j).now.map (Value.int .u8))).cell? ⟨b, 0, none⟩ = some (.slice (some ⟨r, 0, none⟩) D.n D.n) := by have := hst0.c0; rw [show ((D.burn.flTo j).put j _).n = D.n from Hnn.out] at this; exact this
        have fin0 := hst0.setLoose hj false
        rw [Dv.put_put, Dv.put_at] at fin0 hst1
        have e1 : ({ now := ((D.burn.flTo j).sec j).now, lasts := ((D.burn.flTo j).sec j).now, loose := false } : Sec) = (D.burn.sec j).fl := by rw [hsec]; rfl
        have b0 := ((hbl.drew).setCells (by simp : r ∈ [b, r]) (j * 129 + 64) (((D.burn.flTo j).sec j).now.map (Value.int .u8))).setCell (a := ⟨r, j * 129 + 128, none⟩) (by simp) (.bool false)
        have b1 := ((hbl.drew).setCell (a := ⟨r, j * 129 + 128, none⟩) (by simp) (.bool false)).setCells (by simp : r ∈ [b, r]) (j * 129 + 64) (((D.burn.flTo j).sec j).now.map (Value.int .u8))
        rw [e1, ← Dv.flTo_succ] at fin0 hst1
        generalize ((D.burn.flTo j).sec j).now.map (Value.int .u8) = L at *
        have Hf0 := Lib.hid fin0; have Hf1 := Lib.hid hst1; have Hb0 := Lib.hid b0; have Hb1 := Lib.hid b1
        clear b0 b1 fin0 hst1 hr0 hr1 hlo0 hst0 hdr ok hdl hbl hsec e1 hj
        simp only at hs0 hs1
        generalize L.toArray = A at *
        generalize wr.drew.setCells r (j * 129 + 64) L = W1 at *
        generalize (wr.drew.setCell ⟨r, j * 129 + 128, none⟩ (.bool false)).setCells r (j * 129 + 64) L = W2 at *
        go_wp2
        rw [Dv.put_at] at k1
        generalize ((D.burn.flTo j).sec j).loose = z at *
        clear Hd Hb
        rw [ld60_is] at hl0 hl1
        rw [st60_is] at hs0 hs1
        go_big_region
        all_goals go_wp2
        all_goals go_roundw
        all_goals first
          | exact ⟨j + 1, by omega, by go_num, Hf0.out, Hb0.out⟩
          | exact ⟨j + 1, by omega, by go_num, Hf1.out, Hb1.out⟩
          | (simp [intOf]; omega)
      · have hjn : j = D.n := by omega
        have H1 := Lib.hid hdl; have H2 := Lib.hid hbl
        clear hdl hbl
        go_wp2
        go_ret
        refine ⟨rfl, ?_, H2.out⟩
        have := H1.out
        rw [hjn] at this
        exact this
  · rw [if_pos rfl, if_pos rfl]
    have Hd := Lib.hid hd; have H := Lib.hid h
    clear hd hde hf h
    go_enter Try.func27, Try.ntmps27
    go_wp2_with (with_reducible refine halt_call ?_)
    refine Halted.run (Hd.out.mono ?_); rintro e w' ⟨rfl, rfl⟩
    go_wp2
    go_ret
    exact ⟨rfl, H.out, But.refl _ _⟩
end
end Go.Proofs.Ytcahhopneobjbaa
