/-
  NARROWER THAN 'FOR EVERY INPUT', by the rows' own cells (each row's printed sentence says how): ShaPlays: laid · ShaSums: laid · ShaFills: laid · ShaSpares: laid · ShaPieces: laid · HmacSums: laid · HmacChecks: laid · HmacIs: laid · HmacOneKey: laid · HmacTags: laid · LogRoots: laid · LogChecks: laid · LogBinds: laid · LogShows: laid · LogPlays: laid · LogProves: laid · LogGrows: laid · LogKeeps: laid.
  DERIVED. THE GIVEN ROWS OF THIS SEAT. 18 by the template 'for every input the law returns true; each argument reads behind the call as it read before'; 0 by the template 'total and deterministic' (their statements: YtiiedgbdooamaaaDoorTotals.lean).
  GIVEN WITH THE SEED: the statements are not yours to turn. If you find one false, say at which input.
  Laid BY PROGRAM, IN A SANDBOX (cutbox-rows.mjs): the forced cells as the released guide's own fill.sh prints them over the translation 3c7460f00aeef315… (all of the seat's roots in one cut). By AI agents, Wed Nov 11 2026. No macro, syntax, notation, axiom, sorry.
-/
import Derived.Test.YtiiedgbdooamaaaDoorChecked
import GoSem.Claim
import GoSem.ClaimJoined
import GoSem.ClaimMapViews
import Derived.JoinedTies
import Derived.KernelRfl
namespace Go.Proofs.YtiiedgbdooamaaaDoor
/- THE CELL 'sum', in the pinned program and in every row, IS THE sha256 OF THE DUMP (.gsa) THAT YtiiedgbdooamaaaDoorProg.lean LOADS. Nothing in Lean hashes anything: it is a label: what it is worth is what the hold of that sum in a sandbox is worth. -/
noncomputable def Tryd.pinned : Pinned := { name := "ytiiedgbdooamaaadoor", sum := "3c7460f00aeef3159d220de954abc3b1cdb8910f2db90e24fbfb96d98e62bd33", checked := Tryd.checked }
namespace Rows
def none {H : Type} : Left H := { results := [], args := [] }

/- WHAT THE LISTED PACKAGE-LEVEL VARIABLES READ AS WHEN THE CALL BEGINS. Each datum BY PROGRAM (the guide's laid-datum.mjs) off the statement by which the dump's own 'gosem.cut.vars' lays the variable. In a bare row this is a premise. The card (YtiiedgbdooamaaaDoorCards.lean) ties it to the program's text. -/
def laid_signet_sha_k256 {H : Type} : DataW H := .agg [.lit (.int .u32 1116352408), .lit (.int .u32 1899447441), .lit (.int .u32 3049323471), .lit (.int .u32 3921009573), .lit (.int .u32 961987163), .lit (.int .u32 1508970993), .lit (.int .u32 2453635748), .lit (.int .u32 2870763221), .lit (.int .u32 3624381080), .lit (.int .u32 310598401), .lit (.int .u32 607225278), .lit (.int .u32 1426881987), .lit (.int .u32 1925078388), .lit (.int .u32 2162078206), .lit (.int .u32 2614888103), .lit (.int .u32 3248222580), .lit (.int .u32 3835390401), .lit (.int .u32 4022224774), .lit (.int .u32 264347078), .lit (.int .u32 604807628), .lit (.int .u32 770255983), .lit (.int .u32 1249150122), .lit (.int .u32 1555081692), .lit (.int .u32 1996064986), .lit (.int .u32 2554220882), .lit (.int .u32 2821834349), .lit (.int .u32 2952996808), .lit (.int .u32 3210313671), .lit (.int .u32 3336571891), .lit (.int .u32 3584528711), .lit (.int .u32 113926993), .lit (.int .u32 338241895), .lit (.int .u32 666307205), .lit (.int .u32 773529912), .lit (.int .u32 1294757372), .lit (.int .u32 1396182291), .lit (.int .u32 1695183700), .lit (.int .u32 1986661051), .lit (.int .u32 2177026350), .lit (.int .u32 2456956037), .lit (.int .u32 2730485921), .lit (.int .u32 2820302411), .lit (.int .u32 3259730800), .lit (.int .u32 3345764771), .lit (.int .u32 3516065817), .lit (.int .u32 3600352804), .lit (.int .u32 4094571909), .lit (.int .u32 275423344), .lit (.int .u32 430227734), .lit (.int .u32 506948616), .lit (.int .u32 659060556), .lit (.int .u32 883997877), .lit (.int .u32 958139571), .lit (.int .u32 1322822218), .lit (.int .u32 1537002063), .lit (.int .u32 1747873779), .lit (.int .u32 1955562222), .lit (.int .u32 2024104815), .lit (.int .u32 2227730452), .lit (.int .u32 2361852424), .lit (.int .u32 2428436474), .lit (.int .u32 2756734187), .lit (.int .u32 3204031479), .lit (.int .u32 3329325298)]
def laid_signet_sha_k512 {H : Type} : DataW H := .agg [.lit (.int .u64 4794697086780616226), .lit (.int .u64 8158064640168781261), .lit (.int .u64 13096744586834688815), .lit (.int .u64 16840607885511220156), .lit (.int .u64 4131703408338449720), .lit (.int .u64 6480981068601479193), .lit (.int .u64 10538285296894168987), .lit (.int .u64 12329834152419229976), .lit (.int .u64 15566598209576043074), .lit (.int .u64 1334009975649890238), .lit (.int .u64 2608012711638119052), .lit (.int .u64 6128411473006802146), .lit (.int .u64 8268148722764581231), .lit (.int .u64 9286055187155687089), .lit (.int .u64 11230858885718282805), .lit (.int .u64 13951009754708518548), .lit (.int .u64 16472876342353939154), .lit (.int .u64 17275323862435702243), .lit (.int .u64 1135362057144423861), .lit (.int .u64 2597628984639134821), .lit (.int .u64 3308224258029322869), .lit (.int .u64 5365058923640841347), .lit (.int .u64 6679025012923562964), .lit (.int .u64 8573033837759648693), .lit (.int .u64 10970295158949994411), .lit (.int .u64 12119686244451234320), .lit (.int .u64 12683024718118986047), .lit (.int .u64 13788192230050041572), .lit (.int .u64 14330467153632333762), .lit (.int .u64 15395433587784984357), .lit (.int .u64 489312712824947311), .lit (.int .u64 1452737877330783856), .lit (.int .u64 2861767655752347644), .lit (.int .u64 3322285676063803686), .lit (.int .u64 5560940570517711597), .lit (.int .u64 5996557281743188959), .lit (.int .u64 7280758554555802590), .lit (.int .u64 8532644243296465576), .lit (.int .u64 9350256976987008742), .lit (.int .u64 10552545826968843579), .lit (.int .u64 11727347734174303076), .lit (.int .u64 12113106623233404929), .lit (.int .u64 14000437183269869457), .lit (.int .u64 14369950271660146224), .lit (.int .u64 15101387698204529176), .lit (.int .u64 15463397548674623760), .lit (.int .u64 17586052441742319658), .lit (.int .u64 1182934255886127544), .lit (.int .u64 1847814050463011016), .lit (.int .u64 2177327727835720531), .lit (.int .u64 2830643537854262169), .lit (.int .u64 3796741975233480872), .lit (.int .u64 4115178125766777443), .lit (.int .u64 5681478168544905931), .lit (.int .u64 6601373596472566643), .lit (.int .u64 7507060721942968483), .lit (.int .u64 8399075790359081724), .lit (.int .u64 8693463985226723168), .lit (.int .u64 9568029438360202098), .lit (.int .u64 10144078919501101548), .lit (.int .u64 10430055236837252648), .lit (.int .u64 11840083180663258601), .lit (.int .u64 13761210420658862357), .lit (.int .u64 14299343276471374635), .lit (.int .u64 14566680578165727644), .lit (.int .u64 15097957966210449927), .lit (.int .u64 16922976911328602910), .lit (.int .u64 17689382322260857208), .lit (.int .u64 500013540394364858), .lit (.int .u64 748580250866718886), .lit (.int .u64 1242879168328830382), .lit (.int .u64 1977374033974150939), .lit (.int .u64 2944078676154940804), .lit (.int .u64 3659926193048069267), .lit (.int .u64 4368137639120453308), .lit (.int .u64 4836135668995329356), .lit (.int .u64 5532061633213252278), .lit (.int .u64 6448918945643986474), .lit (.int .u64 6902733635092675308), .lit (.int .u64 7801388544844847127)]
def laid_signet_sha_start256 {H : Type} : DataW H := .agg [.lit (.int .u32 1779033703), .lit (.int .u32 3144134277), .lit (.int .u32 1013904242), .lit (.int .u32 2773480762), .lit (.int .u32 1359893119), .lit (.int .u32 2600822924), .lit (.int .u32 528734635), .lit (.int .u32 1541459225)]
def laid_signet_sha_start384 {H : Type} : DataW H := .agg [.lit (.int .u64 14680500436340154072), .lit (.int .u64 7105036623409894663), .lit (.int .u64 10473403895298186519), .lit (.int .u64 1526699215303891257), .lit (.int .u64 7436329637833083697), .lit (.int .u64 10282925794625328401), .lit (.int .u64 15784041429090275239), .lit (.int .u64 5167115440072839076)]
def laid_signet_sha_start512 {H : Type} : DataW H := .agg [.lit (.int .u64 7640891576956012808), .lit (.int .u64 13503953896175478587), .lit (.int .u64 4354685564936845355), .lit (.int .u64 11912009170470909681), .lit (.int .u64 5840696475078001361), .lit (.int .u64 11170449401992604703), .lit (.int .u64 2270897969802886507), .lit (.int .u64 6620516959819538809)]
def laid_signet_signetref4_k256 {H : Type} : DataW H := .agg [.lit (.int .u32 1116352408), .lit (.int .u32 1899447441), .lit (.int .u32 3049323471), .lit (.int .u32 3921009573), .lit (.int .u32 961987163), .lit (.int .u32 1508970993), .lit (.int .u32 2453635748), .lit (.int .u32 2870763221), .lit (.int .u32 3624381080), .lit (.int .u32 310598401), .lit (.int .u32 607225278), .lit (.int .u32 1426881987), .lit (.int .u32 1925078388), .lit (.int .u32 2162078206), .lit (.int .u32 2614888103), .lit (.int .u32 3248222580), .lit (.int .u32 3835390401), .lit (.int .u32 4022224774), .lit (.int .u32 264347078), .lit (.int .u32 604807628), .lit (.int .u32 770255983), .lit (.int .u32 1249150122), .lit (.int .u32 1555081692), .lit (.int .u32 1996064986), .lit (.int .u32 2554220882), .lit (.int .u32 2821834349), .lit (.int .u32 2952996808), .lit (.int .u32 3210313671), .lit (.int .u32 3336571891), .lit (.int .u32 3584528711), .lit (.int .u32 113926993), .lit (.int .u32 338241895), .lit (.int .u32 666307205), .lit (.int .u32 773529912), .lit (.int .u32 1294757372), .lit (.int .u32 1396182291), .lit (.int .u32 1695183700), .lit (.int .u32 1986661051), .lit (.int .u32 2177026350), .lit (.int .u32 2456956037), .lit (.int .u32 2730485921), .lit (.int .u32 2820302411), .lit (.int .u32 3259730800), .lit (.int .u32 3345764771), .lit (.int .u32 3516065817), .lit (.int .u32 3600352804), .lit (.int .u32 4094571909), .lit (.int .u32 275423344), .lit (.int .u32 430227734), .lit (.int .u32 506948616), .lit (.int .u32 659060556), .lit (.int .u32 883997877), .lit (.int .u32 958139571), .lit (.int .u32 1322822218), .lit (.int .u32 1537002063), .lit (.int .u32 1747873779), .lit (.int .u32 1955562222), .lit (.int .u32 2024104815), .lit (.int .u32 2227730452), .lit (.int .u32 2361852424), .lit (.int .u32 2428436474), .lit (.int .u32 2756734187), .lit (.int .u32 3204031479), .lit (.int .u32 3329325298)]
def laid_signet_signetref4_k512 {H : Type} : DataW H := .agg [.lit (.int .u64 4794697086780616226), .lit (.int .u64 8158064640168781261), .lit (.int .u64 13096744586834688815), .lit (.int .u64 16840607885511220156), .lit (.int .u64 4131703408338449720), .lit (.int .u64 6480981068601479193), .lit (.int .u64 10538285296894168987), .lit (.int .u64 12329834152419229976), .lit (.int .u64 15566598209576043074), .lit (.int .u64 1334009975649890238), .lit (.int .u64 2608012711638119052), .lit (.int .u64 6128411473006802146), .lit (.int .u64 8268148722764581231), .lit (.int .u64 9286055187155687089), .lit (.int .u64 11230858885718282805), .lit (.int .u64 13951009754708518548), .lit (.int .u64 16472876342353939154), .lit (.int .u64 17275323862435702243), .lit (.int .u64 1135362057144423861), .lit (.int .u64 2597628984639134821), .lit (.int .u64 3308224258029322869), .lit (.int .u64 5365058923640841347), .lit (.int .u64 6679025012923562964), .lit (.int .u64 8573033837759648693), .lit (.int .u64 10970295158949994411), .lit (.int .u64 12119686244451234320), .lit (.int .u64 12683024718118986047), .lit (.int .u64 13788192230050041572), .lit (.int .u64 14330467153632333762), .lit (.int .u64 15395433587784984357), .lit (.int .u64 489312712824947311), .lit (.int .u64 1452737877330783856), .lit (.int .u64 2861767655752347644), .lit (.int .u64 3322285676063803686), .lit (.int .u64 5560940570517711597), .lit (.int .u64 5996557281743188959), .lit (.int .u64 7280758554555802590), .lit (.int .u64 8532644243296465576), .lit (.int .u64 9350256976987008742), .lit (.int .u64 10552545826968843579), .lit (.int .u64 11727347734174303076), .lit (.int .u64 12113106623233404929), .lit (.int .u64 14000437183269869457), .lit (.int .u64 14369950271660146224), .lit (.int .u64 15101387698204529176), .lit (.int .u64 15463397548674623760), .lit (.int .u64 17586052441742319658), .lit (.int .u64 1182934255886127544), .lit (.int .u64 1847814050463011016), .lit (.int .u64 2177327727835720531), .lit (.int .u64 2830643537854262169), .lit (.int .u64 3796741975233480872), .lit (.int .u64 4115178125766777443), .lit (.int .u64 5681478168544905931), .lit (.int .u64 6601373596472566643), .lit (.int .u64 7507060721942968483), .lit (.int .u64 8399075790359081724), .lit (.int .u64 8693463985226723168), .lit (.int .u64 9568029438360202098), .lit (.int .u64 10144078919501101548), .lit (.int .u64 10430055236837252648), .lit (.int .u64 11840083180663258601), .lit (.int .u64 13761210420658862357), .lit (.int .u64 14299343276471374635), .lit (.int .u64 14566680578165727644), .lit (.int .u64 15097957966210449927), .lit (.int .u64 16922976911328602910), .lit (.int .u64 17689382322260857208), .lit (.int .u64 500013540394364858), .lit (.int .u64 748580250866718886), .lit (.int .u64 1242879168328830382), .lit (.int .u64 1977374033974150939), .lit (.int .u64 2944078676154940804), .lit (.int .u64 3659926193048069267), .lit (.int .u64 4368137639120453308), .lit (.int .u64 4836135668995329356), .lit (.int .u64 5532061633213252278), .lit (.int .u64 6448918945643986474), .lit (.int .u64 6902733635092675308), .lit (.int .u64 7801388544844847127)]
def laid_signet_signetref4_start256 {H : Type} : DataW H := .agg [.lit (.int .u32 1779033703), .lit (.int .u32 3144134277), .lit (.int .u32 1013904242), .lit (.int .u32 2773480762), .lit (.int .u32 1359893119), .lit (.int .u32 2600822924), .lit (.int .u32 528734635), .lit (.int .u32 1541459225)]
def laid_signet_signetref4_start384 {H : Type} : DataW H := .agg [.lit (.int .u64 14680500436340154072), .lit (.int .u64 7105036623409894663), .lit (.int .u64 10473403895298186519), .lit (.int .u64 1526699215303891257), .lit (.int .u64 7436329637833083697), .lit (.int .u64 10282925794625328401), .lit (.int .u64 15784041429090275239), .lit (.int .u64 5167115440072839076)]
def laid_signet_signetref4_start512 {H : Type} : DataW H := .agg [.lit (.int .u64 7640891576956012808), .lit (.int .u64 13503953896175478587), .lit (.int .u64 4354685564936845355), .lit (.int .u64 11912009170470909681), .lit (.int .u64 5840696475078001361), .lit (.int .u64 11170449401992604703), .lit (.int .u64 2270897969802886507), .lit (.int .u64 6620516959819538809)]

/-- 'signetlaw4.ShaPlays': WHATEVER THE INPUT: true; the input reads as it did. -/
def shaPlaysSpec : ChangeSpec := { name := "shaPlays", fn := fun _ => fun
  | [d1, d2] => { results := [.lit (.bool true)], args := [d1, d2] }
  | _ => none }
def shaPlaysRow : OpenClaim := { program := "ytiiedgbdooamaaadoor", sum := "3c7460f00aeef3159d220de954abc3b1cdb8910f2db90e24fbfb96d98e62bd33", func := "signet/signetlaw4.ShaPlays", spec := "shaPlays", named := ["signet/sha.start256", "signet/sha.start384", "signet/sha.start512", "signet/sha.k256", "signet/sha.k512", "signet/signetref4.start384", "signet/signetref4.start512", "signet/signetref4.start256", "signet/signetref4.k256", "signet/signetref4.k512"], apart := false, laid := [("signet/sha.k256", laid_signet_sha_k256), ("signet/sha.k512", laid_signet_sha_k512), ("signet/sha.start256", laid_signet_sha_start256), ("signet/sha.start384", laid_signet_sha_start384), ("signet/sha.start512", laid_signet_sha_start512), ("signet/signetref4.k256", laid_signet_signetref4_k256), ("signet/signetref4.k512", laid_signet_signetref4_k512), ("signet/signetref4.start256", laid_signet_signetref4_start256), ("signet/signetref4.start384", laid_signet_signetref4_start384), ("signet/signetref4.start512", laid_signet_signetref4_start512)] }
def ShaPlaysSaid : Prop := shaPlaysRow.holds Tryd.pinned (OpenSpec.ofChange shaPlaysSpec)

/-- ITS FALSE NEIGHBOUR: 'it returns false'. Refute it at one input. -/
def shaPlaysWrong : ChangeSpec := { name := "shaPlays", fn := fun _ => fun
  | [d1, d2] => { results := [.lit (.bool false)], args := [d1, d2] }
  | _ => none }
def ShaPlaysWrongFalsely : Prop := shaPlaysRow.holds Tryd.pinned (OpenSpec.ofChange shaPlaysWrong)

/-- 'signetlaw4.ShaSums': WHATEVER THE INPUT: true; the input reads as it did. -/
def shaSumsSpec : ChangeSpec := { name := "shaSums", fn := fun _ => fun
  | [d1, d2] => { results := [.lit (.bool true)], args := [d1, d2] }
  | _ => none }
def shaSumsRow : OpenClaim := { program := "ytiiedgbdooamaaadoor", sum := "3c7460f00aeef3159d220de954abc3b1cdb8910f2db90e24fbfb96d98e62bd33", func := "signet/signetlaw4.ShaSums", spec := "shaSums", named := ["signet/sha.start256", "signet/sha.start384", "signet/sha.start512", "signet/sha.k256", "signet/sha.k512", "signet/signetref4.start384", "signet/signetref4.start512", "signet/signetref4.start256", "signet/signetref4.k256", "signet/signetref4.k512"], apart := false, laid := [("signet/sha.k256", laid_signet_sha_k256), ("signet/sha.k512", laid_signet_sha_k512), ("signet/sha.start256", laid_signet_sha_start256), ("signet/sha.start384", laid_signet_sha_start384), ("signet/sha.start512", laid_signet_sha_start512), ("signet/signetref4.k256", laid_signet_signetref4_k256), ("signet/signetref4.k512", laid_signet_signetref4_k512), ("signet/signetref4.start256", laid_signet_signetref4_start256), ("signet/signetref4.start384", laid_signet_signetref4_start384), ("signet/signetref4.start512", laid_signet_signetref4_start512)] }
def ShaSumsSaid : Prop := shaSumsRow.holds Tryd.pinned (OpenSpec.ofChange shaSumsSpec)

/-- ITS FALSE NEIGHBOUR: 'it returns false'. Refute it at one input. -/
def shaSumsWrong : ChangeSpec := { name := "shaSums", fn := fun _ => fun
  | [d1, d2] => { results := [.lit (.bool false)], args := [d1, d2] }
  | _ => none }
def ShaSumsWrongFalsely : Prop := shaSumsRow.holds Tryd.pinned (OpenSpec.ofChange shaSumsWrong)

/-- 'signetlaw4.ShaFills': WHATEVER THE INPUT: true; the input reads as it did. -/
def shaFillsSpec : ChangeSpec := { name := "shaFills", fn := fun _ => fun
  | [d1, d2, d3] => { results := [.lit (.bool true)], args := [d1, d2, d3] }
  | _ => none }
def shaFillsRow : OpenClaim := { program := "ytiiedgbdooamaaadoor", sum := "3c7460f00aeef3159d220de954abc3b1cdb8910f2db90e24fbfb96d98e62bd33", func := "signet/signetlaw4.ShaFills", spec := "shaFills", named := ["signet/signetref4.start384", "signet/signetref4.start512", "signet/signetref4.start256", "signet/signetref4.k256", "signet/signetref4.k512", "signet/sha.start256", "signet/sha.start384", "signet/sha.start512", "signet/sha.k256", "signet/sha.k512"], apart := false, laid := [("signet/sha.k256", laid_signet_sha_k256), ("signet/sha.k512", laid_signet_sha_k512), ("signet/sha.start256", laid_signet_sha_start256), ("signet/sha.start384", laid_signet_sha_start384), ("signet/sha.start512", laid_signet_sha_start512), ("signet/signetref4.k256", laid_signet_signetref4_k256), ("signet/signetref4.k512", laid_signet_signetref4_k512), ("signet/signetref4.start256", laid_signet_signetref4_start256), ("signet/signetref4.start384", laid_signet_signetref4_start384), ("signet/signetref4.start512", laid_signet_signetref4_start512)] }
def ShaFillsSaid : Prop := shaFillsRow.holds Tryd.pinned (OpenSpec.ofChange shaFillsSpec)

/-- ITS FALSE NEIGHBOUR: 'it returns false'. Refute it at one input. -/
def shaFillsWrong : ChangeSpec := { name := "shaFills", fn := fun _ => fun
  | [d1, d2, d3] => { results := [.lit (.bool false)], args := [d1, d2, d3] }
  | _ => none }
def ShaFillsWrongFalsely : Prop := shaFillsRow.holds Tryd.pinned (OpenSpec.ofChange shaFillsWrong)

/-- 'signetlaw4.ShaSpares': WHATEVER THE INPUT: true; the input reads as it did. -/
def shaSparesSpec : ChangeSpec := { name := "shaSpares", fn := fun _ => fun
  | [d1, d2, d3] => { results := [.lit (.bool true)], args := [d1, d2, d3] }
  | _ => none }
def shaSparesRow : OpenClaim := { program := "ytiiedgbdooamaaadoor", sum := "3c7460f00aeef3159d220de954abc3b1cdb8910f2db90e24fbfb96d98e62bd33", func := "signet/signetlaw4.ShaSpares", spec := "shaSpares", named := ["signet/sha.start256", "signet/sha.start384", "signet/sha.start512", "signet/sha.k256", "signet/sha.k512"], apart := false, laid := [("signet/sha.k256", laid_signet_sha_k256), ("signet/sha.k512", laid_signet_sha_k512), ("signet/sha.start256", laid_signet_sha_start256), ("signet/sha.start384", laid_signet_sha_start384), ("signet/sha.start512", laid_signet_sha_start512)] }
def ShaSparesSaid : Prop := shaSparesRow.holds Tryd.pinned (OpenSpec.ofChange shaSparesSpec)

/-- ITS FALSE NEIGHBOUR: 'it returns false'. Refute it at one input. -/
def shaSparesWrong : ChangeSpec := { name := "shaSpares", fn := fun _ => fun
  | [d1, d2, d3] => { results := [.lit (.bool false)], args := [d1, d2, d3] }
  | _ => none }
def ShaSparesWrongFalsely : Prop := shaSparesRow.holds Tryd.pinned (OpenSpec.ofChange shaSparesWrong)

/-- 'signetlaw4.ShaPieces': WHATEVER THE INPUT: true; the input reads as it did. -/
def shaPiecesSpec : ChangeSpec := { name := "shaPieces", fn := fun _ => fun
  | [d1, d2, d3, d4] => { results := [.lit (.bool true)], args := [d1, d2, d3, d4] }
  | _ => none }
def shaPiecesRow : OpenClaim := { program := "ytiiedgbdooamaaadoor", sum := "3c7460f00aeef3159d220de954abc3b1cdb8910f2db90e24fbfb96d98e62bd33", func := "signet/signetlaw4.ShaPieces", spec := "shaPieces", named := ["signet/sha.start256", "signet/sha.start384", "signet/sha.start512", "signet/sha.k256", "signet/sha.k512"], apart := false, laid := [("signet/sha.k256", laid_signet_sha_k256), ("signet/sha.k512", laid_signet_sha_k512), ("signet/sha.start256", laid_signet_sha_start256), ("signet/sha.start384", laid_signet_sha_start384), ("signet/sha.start512", laid_signet_sha_start512)] }
def ShaPiecesSaid : Prop := shaPiecesRow.holds Tryd.pinned (OpenSpec.ofChange shaPiecesSpec)

/-- ITS FALSE NEIGHBOUR: 'it returns false'. Refute it at one input. -/
def shaPiecesWrong : ChangeSpec := { name := "shaPieces", fn := fun _ => fun
  | [d1, d2, d3, d4] => { results := [.lit (.bool false)], args := [d1, d2, d3, d4] }
  | _ => none }
def ShaPiecesWrongFalsely : Prop := shaPiecesRow.holds Tryd.pinned (OpenSpec.ofChange shaPiecesWrong)

/-- 'signetlaw5.HmacSums': WHATEVER THE INPUT: true; the input reads as it did. -/
def hmacSumsSpec : ChangeSpec := { name := "hmacSums", fn := fun _ => fun
  | [d1, d2, d3] => { results := [.lit (.bool true)], args := [d1, d2, d3] }
  | _ => none }
def hmacSumsRow : OpenClaim := { program := "ytiiedgbdooamaaadoor", sum := "3c7460f00aeef3159d220de954abc3b1cdb8910f2db90e24fbfb96d98e62bd33", func := "signet/signetlaw5.HmacSums", spec := "hmacSums", named := ["signet/sha.start256", "signet/sha.start384", "signet/sha.start512", "signet/sha.k256", "signet/sha.k512", "signet/signetref4.start384", "signet/signetref4.start512", "signet/signetref4.start256", "signet/signetref4.k256", "signet/signetref4.k512"], apart := false, laid := [("signet/sha.k256", laid_signet_sha_k256), ("signet/sha.k512", laid_signet_sha_k512), ("signet/sha.start256", laid_signet_sha_start256), ("signet/sha.start384", laid_signet_sha_start384), ("signet/sha.start512", laid_signet_sha_start512), ("signet/signetref4.k256", laid_signet_signetref4_k256), ("signet/signetref4.k512", laid_signet_signetref4_k512), ("signet/signetref4.start256", laid_signet_signetref4_start256), ("signet/signetref4.start384", laid_signet_signetref4_start384), ("signet/signetref4.start512", laid_signet_signetref4_start512)] }
def HmacSumsSaid : Prop := hmacSumsRow.holds Tryd.pinned (OpenSpec.ofChange hmacSumsSpec)

/-- ITS FALSE NEIGHBOUR: 'it returns false'. Refute it at one input. -/
def hmacSumsWrong : ChangeSpec := { name := "hmacSums", fn := fun _ => fun
  | [d1, d2, d3] => { results := [.lit (.bool false)], args := [d1, d2, d3] }
  | _ => none }
def HmacSumsWrongFalsely : Prop := hmacSumsRow.holds Tryd.pinned (OpenSpec.ofChange hmacSumsWrong)

/-- 'signetlaw5.HmacChecks': WHATEVER THE INPUT: true; the input reads as it did. -/
def hmacChecksSpec : ChangeSpec := { name := "hmacChecks", fn := fun _ => fun
  | [d1, d2, d3, d4] => { results := [.lit (.bool true)], args := [d1, d2, d3, d4] }
  | _ => none }
def hmacChecksRow : OpenClaim := { program := "ytiiedgbdooamaaadoor", sum := "3c7460f00aeef3159d220de954abc3b1cdb8910f2db90e24fbfb96d98e62bd33", func := "signet/signetlaw5.HmacChecks", spec := "hmacChecks", named := ["signet/sha.start256", "signet/sha.start384", "signet/sha.start512", "signet/sha.k256", "signet/sha.k512", "signet/signetref4.start384", "signet/signetref4.start512", "signet/signetref4.start256", "signet/signetref4.k256", "signet/signetref4.k512"], apart := false, laid := [("signet/sha.k256", laid_signet_sha_k256), ("signet/sha.k512", laid_signet_sha_k512), ("signet/sha.start256", laid_signet_sha_start256), ("signet/sha.start384", laid_signet_sha_start384), ("signet/sha.start512", laid_signet_sha_start512), ("signet/signetref4.k256", laid_signet_signetref4_k256), ("signet/signetref4.k512", laid_signet_signetref4_k512), ("signet/signetref4.start256", laid_signet_signetref4_start256), ("signet/signetref4.start384", laid_signet_signetref4_start384), ("signet/signetref4.start512", laid_signet_signetref4_start512)] }
def HmacChecksSaid : Prop := hmacChecksRow.holds Tryd.pinned (OpenSpec.ofChange hmacChecksSpec)

/-- ITS FALSE NEIGHBOUR: 'it returns false'. Refute it at one input. -/
def hmacChecksWrong : ChangeSpec := { name := "hmacChecks", fn := fun _ => fun
  | [d1, d2, d3, d4] => { results := [.lit (.bool false)], args := [d1, d2, d3, d4] }
  | _ => none }
def HmacChecksWrongFalsely : Prop := hmacChecksRow.holds Tryd.pinned (OpenSpec.ofChange hmacChecksWrong)

/-- 'signetlaw5.HmacIs': WHATEVER THE INPUT: true; the input reads as it did. -/
def hmacIsSpec : ChangeSpec := { name := "hmacIs", fn := fun _ => fun
  | [d1, d2, d3] => { results := [.lit (.bool true)], args := [d1, d2, d3] }
  | _ => none }
def hmacIsRow : OpenClaim := { program := "ytiiedgbdooamaaadoor", sum := "3c7460f00aeef3159d220de954abc3b1cdb8910f2db90e24fbfb96d98e62bd33", func := "signet/signetlaw5.HmacIs", spec := "hmacIs", named := ["signet/sha.start256", "signet/sha.start384", "signet/sha.start512", "signet/sha.k256", "signet/sha.k512"], apart := false, laid := [("signet/sha.k256", laid_signet_sha_k256), ("signet/sha.k512", laid_signet_sha_k512), ("signet/sha.start256", laid_signet_sha_start256), ("signet/sha.start384", laid_signet_sha_start384), ("signet/sha.start512", laid_signet_sha_start512)] }
def HmacIsSaid : Prop := hmacIsRow.holds Tryd.pinned (OpenSpec.ofChange hmacIsSpec)

/-- ITS FALSE NEIGHBOUR: 'it returns false'. Refute it at one input. -/
def hmacIsWrong : ChangeSpec := { name := "hmacIs", fn := fun _ => fun
  | [d1, d2, d3] => { results := [.lit (.bool false)], args := [d1, d2, d3] }
  | _ => none }
def HmacIsWrongFalsely : Prop := hmacIsRow.holds Tryd.pinned (OpenSpec.ofChange hmacIsWrong)

/-- 'signetlaw5.HmacOneKey': WHATEVER THE INPUT: true; the input reads as it did. -/
def hmacOneKeySpec : ChangeSpec := { name := "hmacOneKey", fn := fun _ => fun
  | [d1, d2, d3, d4] => { results := [.lit (.bool true)], args := [d1, d2, d3, d4] }
  | _ => none }
def hmacOneKeyRow : OpenClaim := { program := "ytiiedgbdooamaaadoor", sum := "3c7460f00aeef3159d220de954abc3b1cdb8910f2db90e24fbfb96d98e62bd33", func := "signet/signetlaw5.HmacOneKey", spec := "hmacOneKey", named := ["signet/sha.start256", "signet/sha.start384", "signet/sha.start512", "signet/sha.k256", "signet/sha.k512"], apart := false, laid := [("signet/sha.k256", laid_signet_sha_k256), ("signet/sha.k512", laid_signet_sha_k512), ("signet/sha.start256", laid_signet_sha_start256), ("signet/sha.start384", laid_signet_sha_start384), ("signet/sha.start512", laid_signet_sha_start512)] }
def HmacOneKeySaid : Prop := hmacOneKeyRow.holds Tryd.pinned (OpenSpec.ofChange hmacOneKeySpec)

/-- ITS FALSE NEIGHBOUR: 'it returns false'. Refute it at one input. -/
def hmacOneKeyWrong : ChangeSpec := { name := "hmacOneKey", fn := fun _ => fun
  | [d1, d2, d3, d4] => { results := [.lit (.bool false)], args := [d1, d2, d3, d4] }
  | _ => none }
def HmacOneKeyWrongFalsely : Prop := hmacOneKeyRow.holds Tryd.pinned (OpenSpec.ofChange hmacOneKeyWrong)

/-- 'signetlaw5.HmacTags': WHATEVER THE INPUT: true; the input reads as it did. -/
def hmacTagsSpec : ChangeSpec := { name := "hmacTags", fn := fun _ => fun
  | [d1, d2, d3, d4, d5, d6] => { results := [.lit (.bool true)], args := [d1, d2, d3, d4, d5, d6] }
  | _ => none }
def hmacTagsRow : OpenClaim := { program := "ytiiedgbdooamaaadoor", sum := "3c7460f00aeef3159d220de954abc3b1cdb8910f2db90e24fbfb96d98e62bd33", func := "signet/signetlaw5.HmacTags", spec := "hmacTags", named := ["signet/sha.start256", "signet/sha.start384", "signet/sha.start512", "signet/sha.k256", "signet/sha.k512"], apart := false, laid := [("signet/sha.k256", laid_signet_sha_k256), ("signet/sha.k512", laid_signet_sha_k512), ("signet/sha.start256", laid_signet_sha_start256), ("signet/sha.start384", laid_signet_sha_start384), ("signet/sha.start512", laid_signet_sha_start512)] }
def HmacTagsSaid : Prop := hmacTagsRow.holds Tryd.pinned (OpenSpec.ofChange hmacTagsSpec)

/-- ITS FALSE NEIGHBOUR: 'it returns false'. Refute it at one input. -/
def hmacTagsWrong : ChangeSpec := { name := "hmacTags", fn := fun _ => fun
  | [d1, d2, d3, d4, d5, d6] => { results := [.lit (.bool false)], args := [d1, d2, d3, d4, d5, d6] }
  | _ => none }
def HmacTagsWrongFalsely : Prop := hmacTagsRow.holds Tryd.pinned (OpenSpec.ofChange hmacTagsWrong)

/-- 'signetlaw36.LogRoots': WHATEVER THE INPUT: true; the input reads as it did. -/
def logRootsSpec : ChangeSpec := { name := "logRoots", fn := fun _ => fun
  | [d] => { results := [.lit (.bool true)], args := [d] }
  | _ => none }
def logRootsRow : OpenClaim := { program := "ytiiedgbdooamaaadoor", sum := "3c7460f00aeef3159d220de954abc3b1cdb8910f2db90e24fbfb96d98e62bd33", func := "signet/signetlaw36.LogRoots", spec := "logRoots", recurses := true, named := ["signet/sha.start256", "signet/sha.start384", "signet/sha.start512", "signet/sha.k256", "signet/sha.k512", "signet/signetref4.start384", "signet/signetref4.start512", "signet/signetref4.start256", "signet/signetref4.k256", "signet/signetref4.k512"], apart := false, laid := [("signet/sha.k256", laid_signet_sha_k256), ("signet/sha.k512", laid_signet_sha_k512), ("signet/sha.start256", laid_signet_sha_start256), ("signet/sha.start384", laid_signet_sha_start384), ("signet/sha.start512", laid_signet_sha_start512), ("signet/signetref4.k256", laid_signet_signetref4_k256), ("signet/signetref4.k512", laid_signet_signetref4_k512), ("signet/signetref4.start256", laid_signet_signetref4_start256), ("signet/signetref4.start384", laid_signet_signetref4_start384), ("signet/signetref4.start512", laid_signet_signetref4_start512)] }
def LogRootsSaid : Prop := logRootsRow.holds Tryd.pinned (OpenSpec.ofChange logRootsSpec)

/-- ITS FALSE NEIGHBOUR: 'it returns false'. Refute it at one input. -/
def logRootsWrong : ChangeSpec := { name := "logRoots", fn := fun _ => fun
  | [d] => { results := [.lit (.bool false)], args := [d] }
  | _ => none }
def LogRootsWrongFalsely : Prop := logRootsRow.holds Tryd.pinned (OpenSpec.ofChange logRootsWrong)

/-- 'signetlaw36.LogChecks': WHATEVER THE INPUT: true; the input reads as it did. -/
def logChecksSpec : ChangeSpec := { name := "logChecks", fn := fun _ => fun
  | [d1, d2, d3, d4, d5] => { results := [.lit (.bool true)], args := [d1, d2, d3, d4, d5] }
  | _ => none }
def logChecksRow : OpenClaim := { program := "ytiiedgbdooamaaadoor", sum := "3c7460f00aeef3159d220de954abc3b1cdb8910f2db90e24fbfb96d98e62bd33", func := "signet/signetlaw36.LogChecks", spec := "logChecks", recurses := true, named := ["signet/sha.start256", "signet/sha.start384", "signet/sha.start512", "signet/sha.k256", "signet/sha.k512", "signet/signetref4.start384", "signet/signetref4.start512", "signet/signetref4.start256", "signet/signetref4.k256", "signet/signetref4.k512"], apart := false, laid := [("signet/sha.k256", laid_signet_sha_k256), ("signet/sha.k512", laid_signet_sha_k512), ("signet/sha.start256", laid_signet_sha_start256), ("signet/sha.start384", laid_signet_sha_start384), ("signet/sha.start512", laid_signet_sha_start512), ("signet/signetref4.k256", laid_signet_signetref4_k256), ("signet/signetref4.k512", laid_signet_signetref4_k512), ("signet/signetref4.start256", laid_signet_signetref4_start256), ("signet/signetref4.start384", laid_signet_signetref4_start384), ("signet/signetref4.start512", laid_signet_signetref4_start512)] }
def LogChecksSaid : Prop := logChecksRow.holds Tryd.pinned (OpenSpec.ofChange logChecksSpec)

/-- ITS FALSE NEIGHBOUR: 'it returns false'. Refute it at one input. -/
def logChecksWrong : ChangeSpec := { name := "logChecks", fn := fun _ => fun
  | [d1, d2, d3, d4, d5] => { results := [.lit (.bool false)], args := [d1, d2, d3, d4, d5] }
  | _ => none }
def LogChecksWrongFalsely : Prop := logChecksRow.holds Tryd.pinned (OpenSpec.ofChange logChecksWrong)

/-- 'signetlaw36.LogBinds': WHATEVER THE INPUT: true; the input reads as it did. -/
def logBindsSpec : ChangeSpec := { name := "logBinds", fn := fun _ => fun
  | [d1, d2, d3, d4, d5, d6, d7] => { results := [.lit (.bool true)], args := [d1, d2, d3, d4, d5, d6, d7] }
  | _ => none }
def logBindsRow : OpenClaim := { program := "ytiiedgbdooamaaadoor", sum := "3c7460f00aeef3159d220de954abc3b1cdb8910f2db90e24fbfb96d98e62bd33", func := "signet/signetlaw36.LogBinds", spec := "logBinds", recurses := true, named := ["signet/sha.start256", "signet/sha.start384", "signet/sha.start512", "signet/sha.k256", "signet/sha.k512", "signet/signetref4.start384", "signet/signetref4.start512", "signet/signetref4.start256", "signet/signetref4.k256", "signet/signetref4.k512"], apart := false, laid := [("signet/sha.k256", laid_signet_sha_k256), ("signet/sha.k512", laid_signet_sha_k512), ("signet/sha.start256", laid_signet_sha_start256), ("signet/sha.start384", laid_signet_sha_start384), ("signet/sha.start512", laid_signet_sha_start512), ("signet/signetref4.k256", laid_signet_signetref4_k256), ("signet/signetref4.k512", laid_signet_signetref4_k512), ("signet/signetref4.start256", laid_signet_signetref4_start256), ("signet/signetref4.start384", laid_signet_signetref4_start384), ("signet/signetref4.start512", laid_signet_signetref4_start512)] }
def LogBindsSaid : Prop := logBindsRow.holds Tryd.pinned (OpenSpec.ofChange logBindsSpec)

/-- ITS FALSE NEIGHBOUR: 'it returns false'. Refute it at one input. -/
def logBindsWrong : ChangeSpec := { name := "logBinds", fn := fun _ => fun
  | [d1, d2, d3, d4, d5, d6, d7] => { results := [.lit (.bool false)], args := [d1, d2, d3, d4, d5, d6, d7] }
  | _ => none }
def LogBindsWrongFalsely : Prop := logBindsRow.holds Tryd.pinned (OpenSpec.ofChange logBindsWrong)

/-- 'signetlaw36.LogShows': WHATEVER THE INPUT: true; the input reads as it did. -/
def logShowsSpec : ChangeSpec := { name := "logShows", fn := fun _ => fun
  | [d1, d2, d3, d4, d5] => { results := [.lit (.bool true)], args := [d1, d2, d3, d4, d5] }
  | _ => none }
def logShowsRow : OpenClaim := { program := "ytiiedgbdooamaaadoor", sum := "3c7460f00aeef3159d220de954abc3b1cdb8910f2db90e24fbfb96d98e62bd33", func := "signet/signetlaw36.LogShows", spec := "logShows", recurses := true, named := ["signet/sha.start256", "signet/sha.start384", "signet/sha.start512", "signet/sha.k256", "signet/sha.k512", "signet/signetref4.start384", "signet/signetref4.start512", "signet/signetref4.start256", "signet/signetref4.k256", "signet/signetref4.k512"], apart := false, laid := [("signet/sha.k256", laid_signet_sha_k256), ("signet/sha.k512", laid_signet_sha_k512), ("signet/sha.start256", laid_signet_sha_start256), ("signet/sha.start384", laid_signet_sha_start384), ("signet/sha.start512", laid_signet_sha_start512), ("signet/signetref4.k256", laid_signet_signetref4_k256), ("signet/signetref4.k512", laid_signet_signetref4_k512), ("signet/signetref4.start256", laid_signet_signetref4_start256), ("signet/signetref4.start384", laid_signet_signetref4_start384), ("signet/signetref4.start512", laid_signet_signetref4_start512)] }
def LogShowsSaid : Prop := logShowsRow.holds Tryd.pinned (OpenSpec.ofChange logShowsSpec)

/-- ITS FALSE NEIGHBOUR: 'it returns false'. Refute it at one input. -/
def logShowsWrong : ChangeSpec := { name := "logShows", fn := fun _ => fun
  | [d1, d2, d3, d4, d5] => { results := [.lit (.bool false)], args := [d1, d2, d3, d4, d5] }
  | _ => none }
def LogShowsWrongFalsely : Prop := logShowsRow.holds Tryd.pinned (OpenSpec.ofChange logShowsWrong)

/-- 'signetlaw36.LogPlays': WHATEVER THE INPUT: true; the input reads as it did. -/
def logPlaysSpec : ChangeSpec := { name := "logPlays", fn := fun _ => fun
  | [d] => { results := [.lit (.bool true)], args := [d] }
  | _ => none }
def logPlaysRow : OpenClaim := { program := "ytiiedgbdooamaaadoor", sum := "3c7460f00aeef3159d220de954abc3b1cdb8910f2db90e24fbfb96d98e62bd33", func := "signet/signetlaw36.LogPlays", spec := "logPlays", recurses := true, named := ["signet/sha.start256", "signet/sha.start384", "signet/sha.start512", "signet/sha.k256", "signet/sha.k512", "signet/signetref4.start384", "signet/signetref4.start512", "signet/signetref4.start256", "signet/signetref4.k256", "signet/signetref4.k512"], apart := false, laid := [("signet/sha.k256", laid_signet_sha_k256), ("signet/sha.k512", laid_signet_sha_k512), ("signet/sha.start256", laid_signet_sha_start256), ("signet/sha.start384", laid_signet_sha_start384), ("signet/sha.start512", laid_signet_sha_start512), ("signet/signetref4.k256", laid_signet_signetref4_k256), ("signet/signetref4.k512", laid_signet_signetref4_k512), ("signet/signetref4.start256", laid_signet_signetref4_start256), ("signet/signetref4.start384", laid_signet_signetref4_start384), ("signet/signetref4.start512", laid_signet_signetref4_start512)] }
def LogPlaysSaid : Prop := logPlaysRow.holds Tryd.pinned (OpenSpec.ofChange logPlaysSpec)

/-- ITS FALSE NEIGHBOUR: 'it returns false'. Refute it at one input. -/
def logPlaysWrong : ChangeSpec := { name := "logPlays", fn := fun _ => fun
  | [d] => { results := [.lit (.bool false)], args := [d] }
  | _ => none }
def LogPlaysWrongFalsely : Prop := logPlaysRow.holds Tryd.pinned (OpenSpec.ofChange logPlaysWrong)

/-- 'signetlaw36.LogProves': WHATEVER THE INPUT: true; the input reads as it did. -/
def logProvesSpec : ChangeSpec := { name := "logProves", fn := fun _ => fun
  | [d1, d2] => { results := [.lit (.bool true)], args := [d1, d2] }
  | _ => none }
def logProvesRow : OpenClaim := { program := "ytiiedgbdooamaaadoor", sum := "3c7460f00aeef3159d220de954abc3b1cdb8910f2db90e24fbfb96d98e62bd33", func := "signet/signetlaw36.LogProves", spec := "logProves", recurses := true, named := ["signet/signetref4.start384", "signet/signetref4.start512", "signet/signetref4.start256", "signet/signetref4.k256", "signet/signetref4.k512", "signet/sha.start256", "signet/sha.start384", "signet/sha.start512", "signet/sha.k256", "signet/sha.k512"], apart := false, laid := [("signet/sha.k256", laid_signet_sha_k256), ("signet/sha.k512", laid_signet_sha_k512), ("signet/sha.start256", laid_signet_sha_start256), ("signet/sha.start384", laid_signet_sha_start384), ("signet/sha.start512", laid_signet_sha_start512), ("signet/signetref4.k256", laid_signet_signetref4_k256), ("signet/signetref4.k512", laid_signet_signetref4_k512), ("signet/signetref4.start256", laid_signet_signetref4_start256), ("signet/signetref4.start384", laid_signet_signetref4_start384), ("signet/signetref4.start512", laid_signet_signetref4_start512)] }
def LogProvesSaid : Prop := logProvesRow.holds Tryd.pinned (OpenSpec.ofChange logProvesSpec)

/-- ITS FALSE NEIGHBOUR: 'it returns false'. Refute it at one input. -/
def logProvesWrong : ChangeSpec := { name := "logProves", fn := fun _ => fun
  | [d1, d2] => { results := [.lit (.bool false)], args := [d1, d2] }
  | _ => none }
def LogProvesWrongFalsely : Prop := logProvesRow.holds Tryd.pinned (OpenSpec.ofChange logProvesWrong)

/-- 'signetlaw36.LogGrows': WHATEVER THE INPUT: true; the input reads as it did. -/
def logGrowsSpec : ChangeSpec := { name := "logGrows", fn := fun _ => fun
  | [d1, d2] => { results := [.lit (.bool true)], args := [d1, d2] }
  | _ => none }
def logGrowsRow : OpenClaim := { program := "ytiiedgbdooamaaadoor", sum := "3c7460f00aeef3159d220de954abc3b1cdb8910f2db90e24fbfb96d98e62bd33", func := "signet/signetlaw36.LogGrows", spec := "logGrows", recurses := true, named := ["signet/signetref4.start384", "signet/signetref4.start512", "signet/signetref4.start256", "signet/signetref4.k256", "signet/signetref4.k512", "signet/sha.start256", "signet/sha.start384", "signet/sha.start512", "signet/sha.k256", "signet/sha.k512"], apart := false, laid := [("signet/sha.k256", laid_signet_sha_k256), ("signet/sha.k512", laid_signet_sha_k512), ("signet/sha.start256", laid_signet_sha_start256), ("signet/sha.start384", laid_signet_sha_start384), ("signet/sha.start512", laid_signet_sha_start512), ("signet/signetref4.k256", laid_signet_signetref4_k256), ("signet/signetref4.k512", laid_signet_signetref4_k512), ("signet/signetref4.start256", laid_signet_signetref4_start256), ("signet/signetref4.start384", laid_signet_signetref4_start384), ("signet/signetref4.start512", laid_signet_signetref4_start512)] }
def LogGrowsSaid : Prop := logGrowsRow.holds Tryd.pinned (OpenSpec.ofChange logGrowsSpec)

/-- ITS FALSE NEIGHBOUR: 'it returns false'. Refute it at one input. -/
def logGrowsWrong : ChangeSpec := { name := "logGrows", fn := fun _ => fun
  | [d1, d2] => { results := [.lit (.bool false)], args := [d1, d2] }
  | _ => none }
def LogGrowsWrongFalsely : Prop := logGrowsRow.holds Tryd.pinned (OpenSpec.ofChange logGrowsWrong)

/-- 'signetlaw36.LogKeeps': WHATEVER THE INPUT: true; the input reads as it did. -/
def logKeepsSpec : ChangeSpec := { name := "logKeeps", fn := fun _ => fun
  | [d1, d2] => { results := [.lit (.bool true)], args := [d1, d2] }
  | _ => none }
def logKeepsRow : OpenClaim := { program := "ytiiedgbdooamaaadoor", sum := "3c7460f00aeef3159d220de954abc3b1cdb8910f2db90e24fbfb96d98e62bd33", func := "signet/signetlaw36.LogKeeps", spec := "logKeeps", recurses := true, named := ["signet/sha.start256", "signet/sha.start384", "signet/sha.start512", "signet/sha.k256", "signet/sha.k512", "signet/signetref4.start384", "signet/signetref4.start512", "signet/signetref4.start256", "signet/signetref4.k256", "signet/signetref4.k512"], apart := false, laid := [("signet/sha.k256", laid_signet_sha_k256), ("signet/sha.k512", laid_signet_sha_k512), ("signet/sha.start256", laid_signet_sha_start256), ("signet/sha.start384", laid_signet_sha_start384), ("signet/sha.start512", laid_signet_sha_start512), ("signet/signetref4.k256", laid_signet_signetref4_k256), ("signet/signetref4.k512", laid_signet_signetref4_k512), ("signet/signetref4.start256", laid_signet_signetref4_start256), ("signet/signetref4.start384", laid_signet_signetref4_start384), ("signet/signetref4.start512", laid_signet_signetref4_start512)] }
def LogKeepsSaid : Prop := logKeepsRow.holds Tryd.pinned (OpenSpec.ofChange logKeepsSpec)

/-- ITS FALSE NEIGHBOUR: 'it returns false'. Refute it at one input. -/
def logKeepsWrong : ChangeSpec := { name := "logKeeps", fn := fun _ => fun
  | [d1, d2] => { results := [.lit (.bool false)], args := [d1, d2] }
  | _ => none }
def LogKeepsWrongFalsely : Prop := logKeepsRow.holds Tryd.pinned (OpenSpec.ofChange logKeepsWrong)

/- THE SECOND FORM. 'bulk': how many values and letters a reading holds, each counted each time it is reached (what is shared counts as often as it is met; a slice's spare places count too). A statement '..UptoSaid' is the law's where the arguments, and the package variables that the reading takes, are together of bulk at most 1048576: NARROWER than '..Said'. Prove '..Said' where nothing that the law and all that it calls make is longer than what came in: it says more and counts as full. Else prove '..UptoSaid'. A law counts once. -/
mutual
def uptoBulk {H : Type} : DataW H → Nat
  | .lit (.string bytes) => bytes.length + 1
  | .lit _ => 1
  | .nil => 1
  | .ptr d => uptoBulk d + 1
  | .slice elems spare => uptoBulkAll elems + uptoBulkAll spare + 1
  | .agg parts => uptoBulkAll parts + 1
  | .iface _ d => uptoBulk d + 1
  | .map entries => uptoBulkEntries entries + 1
  | .held _ => 1
def uptoBulkAll {H : Type} : List (DataW H) → Nat
  | [] => 0
  | d :: r => uptoBulk d + uptoBulkAll r
def uptoBulkEntries {H : Type} : List (Lit × DataW H) → Nat
  | [] => 0
  | x :: r => uptoBulkEntry x + uptoBulkEntries r
def uptoBulkEntry {H : Type} : Lit × DataW H → Nat
  | (.string bytes, d) => bytes.length + uptoBulk d + 1
  | (_, d) => uptoBulk d + 1
 end
def uptoSmall : (H : Type) → List (DataW H) → Bool := fun _ ds => decide (uptoBulkAll ds ≤ 1048576)
def OpenSpec.upto (s : _root_.Go.ChangeSpec) : _root_.Go.OpenSpec := { _root_.Go.OpenSpec.ofChange s with cond := some uptoSmall }

/-- 'signetlaw4.ShaPlays', WHERE WHAT IT READS IS OF BULK AT MOST 1048576: true; the input reads as it did. -/
def shaPlaysUptoRow : OpenClaim := { program := "ytiiedgbdooamaaadoor", sum := "3c7460f00aeef3159d220de954abc3b1cdb8910f2db90e24fbfb96d98e62bd33", func := "signet/signetlaw4.ShaPlays", spec := "shaPlays", named := ["signet/sha.start256", "signet/sha.start384", "signet/sha.start512", "signet/sha.k256", "signet/sha.k512", "signet/signetref4.start384", "signet/signetref4.start512", "signet/signetref4.start256", "signet/signetref4.k256", "signet/signetref4.k512"], apart := false, laid := [("signet/sha.k256", laid_signet_sha_k256), ("signet/sha.k512", laid_signet_sha_k512), ("signet/sha.start256", laid_signet_sha_start256), ("signet/sha.start384", laid_signet_sha_start384), ("signet/sha.start512", laid_signet_sha_start512), ("signet/signetref4.k256", laid_signet_signetref4_k256), ("signet/signetref4.k512", laid_signet_signetref4_k512), ("signet/signetref4.start256", laid_signet_signetref4_start256), ("signet/signetref4.start384", laid_signet_signetref4_start384), ("signet/signetref4.start512", laid_signet_signetref4_start512)], narrowed := true }
def ShaPlaysUptoSaid : Prop := shaPlaysUptoRow.holds Tryd.pinned (OpenSpec.upto shaPlaysSpec)

/-- 'signetlaw4.ShaSums', WHERE WHAT IT READS IS OF BULK AT MOST 1048576: true; the input reads as it did. -/
def shaSumsUptoRow : OpenClaim := { program := "ytiiedgbdooamaaadoor", sum := "3c7460f00aeef3159d220de954abc3b1cdb8910f2db90e24fbfb96d98e62bd33", func := "signet/signetlaw4.ShaSums", spec := "shaSums", named := ["signet/sha.start256", "signet/sha.start384", "signet/sha.start512", "signet/sha.k256", "signet/sha.k512", "signet/signetref4.start384", "signet/signetref4.start512", "signet/signetref4.start256", "signet/signetref4.k256", "signet/signetref4.k512"], apart := false, laid := [("signet/sha.k256", laid_signet_sha_k256), ("signet/sha.k512", laid_signet_sha_k512), ("signet/sha.start256", laid_signet_sha_start256), ("signet/sha.start384", laid_signet_sha_start384), ("signet/sha.start512", laid_signet_sha_start512), ("signet/signetref4.k256", laid_signet_signetref4_k256), ("signet/signetref4.k512", laid_signet_signetref4_k512), ("signet/signetref4.start256", laid_signet_signetref4_start256), ("signet/signetref4.start384", laid_signet_signetref4_start384), ("signet/signetref4.start512", laid_signet_signetref4_start512)], narrowed := true }
def ShaSumsUptoSaid : Prop := shaSumsUptoRow.holds Tryd.pinned (OpenSpec.upto shaSumsSpec)

/-- 'signetlaw4.ShaFills', WHERE WHAT IT READS IS OF BULK AT MOST 1048576: true; the input reads as it did. -/
def shaFillsUptoRow : OpenClaim := { program := "ytiiedgbdooamaaadoor", sum := "3c7460f00aeef3159d220de954abc3b1cdb8910f2db90e24fbfb96d98e62bd33", func := "signet/signetlaw4.ShaFills", spec := "shaFills", named := ["signet/signetref4.start384", "signet/signetref4.start512", "signet/signetref4.start256", "signet/signetref4.k256", "signet/signetref4.k512", "signet/sha.start256", "signet/sha.start384", "signet/sha.start512", "signet/sha.k256", "signet/sha.k512"], apart := false, laid := [("signet/sha.k256", laid_signet_sha_k256), ("signet/sha.k512", laid_signet_sha_k512), ("signet/sha.start256", laid_signet_sha_start256), ("signet/sha.start384", laid_signet_sha_start384), ("signet/sha.start512", laid_signet_sha_start512), ("signet/signetref4.k256", laid_signet_signetref4_k256), ("signet/signetref4.k512", laid_signet_signetref4_k512), ("signet/signetref4.start256", laid_signet_signetref4_start256), ("signet/signetref4.start384", laid_signet_signetref4_start384), ("signet/signetref4.start512", laid_signet_signetref4_start512)], narrowed := true }
def ShaFillsUptoSaid : Prop := shaFillsUptoRow.holds Tryd.pinned (OpenSpec.upto shaFillsSpec)

/-- 'signetlaw4.ShaSpares', WHERE WHAT IT READS IS OF BULK AT MOST 1048576: true; the input reads as it did. -/
def shaSparesUptoRow : OpenClaim := { program := "ytiiedgbdooamaaadoor", sum := "3c7460f00aeef3159d220de954abc3b1cdb8910f2db90e24fbfb96d98e62bd33", func := "signet/signetlaw4.ShaSpares", spec := "shaSpares", named := ["signet/sha.start256", "signet/sha.start384", "signet/sha.start512", "signet/sha.k256", "signet/sha.k512"], apart := false, laid := [("signet/sha.k256", laid_signet_sha_k256), ("signet/sha.k512", laid_signet_sha_k512), ("signet/sha.start256", laid_signet_sha_start256), ("signet/sha.start384", laid_signet_sha_start384), ("signet/sha.start512", laid_signet_sha_start512)], narrowed := true }
def ShaSparesUptoSaid : Prop := shaSparesUptoRow.holds Tryd.pinned (OpenSpec.upto shaSparesSpec)

/-- 'signetlaw4.ShaPieces', WHERE WHAT IT READS IS OF BULK AT MOST 1048576: true; the input reads as it did. -/
def shaPiecesUptoRow : OpenClaim := { program := "ytiiedgbdooamaaadoor", sum := "3c7460f00aeef3159d220de954abc3b1cdb8910f2db90e24fbfb96d98e62bd33", func := "signet/signetlaw4.ShaPieces", spec := "shaPieces", named := ["signet/sha.start256", "signet/sha.start384", "signet/sha.start512", "signet/sha.k256", "signet/sha.k512"], apart := false, laid := [("signet/sha.k256", laid_signet_sha_k256), ("signet/sha.k512", laid_signet_sha_k512), ("signet/sha.start256", laid_signet_sha_start256), ("signet/sha.start384", laid_signet_sha_start384), ("signet/sha.start512", laid_signet_sha_start512)], narrowed := true }
def ShaPiecesUptoSaid : Prop := shaPiecesUptoRow.holds Tryd.pinned (OpenSpec.upto shaPiecesSpec)

/-- 'signetlaw5.HmacSums', WHERE WHAT IT READS IS OF BULK AT MOST 1048576: true; the input reads as it did. -/
def hmacSumsUptoRow : OpenClaim := { program := "ytiiedgbdooamaaadoor", sum := "3c7460f00aeef3159d220de954abc3b1cdb8910f2db90e24fbfb96d98e62bd33", func := "signet/signetlaw5.HmacSums", spec := "hmacSums", named := ["signet/sha.start256", "signet/sha.start384", "signet/sha.start512", "signet/sha.k256", "signet/sha.k512", "signet/signetref4.start384", "signet/signetref4.start512", "signet/signetref4.start256", "signet/signetref4.k256", "signet/signetref4.k512"], apart := false, laid := [("signet/sha.k256", laid_signet_sha_k256), ("signet/sha.k512", laid_signet_sha_k512), ("signet/sha.start256", laid_signet_sha_start256), ("signet/sha.start384", laid_signet_sha_start384), ("signet/sha.start512", laid_signet_sha_start512), ("signet/signetref4.k256", laid_signet_signetref4_k256), ("signet/signetref4.k512", laid_signet_signetref4_k512), ("signet/signetref4.start256", laid_signet_signetref4_start256), ("signet/signetref4.start384", laid_signet_signetref4_start384), ("signet/signetref4.start512", laid_signet_signetref4_start512)], narrowed := true }
def HmacSumsUptoSaid : Prop := hmacSumsUptoRow.holds Tryd.pinned (OpenSpec.upto hmacSumsSpec)

/-- 'signetlaw5.HmacChecks', WHERE WHAT IT READS IS OF BULK AT MOST 1048576: true; the input reads as it did. -/
def hmacChecksUptoRow : OpenClaim := { program := "ytiiedgbdooamaaadoor", sum := "3c7460f00aeef3159d220de954abc3b1cdb8910f2db90e24fbfb96d98e62bd33", func := "signet/signetlaw5.HmacChecks", spec := "hmacChecks", named := ["signet/sha.start256", "signet/sha.start384", "signet/sha.start512", "signet/sha.k256", "signet/sha.k512", "signet/signetref4.start384", "signet/signetref4.start512", "signet/signetref4.start256", "signet/signetref4.k256", "signet/signetref4.k512"], apart := false, laid := [("signet/sha.k256", laid_signet_sha_k256), ("signet/sha.k512", laid_signet_sha_k512), ("signet/sha.start256", laid_signet_sha_start256), ("signet/sha.start384", laid_signet_sha_start384), ("signet/sha.start512", laid_signet_sha_start512), ("signet/signetref4.k256", laid_signet_signetref4_k256), ("signet/signetref4.k512", laid_signet_signetref4_k512), ("signet/signetref4.start256", laid_signet_signetref4_start256), ("signet/signetref4.start384", laid_signet_signetref4_start384), ("signet/signetref4.start512", laid_signet_signetref4_start512)], narrowed := true }
def HmacChecksUptoSaid : Prop := hmacChecksUptoRow.holds Tryd.pinned (OpenSpec.upto hmacChecksSpec)

/-- 'signetlaw5.HmacIs', WHERE WHAT IT READS IS OF BULK AT MOST 1048576: true; the input reads as it did. -/
def hmacIsUptoRow : OpenClaim := { program := "ytiiedgbdooamaaadoor", sum := "3c7460f00aeef3159d220de954abc3b1cdb8910f2db90e24fbfb96d98e62bd33", func := "signet/signetlaw5.HmacIs", spec := "hmacIs", named := ["signet/sha.start256", "signet/sha.start384", "signet/sha.start512", "signet/sha.k256", "signet/sha.k512"], apart := false, laid := [("signet/sha.k256", laid_signet_sha_k256), ("signet/sha.k512", laid_signet_sha_k512), ("signet/sha.start256", laid_signet_sha_start256), ("signet/sha.start384", laid_signet_sha_start384), ("signet/sha.start512", laid_signet_sha_start512)], narrowed := true }
def HmacIsUptoSaid : Prop := hmacIsUptoRow.holds Tryd.pinned (OpenSpec.upto hmacIsSpec)

/-- 'signetlaw5.HmacOneKey', WHERE WHAT IT READS IS OF BULK AT MOST 1048576: true; the input reads as it did. -/
def hmacOneKeyUptoRow : OpenClaim := { program := "ytiiedgbdooamaaadoor", sum := "3c7460f00aeef3159d220de954abc3b1cdb8910f2db90e24fbfb96d98e62bd33", func := "signet/signetlaw5.HmacOneKey", spec := "hmacOneKey", named := ["signet/sha.start256", "signet/sha.start384", "signet/sha.start512", "signet/sha.k256", "signet/sha.k512"], apart := false, laid := [("signet/sha.k256", laid_signet_sha_k256), ("signet/sha.k512", laid_signet_sha_k512), ("signet/sha.start256", laid_signet_sha_start256), ("signet/sha.start384", laid_signet_sha_start384), ("signet/sha.start512", laid_signet_sha_start512)], narrowed := true }
def HmacOneKeyUptoSaid : Prop := hmacOneKeyUptoRow.holds Tryd.pinned (OpenSpec.upto hmacOneKeySpec)

/-- 'signetlaw5.HmacTags', WHERE WHAT IT READS IS OF BULK AT MOST 1048576: true; the input reads as it did. -/
def hmacTagsUptoRow : OpenClaim := { program := "ytiiedgbdooamaaadoor", sum := "3c7460f00aeef3159d220de954abc3b1cdb8910f2db90e24fbfb96d98e62bd33", func := "signet/signetlaw5.HmacTags", spec := "hmacTags", named := ["signet/sha.start256", "signet/sha.start384", "signet/sha.start512", "signet/sha.k256", "signet/sha.k512"], apart := false, laid := [("signet/sha.k256", laid_signet_sha_k256), ("signet/sha.k512", laid_signet_sha_k512), ("signet/sha.start256", laid_signet_sha_start256), ("signet/sha.start384", laid_signet_sha_start384), ("signet/sha.start512", laid_signet_sha_start512)], narrowed := true }
def HmacTagsUptoSaid : Prop := hmacTagsUptoRow.holds Tryd.pinned (OpenSpec.upto hmacTagsSpec)

/-- 'signetlaw36.LogRoots', WHERE WHAT IT READS IS OF BULK AT MOST 1048576: true; the input reads as it did. -/
def logRootsUptoRow : OpenClaim := { program := "ytiiedgbdooamaaadoor", sum := "3c7460f00aeef3159d220de954abc3b1cdb8910f2db90e24fbfb96d98e62bd33", func := "signet/signetlaw36.LogRoots", spec := "logRoots", recurses := true, named := ["signet/sha.start256", "signet/sha.start384", "signet/sha.start512", "signet/sha.k256", "signet/sha.k512", "signet/signetref4.start384", "signet/signetref4.start512", "signet/signetref4.start256", "signet/signetref4.k256", "signet/signetref4.k512"], apart := false, laid := [("signet/sha.k256", laid_signet_sha_k256), ("signet/sha.k512", laid_signet_sha_k512), ("signet/sha.start256", laid_signet_sha_start256), ("signet/sha.start384", laid_signet_sha_start384), ("signet/sha.start512", laid_signet_sha_start512), ("signet/signetref4.k256", laid_signet_signetref4_k256), ("signet/signetref4.k512", laid_signet_signetref4_k512), ("signet/signetref4.start256", laid_signet_signetref4_start256), ("signet/signetref4.start384", laid_signet_signetref4_start384), ("signet/signetref4.start512", laid_signet_signetref4_start512)], narrowed := true }
def LogRootsUptoSaid : Prop := logRootsUptoRow.holds Tryd.pinned (OpenSpec.upto logRootsSpec)

/-- 'signetlaw36.LogChecks', WHERE WHAT IT READS IS OF BULK AT MOST 1048576: true; the input reads as it did. -/
def logChecksUptoRow : OpenClaim := { program := "ytiiedgbdooamaaadoor", sum := "3c7460f00aeef3159d220de954abc3b1cdb8910f2db90e24fbfb96d98e62bd33", func := "signet/signetlaw36.LogChecks", spec := "logChecks", recurses := true, named := ["signet/sha.start256", "signet/sha.start384", "signet/sha.start512", "signet/sha.k256", "signet/sha.k512", "signet/signetref4.start384", "signet/signetref4.start512", "signet/signetref4.start256", "signet/signetref4.k256", "signet/signetref4.k512"], apart := false, laid := [("signet/sha.k256", laid_signet_sha_k256), ("signet/sha.k512", laid_signet_sha_k512), ("signet/sha.start256", laid_signet_sha_start256), ("signet/sha.start384", laid_signet_sha_start384), ("signet/sha.start512", laid_signet_sha_start512), ("signet/signetref4.k256", laid_signet_signetref4_k256), ("signet/signetref4.k512", laid_signet_signetref4_k512), ("signet/signetref4.start256", laid_signet_signetref4_start256), ("signet/signetref4.start384", laid_signet_signetref4_start384), ("signet/signetref4.start512", laid_signet_signetref4_start512)], narrowed := true }
def LogChecksUptoSaid : Prop := logChecksUptoRow.holds Tryd.pinned (OpenSpec.upto logChecksSpec)

/-- 'signetlaw36.LogBinds', WHERE WHAT IT READS IS OF BULK AT MOST 1048576: true; the input reads as it did. -/
def logBindsUptoRow : OpenClaim := { program := "ytiiedgbdooamaaadoor", sum := "3c7460f00aeef3159d220de954abc3b1cdb8910f2db90e24fbfb96d98e62bd33", func := "signet/signetlaw36.LogBinds", spec := "logBinds", recurses := true, named := ["signet/sha.start256", "signet/sha.start384", "signet/sha.start512", "signet/sha.k256", "signet/sha.k512", "signet/signetref4.start384", "signet/signetref4.start512", "signet/signetref4.start256", "signet/signetref4.k256", "signet/signetref4.k512"], apart := false, laid := [("signet/sha.k256", laid_signet_sha_k256), ("signet/sha.k512", laid_signet_sha_k512), ("signet/sha.start256", laid_signet_sha_start256), ("signet/sha.start384", laid_signet_sha_start384), ("signet/sha.start512", laid_signet_sha_start512), ("signet/signetref4.k256", laid_signet_signetref4_k256), ("signet/signetref4.k512", laid_signet_signetref4_k512), ("signet/signetref4.start256", laid_signet_signetref4_start256), ("signet/signetref4.start384", laid_signet_signetref4_start384), ("signet/signetref4.start512", laid_signet_signetref4_start512)], narrowed := true }
def LogBindsUptoSaid : Prop := logBindsUptoRow.holds Tryd.pinned (OpenSpec.upto logBindsSpec)

/-- 'signetlaw36.LogShows', WHERE WHAT IT READS IS OF BULK AT MOST 1048576: true; the input reads as it did. -/
def logShowsUptoRow : OpenClaim := { program := "ytiiedgbdooamaaadoor", sum := "3c7460f00aeef3159d220de954abc3b1cdb8910f2db90e24fbfb96d98e62bd33", func := "signet/signetlaw36.LogShows", spec := "logShows", recurses := true, named := ["signet/sha.start256", "signet/sha.start384", "signet/sha.start512", "signet/sha.k256", "signet/sha.k512", "signet/signetref4.start384", "signet/signetref4.start512", "signet/signetref4.start256", "signet/signetref4.k256", "signet/signetref4.k512"], apart := false, laid := [("signet/sha.k256", laid_signet_sha_k256), ("signet/sha.k512", laid_signet_sha_k512), ("signet/sha.start256", laid_signet_sha_start256), ("signet/sha.start384", laid_signet_sha_start384), ("signet/sha.start512", laid_signet_sha_start512), ("signet/signetref4.k256", laid_signet_signetref4_k256), ("signet/signetref4.k512", laid_signet_signetref4_k512), ("signet/signetref4.start256", laid_signet_signetref4_start256), ("signet/signetref4.start384", laid_signet_signetref4_start384), ("signet/signetref4.start512", laid_signet_signetref4_start512)], narrowed := true }
def LogShowsUptoSaid : Prop := logShowsUptoRow.holds Tryd.pinned (OpenSpec.upto logShowsSpec)

/-- 'signetlaw36.LogPlays', WHERE WHAT IT READS IS OF BULK AT MOST 1048576: true; the input reads as it did. -/
def logPlaysUptoRow : OpenClaim := { program := "ytiiedgbdooamaaadoor", sum := "3c7460f00aeef3159d220de954abc3b1cdb8910f2db90e24fbfb96d98e62bd33", func := "signet/signetlaw36.LogPlays", spec := "logPlays", recurses := true, named := ["signet/sha.start256", "signet/sha.start384", "signet/sha.start512", "signet/sha.k256", "signet/sha.k512", "signet/signetref4.start384", "signet/signetref4.start512", "signet/signetref4.start256", "signet/signetref4.k256", "signet/signetref4.k512"], apart := false, laid := [("signet/sha.k256", laid_signet_sha_k256), ("signet/sha.k512", laid_signet_sha_k512), ("signet/sha.start256", laid_signet_sha_start256), ("signet/sha.start384", laid_signet_sha_start384), ("signet/sha.start512", laid_signet_sha_start512), ("signet/signetref4.k256", laid_signet_signetref4_k256), ("signet/signetref4.k512", laid_signet_signetref4_k512), ("signet/signetref4.start256", laid_signet_signetref4_start256), ("signet/signetref4.start384", laid_signet_signetref4_start384), ("signet/signetref4.start512", laid_signet_signetref4_start512)], narrowed := true }
def LogPlaysUptoSaid : Prop := logPlaysUptoRow.holds Tryd.pinned (OpenSpec.upto logPlaysSpec)

/-- 'signetlaw36.LogProves', WHERE WHAT IT READS IS OF BULK AT MOST 1048576: true; the input reads as it did. -/
def logProvesUptoRow : OpenClaim := { program := "ytiiedgbdooamaaadoor", sum := "3c7460f00aeef3159d220de954abc3b1cdb8910f2db90e24fbfb96d98e62bd33", func := "signet/signetlaw36.LogProves", spec := "logProves", recurses := true, named := ["signet/signetref4.start384", "signet/signetref4.start512", "signet/signetref4.start256", "signet/signetref4.k256", "signet/signetref4.k512", "signet/sha.start256", "signet/sha.start384", "signet/sha.start512", "signet/sha.k256", "signet/sha.k512"], apart := false, laid := [("signet/sha.k256", laid_signet_sha_k256), ("signet/sha.k512", laid_signet_sha_k512), ("signet/sha.start256", laid_signet_sha_start256), ("signet/sha.start384", laid_signet_sha_start384), ("signet/sha.start512", laid_signet_sha_start512), ("signet/signetref4.k256", laid_signet_signetref4_k256), ("signet/signetref4.k512", laid_signet_signetref4_k512), ("signet/signetref4.start256", laid_signet_signetref4_start256), ("signet/signetref4.start384", laid_signet_signetref4_start384), ("signet/signetref4.start512", laid_signet_signetref4_start512)], narrowed := true }
def LogProvesUptoSaid : Prop := logProvesUptoRow.holds Tryd.pinned (OpenSpec.upto logProvesSpec)

/-- 'signetlaw36.LogGrows', WHERE WHAT IT READS IS OF BULK AT MOST 1048576: true; the input reads as it did. -/
def logGrowsUptoRow : OpenClaim := { program := "ytiiedgbdooamaaadoor", sum := "3c7460f00aeef3159d220de954abc3b1cdb8910f2db90e24fbfb96d98e62bd33", func := "signet/signetlaw36.LogGrows", spec := "logGrows", recurses := true, named := ["signet/signetref4.start384", "signet/signetref4.start512", "signet/signetref4.start256", "signet/signetref4.k256", "signet/signetref4.k512", "signet/sha.start256", "signet/sha.start384", "signet/sha.start512", "signet/sha.k256", "signet/sha.k512"], apart := false, laid := [("signet/sha.k256", laid_signet_sha_k256), ("signet/sha.k512", laid_signet_sha_k512), ("signet/sha.start256", laid_signet_sha_start256), ("signet/sha.start384", laid_signet_sha_start384), ("signet/sha.start512", laid_signet_sha_start512), ("signet/signetref4.k256", laid_signet_signetref4_k256), ("signet/signetref4.k512", laid_signet_signetref4_k512), ("signet/signetref4.start256", laid_signet_signetref4_start256), ("signet/signetref4.start384", laid_signet_signetref4_start384), ("signet/signetref4.start512", laid_signet_signetref4_start512)], narrowed := true }
def LogGrowsUptoSaid : Prop := logGrowsUptoRow.holds Tryd.pinned (OpenSpec.upto logGrowsSpec)

/-- 'signetlaw36.LogKeeps', WHERE WHAT IT READS IS OF BULK AT MOST 1048576: true; the input reads as it did. -/
def logKeepsUptoRow : OpenClaim := { program := "ytiiedgbdooamaaadoor", sum := "3c7460f00aeef3159d220de954abc3b1cdb8910f2db90e24fbfb96d98e62bd33", func := "signet/signetlaw36.LogKeeps", spec := "logKeeps", recurses := true, named := ["signet/sha.start256", "signet/sha.start384", "signet/sha.start512", "signet/sha.k256", "signet/sha.k512", "signet/signetref4.start384", "signet/signetref4.start512", "signet/signetref4.start256", "signet/signetref4.k256", "signet/signetref4.k512"], apart := false, laid := [("signet/sha.k256", laid_signet_sha_k256), ("signet/sha.k512", laid_signet_sha_k512), ("signet/sha.start256", laid_signet_sha_start256), ("signet/sha.start384", laid_signet_sha_start384), ("signet/sha.start512", laid_signet_sha_start512), ("signet/signetref4.k256", laid_signet_signetref4_k256), ("signet/signetref4.k512", laid_signet_signetref4_k512), ("signet/signetref4.start256", laid_signet_signetref4_start256), ("signet/signetref4.start384", laid_signet_signetref4_start384), ("signet/signetref4.start512", laid_signet_signetref4_start512)], narrowed := true }
def LogKeepsUptoSaid : Prop := logKeepsUptoRow.holds Tryd.pinned (OpenSpec.upto logKeepsSpec)

end Rows
end Go.Proofs.YtiiedgbdooamaaaDoor
