/- Texts of this claim, joined. -/
import Derived.Test.YtalmoocpebhoiaaGreatDoorPk2
import Derived.Test.YtalmoocpebhoiaaGreatDoorPk3
import Derived.Test.YtalmoocpebhoiaaGreatDoorPk4
import Derived.Test.YtalmoocpebhoiaaGreatDoorProg
import Derived.KernelRfl
import Derived.Shelf.Strings.Builder1
import Derived.Shelf.Strings.Builder2
import Derived.Shelf.Strings.OnBuilder
import Derived.Shelf.Strings.Trim
import Derived.Shelf.Small.Utf8
import Derived.Shelf.Small.Strs
import Derived.Shelf.Strings.BuilderF
import Derived.Shelf.Strings.BuilderK
import Derived.Shelf.Strings.Builder2Cap
import Derived.Shelf.Strconv.Itoa0
import Derived.Shelf.Strconv.Itoa1
import Derived.Shelf.LaysM
import Derived.Shelf.Strconv.Itoa2
import Derived.Shelf.Strconv.Itoa3
import Derived.Shelf.Strconv.Itoa4
import Derived.Shelf.Strconv.ParseIntEmpty
import Derived.Shelf.Strconv.Clone
import Derived.Shelf.Strconv.SyntaxError
import Derived.Shelf.LaysC
import Derived.Shelf.Strconv.ToError
import Derived.Shelf.Strconv.Lower
import Derived.Shelf.Strconv.ParseUint10
import Derived.Shelf.Strconv.ParseUint10Empty
import Derived.Shelf.Strconv.ParseUint10Any
import Derived.Shelf.Strconv.ParseInt10
import Derived.Shelf.Strconv.RangeError
import Derived.Shelf.Strconv.ToErrorRange
import Derived.Shelf.Strconv.ParseUintEmpty
import Derived.Shelf.Strconv.ParseUint10b64
import Derived.Shelf.Strconv.ParseUint10b32
import Derived.Shelf.Strconv.ParseUint10b16
import Derived.Shelf.Strconv.ParseUint10b8
import Derived.Shelf.Strconv.ParseUint10At
import Derived.Shelf.Strconv.ParseInt10At64
import Derived.Shelf.Strconv.ParseInt10At32
import Derived.Shelf.Strconv.ParseInt10At16
import Derived.Shelf.Strconv.ParseInt10At8
import Derived.Shelf.Strconv.ParseInt10All
import Derived.Shelf.Strconv.ParseIntPublic10
import Derived.Shelf.Strconv.ErrVarParseInt
import Derived.Shelf.Strings.Search1
import Derived.Shelf.Strings.Search2
import Derived.Shelf.Strings.Search3
import Derived.Shelf.Strings.Cut
import Derived.Shelf.Strings.Count
import Derived.Shelf.Strings.Shaped
import Derived.Shelf.Strings.Prefix
import Derived.Shelf.Strings.Split
import Derived.Shelf.Strings.SplitShaped
import Derived.Shelf.Unicode.Decode
import Derived.Shelf.Strings.Runes
import Derived.Shelf.Strings.AsciiSet
import Derived.Shelf.Unicode.DecodeSlow
import Derived.Shelf.Unicode.DecodeAny
import Derived.Shelf.Unicode.DecodeLast
import Derived.Shelf.Strings.BuilderCap
import Derived.Ground.Names2Prog
import Derived.Shelf.Slices.Clone
import Derived.Shelf.Strings.SlTrimAscii
set_option linter.unusedSimpArgs false
set_option linter.unusedVariables false
set_option maxRecDepth 20000
set_option maxHeartbeats 8000000
namespace Go.Proofs.YtalmoocpebhoiaaGreatDoor.Am
def tys:Tys:=[
 ⟨1,.other,1,8,[.nilFunc],false⟩,
 ⟨2,.int .i64,1,8,[.int .i64 0],false⟩,
 ⟨3,.int .i64,1,8,[.int .i64 0],false⟩,
 ⟨4,.bool,1,1,[.bool false],false⟩,
 ⟨5,.int .u8,1,1,[.int .u8 0],false⟩,
 ⟨9,.str,1,16,[.string ⟨#[]⟩],false⟩,
 ⟨12,.int .u64,1,8,[.int .u64 0],false⟩,
 ⟨15,.other,1,8,[.pointer none],false⟩,
 ⟨16,.other,1,8,[.pointer none],false⟩,
 ⟨17,.other,1,8,[.pointer none],false⟩,
 ⟨20,.other,1,16,[.nilIface],false⟩,
 ⟨21,.int .i32,1,4,[.int .i32 0],false⟩,
 ⟨22,.slice 37,1,24,[.slice none 0 0],false⟩,
 ⟨23,.other,1,8,[.nilFunc],false⟩,
 ⟨24,.other,1,8,[.nilFunc],false⟩,
 ⟨25,.int .i64,1,8,[.int .i64 0],false⟩,
 ⟨27,.other,1,8,[.nilFunc],false⟩,
 ⟨29,.other,1,8,[.nilFunc],false⟩,
 ⟨30,.other,1,8,[.nilFunc],false⟩,
 ⟨31,.other,1,8,[.nilFunc],false⟩,
 ⟨33,.other,1,8,[.nilFunc],false⟩,
 ⟨34,.slice 39,1,24,[.slice none 0 0],false⟩,
 ⟨35,.slice 9,1,24,[.slice none 0 0],false⟩,
 ⟨36,.struct [(3,0,1),(9,1,1),(3,2,1),(34,3,1),(9,4,1),(3,5,1),(3,6,1),(3,7,1),(4,8,1),(35,9,1)],10,128,[.int .i64 0,.string ⟨#[]⟩,.int .i64 0,.slice none 0 0,.string ⟨#[]⟩,.int .i64 0,.int .i64 0,.int .i64 0,.bool false,.slice none 0 0],true⟩,
 ⟨37,.struct [(3,0,1),(9,1,1),(3,2,1),(34,3,1),(9,4,1),(3,5,1),(3,6,1),(3,7,1),(4,8,1),(35,9,1)],10,128,[.int .i64 0,.string ⟨#[]⟩,.int .i64 0,.slice none 0 0,.string ⟨#[]⟩,.int .i64 0,.int .i64 0,.int .i64 0,.bool false,.slice none 0 0],true⟩,
 ⟨38,.struct [(9,0,1),(9,1,1)],2,32,[.string ⟨#[]⟩,.string ⟨#[]⟩],true⟩,
 ⟨39,.struct [(9,0,1),(9,1,1)],2,32,[.string ⟨#[]⟩,.string ⟨#[]⟩],true⟩,
 ⟨40,.other,1,8,[.nilFunc],false⟩,
 ⟨41,.slice 3,1,24,[.slice none 0 0],false⟩,
 ⟨43,.other,1,8,[.nilFunc],false⟩,
 ⟨44,.other,1,8,[.nilFunc],false⟩,
 ⟨45,.other,1,8,[.nilFunc],false⟩,
 ⟨46,.slice 55,1,24,[.slice none 0 0],false⟩,
 ⟨47,.struct [(34,0,1),(4,1,1),(35,2,1),(46,3,1)],4,80,[.slice none 0 0,.bool false,.slice none 0 0,.slice none 0 0],true⟩,
 ⟨48,.struct [(34,0,1),(4,1,1),(35,2,1),(46,3,1)],4,80,[.slice none 0 0,.bool false,.slice none 0 0,.slice none 0 0],true⟩,
 ⟨50,.other,1,8,[.nilFunc],false⟩,
 ⟨51,.other,1,8,[.nilFunc],false⟩,
 ⟨52,.struct [(3,0,1),(9,1,1),(3,2,1),(34,3,1),(9,4,1),(3,5,1),(3,6,1),(3,7,1)],8,96,[.int .i64 0,.string ⟨#[]⟩,.int .i64 0,.slice none 0 0,.string ⟨#[]⟩,.int .i64 0,.int .i64 0,.int .i64 0],true⟩,
 ⟨53,.struct [(3,0,1),(9,1,1),(3,2,1),(34,3,1),(9,4,1),(3,5,1),(3,6,1),(3,7,1)],8,96,[.int .i64 0,.string ⟨#[]⟩,.int .i64 0,.slice none 0 0,.string ⟨#[]⟩,.int .i64 0,.int .i64 0,.int .i64 0],true⟩,
 ⟨54,.struct [(9,0,1),(53,1,8),(4,9,1),(4,10,1),(3,11,1)],12,128,[.string ⟨#[]⟩,.int .i64 0,.string ⟨#[]⟩,.int .i64 0,.slice none 0 0,.string ⟨#[]⟩,.int .i64 0,.int .i64 0,.int .i64 0,.bool false,.bool false,.int .i64 0],true⟩,
 ⟨55,.struct [(9,0,1),(53,1,8),(4,9,1),(4,10,1),(3,11,1)],12,128,[.string ⟨#[]⟩,.int .i64 0,.string ⟨#[]⟩,.int .i64 0,.slice none 0 0,.string ⟨#[]⟩,.int .i64 0,.int .i64 0,.int .i64 0,.bool false,.bool false,.int .i64 0],true⟩,
 ⟨56,.other,1,8,[.nilFunc],false⟩,
 ⟨57,.slice 53,1,24,[.slice none 0 0],false⟩,
 ⟨58,.other,1,8,[.nilFunc],false⟩,
 ⟨59,.other,1,8,[.nilFunc],false⟩,
 ⟨60,.other,1,8,[.nilFunc],false⟩,
 ⟨61,.other,1,8,[.nilFunc],false⟩,
 ⟨62,.struct [(3,0,1),(35,1,1)],2,32,[.int .i64 0,.slice none 0 0],true⟩,
 ⟨63,.struct [(3,0,1),(35,1,1)],2,32,[.int .i64 0,.slice none 0 0],true⟩,
 ⟨64,.slice 67,1,24,[.slice none 0 0],false⟩,
 ⟨65,.other,1,8,[.nilFunc],false⟩,
 ⟨66,.struct [(9,0,1),(4,1,1)],2,24,[.string ⟨#[]⟩,.bool false],true⟩,
 ⟨67,.struct [(9,0,1),(4,1,1)],2,24,[.string ⟨#[]⟩,.bool false],true⟩,
 ⟨68,.other,1,8,[.nilFunc],false⟩,
 ⟨69,.other,1,8,[.nilFunc],false⟩,
 ⟨70,.other,1,8,[.nilFunc],false⟩,
 ⟨72,.other,1,8,[.nilFunc],false⟩,
 ⟨73,.other,1,8,[.nilFunc],false⟩,
 ⟨75,.other,1,8,[.nilFunc],false⟩,
 ⟨76,.other,1,8,[.nilFunc],false⟩,
 ⟨77,.other,1,8,[.nilFunc],false⟩,
 ⟨79,.other,1,8,[.nilFunc],false⟩,
 ⟨80,.other,1,8,[.map none],false⟩,
 ⟨81,.other,1,8,[.nilFunc],false⟩,
 ⟨83,.other,1,8,[.nilFunc],false⟩,
 ⟨84,.other,1,8,[.nilFunc],false⟩,
 ⟨85,.other,1,8,[.nilFunc],false⟩,
 ⟨86,.other,1,8,[.nilFunc],false⟩,
 ⟨87,.other,1,8,[.nilFunc],false⟩,
 ⟨88,.other,1,8,[.nilFunc],false⟩,
 ⟨89,.other,1,8,[.nilFunc],false⟩,
 ⟨90,.other,1,8,[.nilFunc],false⟩,
 ⟨91,.other,1,8,[.nilFunc],false⟩,
 ⟨92,.other,1,8,[.nilFunc],false⟩,
 ⟨93,.other,1,8,[.nilFunc],false⟩,
 ⟨94,.other,1,8,[.nilFunc],false⟩,
 ⟨95,.other,1,8,[.map none],false⟩,
 ⟨96,.other,1,8,[.nilFunc],false⟩,
 ⟨97,.other,1,8,[.pointer none],false⟩,
 ⟨98,.slice 5,1,24,[.slice none 0 0],false⟩,
 ⟨99,.struct [(97,0,1),(98,1,1)],2,32,[.pointer none,.slice none 0 0],true⟩,
 ⟨100,.struct [(97,0,1),(98,1,1)],2,32,[.pointer none,.slice none 0 0],true⟩,
 ⟨101,.other,1,8,[.nilFunc],false⟩,
 ⟨102,.other,1,8,[.nilFunc],false⟩,
 ⟨103,.other,1,8,[.nilFunc],false⟩,
 ⟨104,.other,1,16,[.nilIface],false⟩,
 ⟨105,.other,1,16,[.nilIface],false⟩,
 ⟨107,.other,1,8,[.nilFunc],false⟩,
 ⟨108,.other,1,8,[.nilFunc],false⟩,
 ⟨109,.other,1,8,[.nilFunc],false⟩,
 ⟨110,.other,1,8,[.nilFunc],false⟩,
 ⟨111,.other,1,8,[.nilFunc],false⟩,
 ⟨112,.other,1,8,[.nilFunc],false⟩,
 ⟨113,.other,1,8,[.nilFunc],false⟩,
 ⟨114,.other,1,8,[.nilFunc],false⟩,
 ⟨115,.other,1,8,[.nilFunc],false⟩,
 ⟨117,.other,1,8,[.nilFunc],false⟩,
 ⟨118,.other,1,8,[.nilFunc],false⟩,
 ⟨120,.other,1,8,[.nilFunc],false⟩,
 ⟨121,.other,1,8,[.nilFunc],false⟩,
 ⟨122,.other,1,8,[.nilFunc],false⟩,
 ⟨123,.other,1,8,[.nilFunc],false⟩,
 ⟨124,.other,1,8,[.nilFunc],false⟩,
 ⟨125,.other,1,8,[.nilFunc],false⟩,
 ⟨126,.other,1,8,[.nilFunc],false⟩,
 ⟨127,.other,1,8,[.nilFunc],false⟩,
 ⟨128,.other,1,8,[.pointer none],false⟩,
 ⟨129,.other,1,8,[.map none],false⟩,
 ⟨130,.slice 181,1,24,[.slice none 0 0],false⟩,
 ⟨131,.struct [(130,0,1),(4,1,1),(129,2,1),(80,3,1),(3,4,1)],5,56,[.slice none 0 0,.bool false,.map none,.map none,.int .i64 0],true⟩,
 ⟨132,.struct [(130,0,1),(4,1,1),(129,2,1),(80,3,1),(3,4,1)],5,56,[.slice none 0 0,.bool false,.map none,.map none,.int .i64 0],true⟩,
 ⟨133,.other,1,8,[.nilFunc],false⟩,
 ⟨134,.other,1,8,[.nilFunc],false⟩,
 ⟨135,.slice 57,1,24,[.slice none 0 0],false⟩,
 ⟨136,.other,1,8,[.nilFunc],false⟩,
 ⟨137,.other,6,96,[.string ⟨#[]⟩,.string ⟨#[]⟩,.string ⟨#[]⟩,.string ⟨#[]⟩,.string ⟨#[]⟩,.string ⟨#[]⟩],true⟩,
 ⟨138,.other,1,8,[.nilFunc],false⟩,
 ⟨139,.other,1,8,[.nilFunc],false⟩,
 ⟨140,.other,1,8,[.pointer none],false⟩,
 ⟨141,.other,1,8,[.nilFunc],false⟩,
 ⟨142,.other,1,8,[.nilFunc],false⟩,
 ⟨143,.other,1,8,[.nilFunc],false⟩,
 ⟨144,.int .u64,1,8,[.int .u64 0],false⟩,
 ⟨145,.other,1,8,[.nilFunc],false⟩,
 ⟨146,.other,1,8,[.nilFunc],false⟩,
 ⟨147,.other,1,8,[.nilFunc],false⟩,
 ⟨148,.other,1,8,[.nilFunc],false⟩,
 ⟨149,.other,1,8,[.nilFunc],false⟩,
 ⟨150,.other,1,8,[.nilFunc],false⟩,
 ⟨151,.other,1,8,[.pointer none],false⟩,
 ⟨152,.struct [(64,0,1),(4,1,1)],2,32,[.slice none 0 0,.bool false],true⟩,
 ⟨153,.struct [(64,0,1),(4,1,1)],2,32,[.slice none 0 0,.bool false],true⟩,
 ⟨154,.other,1,8,[.nilFunc],false⟩,
 ⟨155,.other,1,8,[.nilFunc],false⟩,
 ⟨157,.other,1,8,[.nilFunc],false⟩,
 ⟨159,.other,1,8,[.nilFunc],false⟩,
 ⟨160,.other,3,24,[.int .i64 0,.int .i64 0,.int .i64 0],true⟩,
 ⟨162,.other,1,8,[.nilFunc],false⟩,
 ⟨163,.other,1,8,[.nilFunc],false⟩,
 ⟨164,.other,1,8,[.nilFunc],false⟩,
 ⟨165,.other,1,8,[.nilFunc],false⟩,
 ⟨167,.other,1,8,[.nilFunc],false⟩,
 ⟨168,.other,1,8,[.nilFunc],false⟩,
 ⟨169,.other,1,8,[.nilFunc],false⟩,
 ⟨170,.other,1,8,[.nilFunc],false⟩,
 ⟨171,.struct [(5,0,1),(5,1,1)],2,2,[.int .u8 0,.int .u8 0],true⟩,
 ⟨172,.other,10,10,[.int .u8 0,.int .u8 0,.int .u8 0,.int .u8 0,.int .u8 0,.int .u8 0,.int .u8 0,.int .u8 0,.int .u8 0,.int .u8 0],true⟩,
 ⟨173,.other,1,8,[.nilFunc],false⟩,
 ⟨174,.other,1,8,[.nilFunc],false⟩,
 ⟨175,.other,1,8,[.nilFunc],false⟩,
 ⟨177,.other,1,8,[.nilFunc],false⟩,
 ⟨178,.other,1,8,[.nilFunc],false⟩,
 ⟨179,.other,1,8,[.nilFunc],false⟩,
 ⟨180,.struct [(3,0,1),(9,1,1)],2,24,[.int .i64 0,.string ⟨#[]⟩],true⟩,
 ⟨181,.struct [(3,0,1),(9,1,1)],2,24,[.int .i64 0,.string ⟨#[]⟩],true⟩,
 ⟨182,.other,1,8,[.pointer none],false⟩,
 ⟨184,.other,1,8,[.nilFunc],false⟩,
 ⟨185,.other,1,8,[.nilFunc],false⟩,
 ⟨186,.other,1,8,[.nilFunc],false⟩,
 ⟨188,.other,1,8,[.nilFunc],false⟩,
 ⟨189,.other,1,8,[.nilFunc],false⟩,
 ⟨191,.other,1,8,[.nilFunc],false⟩,
 ⟨193,.other,1,8,[.nilFunc],false⟩,
 ⟨194,.other,1,8,[.nilFunc],false⟩,
 ⟨195,.other,1,8,[.nilFunc],false⟩,
 ⟨196,.other,24,24,[.int .u8 0,.int .u8 0,.int .u8 0,.int .u8 0,.int .u8 0,.int .u8 0,.int .u8 0,.int .u8 0,.int .u8 0,.int .u8 0,.int .u8 0,.int .u8 0,.int .u8 0,.int .u8 0,.int .u8 0,.int .u8 0,.int .u8 0,.int .u8 0,.int .u8 0,.int .u8 0,.int .u8 0,.int .u8 0,.int .u8 0,.int .u8 0],true⟩,
 ⟨197,.int .u64,1,8,[.int .u64 0],false⟩,
 ⟨198,.other,1,8,[.nilFunc],false⟩,
 ⟨199,.other,1,8,[.nilFunc],false⟩,
 ⟨201,.other,1,8,[.nilFunc],false⟩,
 ⟨202,.other,1,8,[.nilFunc],false⟩,
 ⟨203,.other,1,8,[.nilFunc],false⟩,
 ⟨204,.other,1,8,[.nilFunc],false⟩,
 ⟨205,.other,1,8,[.nilFunc],false⟩,
 ⟨206,.other,1,8,[.nilFunc],false⟩,
 ⟨207,.other,20,160,[.int .u64 0,.int .u64 0,.int .u64 0,.int .u64 0,.int .u64 0,.int .u64 0,.int .u64 0,.int .u64 0,.int .u64 0,.int .u64 0,.int .u64 0,.int .u64 0,.int .u64 0,.int .u64 0,.int .u64 0,.int .u64 0,.int .u64 0,.int .u64 0,.int .u64 0,.int .u64 0],true⟩,
 ⟨208,.int .u32,1,4,[.int .u32 0],false⟩,
 ⟨210,.other,1,8,[.nilFunc],false⟩,
 ⟨212,.struct [(5,0,1),(5,1,1)],2,2,[.int .u8 0,.int .u8 0],true⟩,
 ⟨213,.struct [(5,0,1),(5,1,1)],2,2,[.int .u8 0,.int .u8 0],true⟩,
 ⟨214,.other,32,32,[.int .u8 0,.int .u8 0,.int .u8 0,.int .u8 0,.int .u8 0,.int .u8 0,.int .u8 0,.int .u8 0,.int .u8 0,.int .u8 0,.int .u8 0,.int .u8 0,.int .u8 0,.int .u8 0,.int .u8 0,.int .u8 0,.int .u8 0,.int .u8 0,.int .u8 0,.int .u8 0,.int .u8 0,.int .u8 0,.int .u8 0,.int .u8 0,.int .u8 0,.int .u8 0,.int .u8 0,.int .u8 0,.int .u8 0,.int .u8 0,.int .u8 0,.int .u8 0],true⟩,
 ⟨216,.other,1,8,[.nilFunc],false⟩,
 ⟨217,.other,1,8,[.nilFunc],false⟩,
 ⟨221,.other,1,8,[.nilFunc],false⟩,
 ⟨222,.other,1,8,[.nilFunc],false⟩,
 ⟨223,.other,1,8,[.pointer none],false⟩,
 ⟨226,.other,1,8,[.nilFunc],false⟩,
 ⟨227,.other,1,8,[.pointer none],false⟩,
 ⟨228,.other,1,8,[.nilFunc],false⟩,
 ⟨229,.other,1,8,[.nilFunc],false⟩,
 ⟨230,.other,1,8,[.nilFunc],false⟩,
 ⟨231,.other,1,8,[.nilFunc],false⟩,
 ⟨232,.struct [(9,0,1),(9,1,1),(105,2,1)],3,48,[.string ⟨#[]⟩,.string ⟨#[]⟩,.nilIface],true⟩,
 ⟨233,.struct [(9,0,1),(9,1,1),(105,2,1)],3,48,[.string ⟨#[]⟩,.string ⟨#[]⟩,.nilIface],true⟩,
 ⟨234,.other,1,8,[.nilFunc],false⟩,
 ⟨235,.other,32,32,[.int .u8 0,.int .u8 0,.int .u8 0,.int .u8 0,.int .u8 0,.int .u8 0,.int .u8 0,.int .u8 0,.int .u8 0,.int .u8 0,.int .u8 0,.int .u8 0,.int .u8 0,.int .u8 0,.int .u8 0,.int .u8 0,.int .u8 0,.int .u8 0,.int .u8 0,.int .u8 0,.int .u8 0,.int .u8 0,.int .u8 0,.int .u8 0,.int .u8 0,.int .u8 0,.int .u8 0,.int .u8 0,.int .u8 0,.int .u8 0,.int .u8 0,.int .u8 0],true⟩,
 ⟨236,.other,64,64,[.int .u8 0,.int .u8 0,.int .u8 0,.int .u8 0,.int .u8 0,.int .u8 0,.int .u8 0,.int .u8 0,.int .u8 0,.int .u8 0,.int .u8 0,.int .u8 0,.int .u8 0,.int .u8 0,.int .u8 0,.int .u8 0,.int .u8 0,.int .u8 0,.int .u8 0,.int .u8 0,.int .u8 0,.int .u8 0,.int .u8 0,.int .u8 0,.int .u8 0,.int .u8 0,.int .u8 0,.int .u8 0,.int .u8 0,.int .u8 0,.int .u8 0,.int .u8 0,.int .u8 0,.int .u8 0,.int .u8 0,.int .u8 0,.int .u8 0,.int .u8 0,.int .u8 0,.int .u8 0,.int .u8 0,.int .u8 0,.int .u8 0,.int .u8 0,.int .u8 0,.int .u8 0,.int .u8 0,.int .u8 0,.int .u8 0,.int .u8 0,.int .u8 0,.int .u8 0,.int .u8 0,.int .u8 0,.int .u8 0,.int .u8 0,.int .u8 0,.int .u8 0,.int .u8 0,.int .u8 0,.int .u8 0,.int .u8 0,.int .u8 0,.int .u8 0],true⟩,
 ⟨237,.other,1,8,[.nilFunc],false⟩,
 ⟨238,.other,1,8,[.pointer none],false⟩,
 ⟨239,.struct [(9,0,1)],1,16,[.string ⟨#[]⟩],true⟩,
 ⟨240,.struct [(9,0,1)],1,16,[.string ⟨#[]⟩],true⟩,
 ⟨248,.other,1,8,[.nilFunc],false⟩,
 ⟨251,.struct [(12,0,1),(12,1,1),(208,2,1),(246,3,1),(5,4,1),(5,5,1),(247,6,1),(248,7,1),(140,8,1),(249,9,1),(250,10,1)],11,48,[.int .u64 0,.int .u64 0,.int .u32 0,.int .u8 0,.int .u8 0,.int .u8 0,.int .u8 0,.nilFunc,.pointer none,.int .i32 0,.int .i32 0],true⟩]
theorem yA {P:Program} {t:TI} {z:Value} {d:TypeDesc} (h2:P.underlying t.id=some d) (hz:t.zero=[z]:=by rfl) (h1:(P.info? t.id).map (fun i=>(i.zero,i.size,i.bytes))=some (some z,t.size,t.bytes):=by kernel_rfl) (h3:TK.ok P d t.k:=by first | exact trivial | exact rfl) (h4:d.isRow=t.agg:=by rfl) (h5:z.cells.toList=t.zero:=by rfl) (h6:t.zero.all Value.oneCell' = true:=by rfl) (h7:t.zero.length=t.size:=by rfl) (h8:t.agg=false∧z.oneCell' = true∧t.size=1:=by exact ⟨rfl,rfl,rfl⟩) (h9:0<t.size:=by decide):t.Ok P:=TI.mkOk h1 h2 h3 h4 h5 h6 h7 (.inl h8) h9
theorem yB {P:Program} {t:TI} {d:TypeDesc} (h2:P.underlying t.id=some d) (h3:TK.ok P d t.k:=by exact trivial) (h1:(P.info? t.id).map (fun i=>(i.zero,i.size,i.bytes))=some (some (.agg t.zero.toArray),t.size,t.bytes):=by kernel_rfl) (h4:d.isRow=t.agg:=by rfl) (h6:t.zero.all Value.oneCell' = true:=by rfl) (h7:t.zero.length=t.size:=by rfl) (h8:t.agg=true:=by rfl) (h9:0<t.size:=by decide):t.Ok P:=TI.mkOk h1 h2 h3 h4 (by rfl) h6 h7 (.inr ⟨h8,rfl⟩) h9
theorem yC {P:Program} {t:TI} {l:List TI} (h:t.Ok P) (k:Tys.Ok P l):Tys.Ok P (t :: l):=fun x hx=>(List.mem_cons.1 hx).elim (fun e=>e ▸ h) (k x)
set_option maxRecDepth 100000 in
theorem tysOk:tys.Ok Tryz.prog:=
yC (yA Tryz.underlying1) <|
yC (yA Tryz.underlying2) <|
yC (yA Tryz.underlying3) <|
yC (yA Tryz.underlying4) <|
yC (yA Tryz.underlying5) <|
yC (yA Tryz.underlying9) <|
yC (yA Tryz.underlying12) <|
yC (yA Tryz.underlying15) <|
yC (yA Tryz.underlying16) <|
yC (yA Tryz.underlying17) <|
yC (yA Tryz.underlying20) <|
yC (yA Tryz.underlying21) <|
yC (yA Tryz.underlying22) <|
yC (yA Tryz.underlying23) <|
yC (yA Tryz.underlying24) <|
yC (yA Tryz.underlying25) <|
yC (yA Tryz.underlying27) <|
yC (yA Tryz.underlying29) <|
yC (yA Tryz.underlying30) <|
yC (yA Tryz.underlying31) <|
yC (yA Tryz.underlying33) <|
yC (yA Tryz.underlying34) <|
yC (yA Tryz.underlying35) <|
yC (yB Tryz.underlying36 ⟨_,rfl,by kernel_rfl,fieldsOk_of (by kernel_rfl)⟩) <|
yC (yB Tryz.underlying37 ⟨_,rfl,by kernel_rfl,fieldsOk_of (by kernel_rfl)⟩) <|
yC (yB Tryz.underlying38 ⟨_,rfl,by kernel_rfl,fieldsOk_of (by kernel_rfl)⟩) <|
yC (yB Tryz.underlying39 ⟨_,rfl,by kernel_rfl,fieldsOk_of (by kernel_rfl)⟩) <|
yC (yA Tryz.underlying40) <|
yC (yA Tryz.underlying41) <|
yC (yA Tryz.underlying43) <|
yC (yA Tryz.underlying44) <|
yC (yA Tryz.underlying45) <|
yC (yA Tryz.underlying46) <|
yC (yB Tryz.underlying47 ⟨_,rfl,by kernel_rfl,fieldsOk_of (by kernel_rfl)⟩) <|
yC (yB Tryz.underlying48 ⟨_,rfl,by kernel_rfl,fieldsOk_of (by kernel_rfl)⟩) <|
yC (yA Tryz.underlying50) <|
yC (yA Tryz.underlying51) <|
yC (yB Tryz.underlying52 ⟨_,rfl,by kernel_rfl,fieldsOk_of (by kernel_rfl)⟩) <|
yC (yB Tryz.underlying53 ⟨_,rfl,by kernel_rfl,fieldsOk_of (by kernel_rfl)⟩) <|
yC (yB Tryz.underlying54 ⟨_,rfl,by kernel_rfl,fieldsOk_of (by kernel_rfl)⟩) <|
yC (yB Tryz.underlying55 ⟨_,rfl,by kernel_rfl,fieldsOk_of (by kernel_rfl)⟩) <|
yC (yA Tryz.underlying56) <|
yC (yA Tryz.underlying57) <|
yC (yA Tryz.underlying58) <|
yC (yA Tryz.underlying59) <|
yC (yA Tryz.underlying60) <|
yC (yA Tryz.underlying61) <|
yC (yB Tryz.underlying62 ⟨_,rfl,by kernel_rfl,fieldsOk_of (by kernel_rfl)⟩) <|
yC (yB Tryz.underlying63 ⟨_,rfl,by kernel_rfl,fieldsOk_of (by kernel_rfl)⟩) <|
yC (yA Tryz.underlying64) <|
yC (yA Tryz.underlying65) <|
yC (yB Tryz.underlying66 ⟨_,rfl,by kernel_rfl,fieldsOk_of (by kernel_rfl)⟩) <|
yC (yB Tryz.underlying67 ⟨_,rfl,by kernel_rfl,fieldsOk_of (by kernel_rfl)⟩) <|
yC (yA Tryz.underlying68) <|
yC (yA Tryz.underlying69) <|
yC (yA Tryz.underlying70) <|
yC (yA Tryz.underlying72) <|
yC (yA Tryz.underlying73) <|
yC (yA Tryz.underlying75) <|
yC (yA Tryz.underlying76) <|
yC (yA Tryz.underlying77) <|
yC (yA Tryz.underlying79) <|
yC (yA Tryz.underlying80) <|
yC (yA Tryz.underlying81) <|
yC (yA Tryz.underlying83) <|
yC (yA Tryz.underlying84) <|
yC (yA Tryz.underlying85) <|
yC (yA Tryz.underlying86) <|
yC (yA Tryz.underlying87) <|
yC (yA Tryz.underlying88) <|
yC (yA Tryz.underlying89) <|
yC (yA Tryz.underlying90) <|
yC (yA Tryz.underlying91) <|
yC (yA Tryz.underlying92) <|
yC (yA Tryz.underlying93) <|
yC (yA Tryz.underlying94) <|
yC (yA Tryz.underlying95) <|
yC (yA Tryz.underlying96) <|
yC (yA Tryz.underlying97) <|
yC (yA Tryz.underlying98) <|
yC (yB Tryz.underlying99 ⟨_,rfl,by kernel_rfl,fieldsOk_of (by kernel_rfl)⟩) <|
yC (yB Tryz.underlying100 ⟨_,rfl,by kernel_rfl,fieldsOk_of (by kernel_rfl)⟩) <|
yC (yA Tryz.underlying101) <|
yC (yA Tryz.underlying102) <|
yC (yA Tryz.underlying103) <|
yC (yA Tryz.underlying104) <|
yC (yA Tryz.underlying105) <|
yC (yA Tryz.underlying107) <|
yC (yA Tryz.underlying108) <|
yC (yA Tryz.underlying109) <|
yC (yA Tryz.underlying110) <|
yC (yA Tryz.underlying111) <|
yC (yA Tryz.underlying112) <|
yC (yA Tryz.underlying113) <|
yC (yA Tryz.underlying114) <|
yC (yA Tryz.underlying115) <|
yC (yA Tryz.underlying117) <|
yC (yA Tryz.underlying118) <|
yC (yA Tryz.underlying120) <|
yC (yA Tryz.underlying121) <|
yC (yA Tryz.underlying122) <|
yC (yA Tryz.underlying123) <|
yC (yA Tryz.underlying124) <|
yC (yA Tryz.underlying125) <|
yC (yA Tryz.underlying126) <|
yC (yA Tryz.underlying127) <|
yC (yA Tryz.underlying128) <|
yC (yA Tryz.underlying129) <|
yC (yA Tryz.underlying130) <|
yC (yB Tryz.underlying131 ⟨_,rfl,by kernel_rfl,fieldsOk_of (by kernel_rfl)⟩) <|
yC (yB Tryz.underlying132 ⟨_,rfl,by kernel_rfl,fieldsOk_of (by kernel_rfl)⟩) <|
yC (yA Tryz.underlying133) <|
yC (yA Tryz.underlying134) <|
yC (yA Tryz.underlying135) <|
yC (yA Tryz.underlying136) <|
yC (yB Tryz.underlying137) <|
yC (yA Tryz.underlying138) <|
yC (yA Tryz.underlying139) <|
yC (yA Tryz.underlying140) <|
yC (yA Tryz.underlying141) <|
yC (yA Tryz.underlying142) <|
yC (yA Tryz.underlying143) <|
yC (yA Tryz.underlying144) <|
yC (yA Tryz.underlying145) <|
yC (yA Tryz.underlying146) <|
yC (yA Tryz.underlying147) <|
yC (yA Tryz.underlying148) <|
yC (yA Tryz.underlying149) <|
yC (yA Tryz.underlying150) <|
yC (yA Tryz.underlying151) <|
yC (yB Tryz.underlying152 ⟨_,rfl,by kernel_rfl,fieldsOk_of (by kernel_rfl)⟩) <|
yC (yB Tryz.underlying153 ⟨_,rfl,by kernel_rfl,fieldsOk_of (by kernel_rfl)⟩) <|
yC (yA Tryz.underlying154) <|
yC (yA Tryz.underlying155) <|
yC (yA Tryz.underlying157) <|
yC (yA Tryz.underlying159) <|
yC (yB Tryz.underlying160) <|
yC (yA Tryz.underlying162) <|
yC (yA Tryz.underlying163) <|
yC (yA Tryz.underlying164) <|
yC (yA Tryz.underlying165) <|
yC (yA Tryz.underlying167) <|
yC (yA Tryz.underlying168) <|
yC (yA Tryz.underlying169) <|
yC (yA Tryz.underlying170) <|
yC (yB Tryz.underlying171 ⟨_,rfl,by kernel_rfl,fieldsOk_of (by kernel_rfl)⟩) <|
yC (yB Tryz.underlying172) <|
yC (yA Tryz.underlying173) <|
yC (yA Tryz.underlying174) <|
yC (yA Tryz.underlying175) <|
yC (yA Tryz.underlying177) <|
yC (yA Tryz.underlying178) <|
yC (yA Tryz.underlying179) <|
yC (yB Tryz.underlying180 ⟨_,rfl,by kernel_rfl,fieldsOk_of (by kernel_rfl)⟩) <|
yC (yB Tryz.underlying181 ⟨_,rfl,by kernel_rfl,fieldsOk_of (by kernel_rfl)⟩) <|
yC (yA Tryz.underlying182) <|
yC (yA Tryz.underlying184) <|
yC (yA Tryz.underlying185) <|
yC (yA Tryz.underlying186) <|
yC (yA Tryz.underlying188) <|
yC (yA Tryz.underlying189) <|
yC (yA Tryz.underlying191) <|
yC (yA Tryz.underlying193) <|
yC (yA Tryz.underlying194) <|
yC (yA Tryz.underlying195) <|
yC (yB Tryz.underlying196) <|
yC (yA Tryz.underlying197) <|
yC (yA Tryz.underlying198) <|
yC (yA Tryz.underlying199) <|
yC (yA Tryz.underlying201) <|
yC (yA Tryz.underlying202) <|
yC (yA Tryz.underlying203) <|
yC (yA Tryz.underlying204) <|
yC (yA Tryz.underlying205) <|
yC (yA Tryz.underlying206) <|
yC (yB Tryz.underlying207) <|
yC (yA Tryz.underlying208) <|
yC (yA Tryz.underlying210) <|
yC (yB Tryz.underlying212 ⟨_,rfl,by kernel_rfl,fieldsOk_of (by kernel_rfl)⟩) <|
yC (yB Tryz.underlying213 ⟨_,rfl,by kernel_rfl,fieldsOk_of (by kernel_rfl)⟩) <|
yC (yB Tryz.underlying214) <|
yC (yA Tryz.underlying216) <|
yC (yA Tryz.underlying217) <|
yC (yA Tryz.underlying221) <|
yC (yA Tryz.underlying222) <|
yC (yA Tryz.underlying223) <|
yC (yA Tryz.underlying226) <|
yC (yA Tryz.underlying227) <|
yC (yA Tryz.underlying228) <|
yC (yA Tryz.underlying229) <|
yC (yA Tryz.underlying230) <|
yC (yA Tryz.underlying231) <|
yC (yB Tryz.underlying232 ⟨_,rfl,by kernel_rfl,fieldsOk_of (by kernel_rfl)⟩) <|
yC (yB Tryz.underlying233 ⟨_,rfl,by kernel_rfl,fieldsOk_of (by kernel_rfl)⟩) <|
yC (yA Tryz.underlying234) <|
yC (yB Tryz.underlying235) <|
yC (yB Tryz.underlying236) <|
yC (yA Tryz.underlying237) <|
yC (yA Tryz.underlying238) <|
yC (yB Tryz.underlying239 ⟨_,rfl,by kernel_rfl,fieldsOk_of (by kernel_rfl)⟩) <|
yC (yB Tryz.underlying240 ⟨_,rfl,by kernel_rfl,fieldsOk_of (by kernel_rfl)⟩) <|
yC (yA Tryz.underlying248) <|
yC (yB Tryz.underlying251 ⟨_,rfl,by kernel_rfl,fieldsOk_of (by kernel_rfl)⟩) <|
fun _ h=>nomatch h
end Go.Proofs.YtalmoocpebhoiaaGreatDoor.Am
namespace Go.Proofs.YtalmoocpebhoiaaGreatDoor.Am
open Go.RowKit Lw At
def atR (x:At.At) (j:Nat):DC:=match j with
 | 0=>.c (.string x.1)
 | _=>.c (.string x.2)
abbrev atC (l:List At.At):Ct:=listC atR d0 l
abbrev atA (x:At.At):List A1:=[.c (.string x.1),.c (.string x.2)]
theorem isNaN_c (s:ByteArray):Con Tryz.prog 160 [.o (.c (.string s))] [] 0 0 U (fun _=>.o (.c (.bool false))) G0:=by
 refine con_of Tryz.func160 rfl (by kernel_rfl) Tryz.ntmps160 rfl (by first | exact Nat.zero_le _ | decide) (fun _=>⟨rfl,rfl⟩) fun w S ν=>?_
 refine wc ?_
 (refine TE.ret' io rfl tysOk (()) ?_ rfl (by rfl) ?_;all_goals (try (first|exact trivial|((with_reducible refine AllP.go ?_);dsimp only [AllP,appP];repeat' (first|refine And.intro ?_ ?_|exact zz)))))
 simp
theorem cmp_c (s t:ByteArray):Con Tryz.prog 144 [.o (.c (.string s)),.o (.c (.string t))] [] 0 0 U (fun _=>.o (.c (.int .i64 (cmpI s t)))) G0:=by
 refine con_of Tryz.func144 rfl (by kernel_rfl) Tryz.ntmps144 rfl (by first | exact Nat.zero_le _ | decide) (fun _=>⟨rfl,rfl⟩) fun w S ν=>?_
 (repeat' (first|(with_reducible refine AllP.go ?_;first|exact og|((try simp only [OS]);repeat' (first|exact oj|refine And.intro ?_ ?_)))|(refine rg ?_ ?_)|(with_reducible first|refine stp ?_|refine tD rfl ?_)|(with_reducible first|exact PanicOk.body|exact rd.panic|refine PanicOk.then' ?_|refine PanicOk.block ?_|refine PanicOk.jump ?_)|(refine dc ?_)|(refine dn ?_)|(refine TL.done (by rfl) ?_)|(refine TL.auto tysOk rfl ?_ (by rfl) ?_ ?_)|((refine TL.one (by rfl) ?_);first|(refine sm ?_ ?_)|(refine sp ?_ ?_))|(refine sm ?_ ?_)|refine ct ?_|refine cf ?_|((first|refine gs ?_ ?_|refine gl ?_ ?_|refine gc ?_ ?_)<;>intro h<;>(try simp only [NS] at h)<;>(try exact xf)<;>(try refine rn ?_ ?_))))
 refine TE.callW (isNaN_c s) rfl (by rfl) (by rfl) rfl (by rfl) (by (first|exact trivial|((with_reducible refine AllP.go ?_);dsimp only [AllP,appP];repeat' (first|refine And.intro ?_ ?_|exact zz|assumption)))) ?_
 intro _ _
 ((refine rn ?_ ?_);(repeat (first|(with_reducible refine AllP.go ?_;first|exact og|((try simp only [OS]);repeat' (first|exact oj|refine And.intro ?_ ?_)))|(refine rg ?_ ?_)|(with_reducible first|refine stp ?_|refine tD rfl ?_)|(with_reducible first|exact PanicOk.body|exact rd.panic|refine PanicOk.then' ?_|refine PanicOk.block ?_|refine PanicOk.jump ?_)|(refine dc ?_)|(refine dn ?_)|(refine TL.done (by rfl) ?_)|(refine TL.auto tysOk rfl ?_ (by rfl) ?_ ?_)|((refine TL.one (by rfl) ?_);first|(refine sm ?_ ?_)|(refine sp ?_ ?_))|(refine sm ?_ ?_)|refine ct ?_|refine cf ?_)))
 refine TE.callW (isNaN_c t) rfl (by rfl) (by rfl) rfl (by rfl) (by (first|exact trivial|((with_reducible refine AllP.go ?_);dsimp only [AllP,appP];repeat' (first|refine And.intro ?_ ?_|exact zz|assumption)))) ?_
 intro _ _
 ((refine rn ?_ ?_);(repeat' (first|(with_reducible refine AllP.go ?_;first|exact og|((try simp only [OS]);repeat' (first|exact oj|refine And.intro ?_ ?_)))|(refine rg ?_ ?_)|(with_reducible first|refine stp ?_|refine tD rfl ?_)|(with_reducible first|exact PanicOk.body|exact rd.panic|refine PanicOk.then' ?_|refine PanicOk.block ?_|refine PanicOk.jump ?_)|(refine dc ?_)|(refine dn ?_)|(refine TL.done (by rfl) ?_)|(refine TL.auto tysOk rfl ?_ (by rfl) ?_ ?_)|((refine TL.one (by rfl) ?_);first|(refine sm ?_ ?_)|(refine sp ?_ ?_))|(refine sm ?_ ?_)|refine ct ?_|refine cf ?_|((first|refine gs ?_ ?_|refine gl ?_ ?_|refine gc ?_ ?_)<;>intro h<;>(try simp only [NS] at h)<;>(try exact xf)<;>(try refine rn ?_ ?_)))))
 all_goals ((refine TE.ret' io rfl tysOk (()) ?_ rfl (by rfl) ?_;all_goals (try (first|exact trivial|((with_reducible refine AllP.go ?_);dsimp only [AllP,appP];repeat' (first|refine And.intro ?_ ?_|exact zz)))));unfold cmpI ltS;simp_all)
theorem Clone_c (n:Nat) (cell:Nat→Nat→DC) (hn:n≤1000000):Con Tryz.prog 51 [.o (.ro 2 n cell)] [] 0 1 U (fun _=>.o (.own 0)) (fun _=>[.own 0 39 2 ⟨n,cell⟩]):=by
 refine con_of Tryz.func51 rfl (by kernel_rfl) Tryz.ntmps51 rfl (by first | exact Nat.zero_le _ | decide) (fun _=>⟨rfl,rfl⟩) fun w S ν=>?_
 refine wc ?_
 (refine TE.step rfl rfl rfl (fun _ h=>nomatch h) (m_isnil tysOk rfl (by first | exact .inl rfl | exact .inr rfl) rfl rfl rfl) ?_;rintro _ ⟨b,hb,rfl⟩;cases b)
 ·refine wd ?_
  (refine TE.ret' io rfl tysOk (()) ?_ rfl (by rfl) ?_;all_goals (try (first|exact trivial|((with_reducible refine AllP.go ?_);dsimp only [AllP,appP];repeat' (first|refine And.intro ?_ ?_|exact zz)))))
  exact litnil_app 2 _
 ·obtain rfl:=hb rfl
  refine wd ?_
  refine TE.nilOwn 2 39 2 (by rfl) ?_
  (refine TE.ret' io rfl tysOk (()) ?_ rfl (by rfl) ?_;all_goals (try (first|exact trivial|((with_reducible refine AllP.go ?_);dsimp only [AllP,appP];repeat' (first|refine And.intro ?_ ?_|exact zz)))))
  exact LeD.zero rfl rfl
theorem nm1_c (c:Int):Con Tryz.prog 178 [.o (.c (.int .i32 c))] [] 0 0 U (fun _=>.o (.sb (decide (c<33∨126<c)))) G0:=by
 refine con_of Tryz.func178 rfl (by kernel_rfl) Tryz.ntmps178 rfl (by first | exact Nat.zero_le _ | decide) (fun _=>⟨rfl,rfl⟩) fun w S ν=>?_
 (repeat' (first|(with_reducible refine AllP.go ?_;first|exact og|((try simp only [OS]);repeat' (first|exact oj|refine And.intro ?_ ?_)))|(refine rg ?_ ?_)|(with_reducible first|refine stp ?_|refine tD rfl ?_)|(with_reducible first|exact PanicOk.body|exact rd.panic|refine PanicOk.then' ?_|refine PanicOk.block ?_|refine PanicOk.jump ?_)|(refine dc ?_)|(refine dn ?_)|(refine TL.done (by rfl) ?_)|(refine TL.auto tysOk rfl ?_ (by rfl) ?_ ?_)|((refine TL.one (by rfl) ?_);first|(refine sm ?_ ?_)|(refine sp ?_ ?_))|(refine sm ?_ ?_)|refine ct ?_|refine cf ?_|((first|refine gs ?_ ?_|refine gl ?_ ?_|refine gc ?_ ?_)<;>intro h<;>(try simp only [NS] at h)<;>(try exact xf)<;>(try refine rn ?_ ?_))))
 all_goals ((refine TE.ret' io rfl tysOk (()) ?_ rfl (by rfl) ?_;all_goals (try (first|exact trivial|((with_reducible refine AllP.go ?_);dsimp only [AllP,appP];repeat' (first|refine And.intro ?_ ?_|exact zz)))));first|(refine congrArg Value.bool (Eq.symm (decide_eq_true ?_));omega)|(simp only [decide_eq_decide];omega)|skip)
theorem any_getD {p:UInt8→Bool} {l:List UInt8} {k:Nat} (hk:k<l.length) (h:p (l.getD k 0)=true):l.any p=true:=by
 rw [List.getD_eq_getElem?_getD,List.getElem?_eq_getElem hk] at h
 exact List.any_eq_true.2 ⟨_,List.getElem_mem hk,h⟩
theorem any_false {p:UInt8→Bool} {l:List UInt8} (h:∀ k,k<l.length→p (l.getD k 0)=false):l.any p=false:=by
 rw [List.any_eq_false]
 intro x hx
 obtain ⟨k,hk,rfl⟩:=List.getElem_of_mem hx
 have:=h k hk
 rw [List.getD_eq_getElem?_getD,List.getElem?_eq_getElem hk] at this
 simpa using this
theorem indexf_c (s:ByteArray) (hs:s.size≤1000000000):Con Tryz.prog 167 [.o (.c (.string s)),.o (.c (.func (.func 178) #[] #[])),.o (.c (.bool true))] [] 0 0 (fun i:Int=>(i = -1∧s.data.toList.any badB=false)∨(0≤i∧s.data.toList.any badB=true)) (fun i=>.o (.c (.int .i64 i))) (fun _=>[]):=by
 refine con_of Tryz.func167 rfl (by kernel_rfl) Tryz.ntmps167 rfl (by first | exact Nat.zero_le _ | decide) (fun _=>⟨rfl,rfl⟩) fun w S ν=>?_
 have hsz:s.data.toList.length=s.size:=rfl
 refine wc ?_
 (refine TE.step rfl rfl rfl (fun _ h=>nomatch h) (m_rangeS tysOk rfl rfl rfl) ?_;rintro _ rfl)
 refine wd ?_
 refine TE.loopG (fun q:Nat=>q≤s.size∧∀ k,k<q→badB (s.data.toList.getD k 0)=false) (fun _=>[]) [0] (fun q=>[.obj 0 (.stringIter s q)]) (fun q=>s.size - q) 0 (by rfl) ⟨Nat.zero_le _,fun k hk=>absurd hk (Nat.not_lt_zero _)⟩ ?_ ?_
 ·exact ee
 rintro q ⟨h1,h2⟩
 refine wc ?_
 (refine TE.step rfl rfl rfl (fun _ h=>nomatch h) (m_nextS rfl rfl rfl rfl) ?_;rintro _ (⟨h,rfl⟩ | ⟨h,rfl⟩))
 ·obtain ⟨c,hc,hw,hbad⟩:∃ c:Nat,(Utf8.decode s q).1=c∧(decide ((c:Int)<33∨(126:Int)<c)=false→(Utf8.decode s q).2=1∧badB (s.data.toList.getD q 0)=false)∧(decide ((c:Int)<33∨(126:Int)<c)=true→badB (s.data.toList.getD q 0)=true):=by
   refine ⟨_,rfl,?_,?_⟩
   all_goals
    rcases Nat.lt_or_ge (s.data.toList.getD q 0).toNat 128 with h3 | h3
    ·rw [decode_low h h3]
     unfold badB
     intro hx
     simp only [decide_eq_true_eq,decide_eq_false_iff_not] at hx⊢
     first | exact ⟨trivial,by omega⟩ | omega
    ·have:=decode_high h h3
     unfold badB
     intro hx
     simp only [decide_eq_true_eq,decide_eq_false_iff_not] at hx⊢
     omega
  rw [hc]
  refine wd ?_
  refine cw (nm1_c c) ?_
  intro _ _
  ((refine rn ?_ ?_);(repeat' (first|(with_reducible refine AllP.go ?_;first|exact og|((try simp only [OS]);repeat' (first|exact oj|refine And.intro ?_ ?_)))|(refine rg ?_ ?_)|(with_reducible first|refine stp ?_|refine tD rfl ?_)|(with_reducible first|exact PanicOk.body|exact rd.panic|refine PanicOk.then' ?_|refine PanicOk.block ?_|refine PanicOk.jump ?_)|(refine dc ?_)|(refine dn ?_)|(refine TL.done (by rfl) ?_)|(refine TL.auto tysOk rfl ?_ (by rfl) ?_ ?_)|((refine TL.one (by rfl) ?_);first|(refine sm ?_ ?_)|(refine sp ?_ ?_))|(refine sm ?_ ?_)|refine ct ?_|refine cf ?_|((first|refine gs ?_ ?_|refine gl ?_ ?_|refine gc ?_ ?_)<;>intro h<;>(try simp only [NS] at h)<;>(try exact xf)<;>(try refine rn ?_ ?_)))))
  ·(refine TE.ret' io rfl tysOk ((q:Int)) ?_ rfl (by rfl) ?_;all_goals (try (first|exact trivial|((with_reducible refine AllP.go ?_);dsimp only [AllP,appP];repeat' (first|refine And.intro ?_ ?_|exact zz)))))
   exact .inr ⟨by omega,any_getD (by omega) (hbad (by simpa using h))⟩
  ·obtain ⟨hw1,hw2⟩:=hw (by simpa using h)
   refine TE.again' (q+1) ⟨by omega,fun k hk=>?_⟩ (by omega) ?_
   ·rcases Nat.lt_or_ge k q with h4 | h4
    ·exact h2 k h4
    ·obtain rfl:k=q:=by omega
     exact hw2
   ·(refine Ent.of rfl rfl (by rfl) ?_;(try (first|exact trivial|((with_reducible refine AllP.go ?_);dsimp only [AllP,appP];repeat' (first|refine And.intro ?_ ?_|exact zz)))))
    rw [hw1]
 ·refine wd ?_
  (refine TE.ret' io rfl tysOk ((-1:Int)) ?_ rfl (by rfl) ?_;all_goals (try (first|exact trivial|((with_reducible refine AllP.go ?_);dsimp only [AllP,appP];repeat' (first|refine And.intro ?_ ?_|exact zz)))))
  exact .inl ⟨rfl,any_false fun k hk=>h2 k (by omega)⟩
theorem IndexF_c (s:ByteArray) (hs:s.size≤1000000000):Con Tryz.prog 148 [.o (.c (.string s)),.o (.c (.func (.func 178) #[] #[]))] [] 0 0 (fun i:Int=>(i = -1∧s.data.toList.any badB=false)∨(0≤i∧s.data.toList.any badB=true)) (fun i=>.o (.c (.int .i64 i))) (fun _=>[]):=by
 refine con_of Tryz.func148 rfl (by kernel_rfl) Tryz.ntmps148 rfl (by first | exact Nat.zero_le _ | decide) (fun _=>⟨rfl,rfl⟩) fun w S ν=>?_
 refine wc ?_
 refine cw (indexf_c s hs) ?_
 intro i hi
 refine wd ?_
 (refine TE.ret' io rfl tysOk (i) ?_ rfl (by rfl) ?_;all_goals (try (first|exact trivial|((with_reducible refine AllP.go ?_);dsimp only [AllP,appP];repeat' (first|refine And.intro ?_ ?_|exact zz)))))
 exact hi
theorem Contains_c (s:ByteArray) (hs:s.size≤1000000000):Con Tryz.prog 128 [.o (.c (.string s)),.o (.c (.func (.func 178) #[] #[]))] [] 0 0 U (fun _=>.o (.sb (s.data.toList.any badB))) G0:=by
 refine con_of Tryz.func128 rfl (by kernel_rfl) Tryz.ntmps128 rfl (by first | exact Nat.zero_le _ | decide) (fun _=>⟨rfl,rfl⟩) fun w S ν=>?_
 refine wc ?_
 refine cw (IndexF_c s hs) ?_
 intro i hi
 refine wd ?_
 (refine TE.ret' io rfl tysOk (()) ?_ rfl (by rfl) ?_;all_goals (try (first|exact trivial|((with_reducible refine AllP.go ?_);dsimp only [AllP,appP];repeat' (first|refine And.intro ?_ ?_|exact zz)))))
 rcases hi with ⟨h1,h2⟩ | ⟨h1,h2⟩
 ·rw [h1,h2];rfl
 ·rw [h2];exact decide_eq_true h1
theorem name_c (s:ByteArray) (hs:s.size≤1000000000):Con Tryz.prog 159 [.o (.c (.string s))] [] 0 0 U (fun _=>.o (.c (.int .i64 (keyE s)))) G0:=by
 refine con_of Tryz.func159 rfl (by kernel_rfl) Tryz.ntmps159 rfl (by first | exact Nat.zero_le _ | decide) (fun _=>⟨rfl,rfl⟩) fun w S ν=>?_
 (repeat' (first|(with_reducible refine AllP.go ?_;first|exact og|((try simp only [OS]);repeat' (first|exact oj|refine And.intro ?_ ?_)))|(refine rg ?_ ?_)|(with_reducible first|refine stp ?_|refine tD rfl ?_)|(with_reducible first|exact PanicOk.body|exact rd.panic|refine PanicOk.then' ?_|refine PanicOk.block ?_|refine PanicOk.jump ?_)|(refine dc ?_)|(refine dn ?_)|(refine TL.done (by rfl) ?_)|(refine TL.auto tysOk rfl ?_ (by rfl) ?_ ?_)|((refine TL.one (by rfl) ?_);first|(refine sm ?_ ?_)|(refine sp ?_ ?_))|(refine sm ?_ ?_)|refine ct ?_|refine cf ?_|((first|refine gs ?_ ?_|refine gl ?_ ?_|refine gc ?_ ?_)<;>intro h<;>(try simp only [NS] at h)<;>(try exact xf)<;>(try refine rn ?_ ?_))))
 ·(refine TE.ret' io rfl tysOk (()) ?_ rfl (by rfl) ?_;all_goals (try (first|exact trivial|((with_reducible refine AllP.go ?_);dsimp only [AllP,appP];repeat' (first|refine And.intro ?_ ?_|exact zz)))))
  unfold keyE;rw [if_pos (.inl (by assumption))]
 refine cw (Contains_c s hs) ?_
 intro _ _
 ((refine rn ?_ ?_);(repeat' (first|(with_reducible refine AllP.go ?_;first|exact og|((try simp only [OS]);repeat' (first|exact oj|refine And.intro ?_ ?_)))|(refine rg ?_ ?_)|(with_reducible first|refine stp ?_|refine tD rfl ?_)|(with_reducible first|exact PanicOk.body|exact rd.panic|refine PanicOk.then' ?_|refine PanicOk.block ?_|refine PanicOk.jump ?_)|(refine dc ?_)|(refine dn ?_)|(refine TL.done (by rfl) ?_)|(refine TL.auto tysOk rfl ?_ (by rfl) ?_ ?_)|((refine TL.one (by rfl) ?_);first|(refine sm ?_ ?_)|(refine sp ?_ ?_))|(refine sm ?_ ?_)|refine ct ?_|refine cf ?_|((first|refine gs ?_ ?_|refine gl ?_ ?_|refine gc ?_ ?_)<;>intro h<;>(try simp only [NS] at h)<;>(try exact xf)<;>(try refine rn ?_ ?_)))))
 ·(refine TE.ret' io rfl tysOk (()) ?_ rfl (by rfl) ?_;all_goals (try (first|exact trivial|((with_reducible refine AllP.go ?_);dsimp only [AllP,appP];repeat' (first|refine And.intro ?_ ?_|exact zz)))))
  unfold keyE;rw [if_pos (.inr (by assumption))]
 ·(refine TE.ret' io rfl tysOk (()) ?_ rfl (by rfl) ?_;all_goals (try (first|exact trivial|((with_reducible refine AllP.go ?_);dsimp only [AllP,appP];repeat' (first|refine And.intro ?_ ?_|exact zz)))))
  unfold keyE;rw [if_neg (by simp_all),if_pos (by omega)]
 ·(refine TE.ret' io rfl tysOk (()) ?_ rfl (by rfl) ?_;all_goals (try (first|exact trivial|((with_reducible refine AllP.go ?_);dsimp only [AllP,appP];repeat' (first|refine And.intro ?_ ?_|exact zz)))))
  unfold keyE;rw [if_neg (by simp_all),if_neg (by omega)]
theorem alone_c (x:At.At) (hs:x.1.size≤1000000000):Con Tryz.prog 143 [.g (atA x)] [] 0 0 U (fun _=>.o (.c (.int .i64 (aloneE x)))) G0:=by
 refine con_of Tryz.func143 rfl (by kernel_rfl) Tryz.ntmps143 rfl (by first | exact Nat.zero_le _ | decide) (fun _=>⟨rfl,rfl⟩) fun w S ν=>?_
 refine wc ?_
 refine cw (name_c x.1 hs) ?_
 intro _ _
 ((refine rn ?_ ?_);(repeat' (first|(with_reducible refine AllP.go ?_;first|exact og|((try simp only [OS]);repeat' (first|exact oj|refine And.intro ?_ ?_)))|(refine rg ?_ ?_)|(with_reducible first|refine stp ?_|refine tD rfl ?_)|(with_reducible first|exact PanicOk.body|exact rd.panic|refine PanicOk.then' ?_|refine PanicOk.block ?_|refine PanicOk.jump ?_)|(refine dc ?_)|(refine dn ?_)|(refine TL.done (by rfl) ?_)|(refine TL.auto tysOk rfl ?_ (by rfl) ?_ ?_)|((refine TL.one (by rfl) ?_);first|(refine sm ?_ ?_)|(refine sp ?_ ?_))|(refine sm ?_ ?_)|refine ct ?_|refine cf ?_|((first|refine gs ?_ ?_|refine gl ?_ ?_|refine gc ?_ ?_)<;>intro h<;>(try simp only [NS] at h)<;>(try exact xf)<;>(try refine rn ?_ ?_)))))
 ·(refine TE.ret' io rfl tysOk (()) ?_ rfl (by rfl) ?_;all_goals (try (first|exact trivial|((with_reducible refine AllP.go ?_);dsimp only [AllP,appP];repeat' (first|refine And.intro ?_ ?_|exact zz)))))
  unfold aloneE;rw [if_pos (by assumption)]
 ·(refine TE.ret' io rfl tysOk (()) ?_ rfl (by rfl) ?_;all_goals (try (first|exact trivial|((with_reducible refine AllP.go ?_);dsimp only [AllP,appP];repeat' (first|refine And.intro ?_ ?_|exact zz)))))
  unfold aloneE;rw [if_neg (by simp_all),if_pos (by omega)]
 ·(refine TE.ret' io rfl tysOk (()) ?_ rfl (by rfl) ?_;all_goals (try (first|exact trivial|((with_reducible refine AllP.go ?_);dsimp only [AllP,appP];repeat' (first|refine And.intro ?_ ?_|exact zz)))))
  unfold aloneE;rw [if_neg (by simp_all),if_neg (by omega)]
theorem bytes_c (l:List At.At) (hl:l.length≤1000000) (hb:sizeI l≤1000000000):Con Tryz.prog 161 [.o (.ro 2 l.length (atC l).cell)] [] 0 1 U (fun _=>.o (.own 0)) (fun _=>[.own 0 5 1 (bytesC (bytesI l))]):=by
 refine con_of Tryz.func161 rfl (by kernel_rfl) Tryz.ntmps161 rfl (by first | exact Nat.zero_le _ | decide) (fun _=>⟨rfl,rfl⟩) fun w S ν=>?_
 refine wc ?_
 refine TE.nilOwn 3 5 1 (by rfl) ?_
 refine TE.loopG (fun q:Nat=>q≤l.length) (fun q=>[(3,.o (.own 0)),(8,.o (.c (.int .i64 q)))]) [0] (fun q=>[.own 0 5 1 (bytesC (bytesI (l.take q)))]) (fun q=>l.length - q) 0 (by rfl) (Nat.zero_le _) ?_ ?_
 ·(refine Ent.of rfl rfl (by rfl) ?_;(try (first|exact trivial|((with_reducible refine AllP.go ?_);dsimp only [AllP,appP];repeat' (first|refine And.intro ?_ ?_|exact zz)))))
  exact LeDC.nil rfl rfl
 rintro q h1
 have hq1:=bytesI_len (l.take q)
 have hq2:=sizeI_take l q
 have hq3:=bytesI_len (l.take (q+1))
 have hq4:=sizeI_take l (q+1)
 have hq5:l.length≤q∨sizeI (l.take (q+1))=sizeI (l.take q)+(2+(l.getD q d0).1.size+(l.getD q d0).2.size):=(Nat.lt_or_ge q l.length).elim (fun h=>.inr (sizeI_snoc h)) .inl
 (repeat' (first|(with_reducible refine AllP.go ?_;first|exact og|((try simp only [OS]);repeat' (first|exact oj|refine And.intro ?_ ?_)))|(refine rg ?_ ?_)|(with_reducible first|refine stp ?_|refine tD rfl ?_)|(with_reducible first|exact PanicOk.body|exact rd.panic|refine PanicOk.then' ?_|refine PanicOk.block ?_|refine PanicOk.jump ?_)|(refine dc ?_)|(refine dn ?_)|(refine TL.done (by rfl) ?_)|(refine TL.auto tysOk rfl ?_ (by rfl) ?_ ?_)|((refine TL.one (by rfl) ?_);first|(refine sm ?_ ?_)|(refine sp ?_ ?_))|(refine sm ?_ ?_)|refine ct ?_|refine cf ?_|((first|refine gs ?_ ?_|refine gl ?_ ?_|refine gc ?_ ?_)<;>intro h<;>(try simp only [NS] at h)<;>(try exact xf)<;>(try refine rn ?_ ?_))))
 ·refine TE.again' (q+1) (by omega) (by omega) ?_
  (refine Ent.of rfl rfl (by rfl) ?_;(try (first|exact trivial|((with_reducible refine AllP.go ?_);dsimp only [AllP,appP];repeat' (first|refine And.intro ?_ ?_|exact zz)))))
  refine bytes_app (bytes_app (bytes_app (bytes_app (LeDC.refl _ _) (byte_lit (b:=UInt8.ofNat (l.getD q d0).1.size) ?_) rfl) (str_lit _) rfl) (byte_lit (b:=UInt8.ofNat (l.getD q d0).2.size) ?_) rfl) (str_lit _) ?_
  ·simp
  ·simp
  ·rw [bytesI_snoc h];simp [rowB]
 ·obtain rfl:q=l.length:=by omega
  rw [List.take_length]
  exact po
theorem fit_c (l:List At.At) (hl:l.length≤1000000) (hb:sizeI l≤1000000000):Con Tryz.prog 145 [.o (.ro 2 l.length (atC l).cell)] [] 0 0 U (fun _=>.t [.inl (.ro 2 (if fullB l then [] else l).length (atC (if fullB l then [] else l)).cell),.inl (.c (.int .i64 (if fullB l then 5 else 0)))]) G0:=by
 refine con_of Tryz.func145 rfl (by kernel_rfl) Tryz.ntmps145 rfl (by first | exact Nat.zero_le _ | decide) (fun _=>⟨rfl,rfl⟩) fun w S ν=>?_
 have hlen:=bytesI_len l
 have hF:fullB l=decide (6<l.length∨288<sizeI l):=rfl
 (repeat' (first|(with_reducible refine AllP.go ?_;first|exact og|((try simp only [OS]);repeat' (first|exact oj|refine And.intro ?_ ?_)))|(refine rg ?_ ?_)|(with_reducible first|refine stp ?_|refine tD rfl ?_)|(with_reducible first|exact PanicOk.body|exact rd.panic|refine PanicOk.then' ?_|refine PanicOk.block ?_|refine PanicOk.jump ?_)|(refine dc ?_)|(refine dn ?_)|(refine TL.done (by rfl) ?_)|(refine TL.auto tysOk rfl ?_ (by rfl) ?_ ?_)|((refine TL.one (by rfl) ?_);first|(refine sm ?_ ?_)|(refine sp ?_ ?_))|(refine sm ?_ ?_)|refine ct ?_|refine cf ?_|((first|refine gs ?_ ?_|refine gl ?_ ?_|refine gc ?_ ?_)<;>intro h<;>(try simp only [NS] at h)<;>(try exact xf)<;>(try refine rn ?_ ?_))))
 ·have:fullB l=true:=by rw [hF];exact decide_eq_true (.inl (by omega))
  rw [this]
  exact po
 ·refine cw (bytes_c l hl hb) ?_
  intro _ _
  ((refine rn ?_ ?_);(repeat' (first|(with_reducible refine AllP.go ?_;first|exact og|((try simp only [OS]);repeat' (first|exact oj|refine And.intro ?_ ?_)))|(refine rg ?_ ?_)|(with_reducible first|refine stp ?_|refine tD rfl ?_)|(with_reducible first|exact PanicOk.body|exact rd.panic|refine PanicOk.then' ?_|refine PanicOk.block ?_|refine PanicOk.jump ?_)|(refine dc ?_)|(refine dn ?_)|(refine TL.done (by rfl) ?_)|(refine TL.auto tysOk rfl ?_ (by rfl) ?_ ?_)|((refine TL.one (by rfl) ?_);first|(refine sm ?_ ?_)|(refine sp ?_ ?_))|(refine sm ?_ ?_)|refine ct ?_|refine cf ?_|((first|refine gs ?_ ?_|refine gl ?_ ?_|refine gc ?_ ?_)<;>intro h<;>(try simp only [NS] at h)<;>(try exact xf)<;>(try refine rn ?_ ?_)))))
  ·have:fullB l=true:=by rw [hF];exact decide_eq_true (.inr (by omega))
   rw [this]
   exact po
  ·have:fullB l=false:=by rw [hF];exact decide_eq_false (by omega)
   rw [this]
   exact po
theorem Check_c (l:List At.At) (hl:l.length≤1000000) (hb:sizeI l≤1000000000):Con Tryz.prog 124 [.o (.ro 2 l.length (atC l).cell)] [] 0 0 U (fun _=>.o (.c (.int .i64 (checkE l)))) G0:=by
 refine con_of Tryz.func124 rfl (by kernel_rfl) Tryz.ntmps124 rfl (by first | exact Nat.zero_le _ | decide) (fun _=>⟨rfl,rfl⟩) fun w S ν=>?_
 have hel:∀ q,q<l.length→(l.getD q d0).1.size≤1000000000:=fun q h=>by
  have h1:=sizeI_snoc h
  have h2:=sizeI_take l (q+1)
  omega
 (repeat' (first|(with_reducible refine AllP.go ?_;first|exact og|((try simp only [OS]);repeat' (first|exact oj|refine And.intro ?_ ?_)))|(refine rg ?_ ?_)|(with_reducible first|refine stp ?_|refine tD rfl ?_)|(with_reducible first|exact PanicOk.body|exact rd.panic|refine PanicOk.then' ?_|refine PanicOk.block ?_|refine PanicOk.jump ?_)|(refine dc ?_)|(refine dn ?_)|(refine TL.done (by rfl) ?_)|(refine TL.auto tysOk rfl ?_ (by rfl) ?_ ?_)|((refine TL.one (by rfl) ?_);first|(refine sm ?_ ?_)|(refine sp ?_ ?_))|(refine sm ?_ ?_)|refine ct ?_|refine cf ?_|((first|refine gs ?_ ?_|refine gl ?_ ?_|refine gc ?_ ?_)<;>intro h<;>(try simp only [NS] at h)<;>(try exact xf)<;>(try refine rn ?_ ?_))))
 ·(refine TE.ret' io rfl tysOk (()) ?_ rfl (by rfl) ?_;all_goals (try (first|exact trivial|((with_reducible refine AllP.go ?_);dsimp only [AllP,appP];repeat' (first|refine And.intro ?_ ?_|exact zz)))))
  unfold checkE;rw [if_pos (by omega)]
 refine TE.loopG (fun q:Nat=>q≤l.length∧alonesE l=alonesE (l.drop q)) (fun q=>[(16,.o (.c (.int .i64 q)))]) [] (fun _=>[]) (fun q=>l.length - q) 0 (by rfl) ⟨Nat.zero_le _,rfl⟩ ?_ ?_
 ·exact ee
 rintro q ⟨h1,h2⟩
 (repeat' (first|(with_reducible refine AllP.go ?_;first|exact og|((try simp only [OS]);repeat' (first|exact oj|refine And.intro ?_ ?_)))|(refine rg ?_ ?_)|(with_reducible first|refine stp ?_|refine tD rfl ?_)|(with_reducible first|exact PanicOk.body|exact rd.panic|refine PanicOk.then' ?_|refine PanicOk.block ?_|refine PanicOk.jump ?_)|(refine dc ?_)|(refine dn ?_)|(refine TL.done (by rfl) ?_)|(refine TL.auto tysOk rfl ?_ (by rfl) ?_ ?_)|((refine TL.one (by rfl) ?_);first|(refine sm ?_ ?_)|(refine sp ?_ ?_))|(refine sm ?_ ?_)|refine ct ?_|refine cf ?_|((first|refine gs ?_ ?_|refine gl ?_ ?_|refine gc ?_ ?_)<;>intro h<;>(try simp only [NS] at h)<;>(try exact xf)<;>(try refine rn ?_ ?_))))
 ·refine cw (alone_c (l.getD q d0) (hel q (by omega))) ?_
  intro _ _
  ((refine rn ?_ ?_);(repeat' (first|(with_reducible refine AllP.go ?_;first|exact og|((try simp only [OS]);repeat' (first|exact oj|refine And.intro ?_ ?_)))|(refine rg ?_ ?_)|(with_reducible first|refine stp ?_|refine tD rfl ?_)|(with_reducible first|exact PanicOk.body|exact rd.panic|refine PanicOk.then' ?_|refine PanicOk.block ?_|refine PanicOk.jump ?_)|(refine dc ?_)|(refine dn ?_)|(refine TL.done (by rfl) ?_)|(refine TL.auto tysOk rfl ?_ (by rfl) ?_ ?_)|((refine TL.one (by rfl) ?_);first|(refine sm ?_ ?_)|(refine sp ?_ ?_))|(refine sm ?_ ?_)|refine ct ?_|refine cf ?_|((first|refine gs ?_ ?_|refine gl ?_ ?_|refine gc ?_ ?_)<;>intro h<;>(try simp only [NS] at h)<;>(try exact xf)<;>(try refine rn ?_ ?_)))))
  ·rw [alonesE_drop (by omega),if_pos (by assumption)] at h2
   (refine TE.ret' io rfl tysOk (()) ?_ rfl (by rfl) ?_;all_goals (try (first|exact trivial|((with_reducible refine AllP.go ?_);dsimp only [AllP,appP];repeat' (first|refine And.intro ?_ ?_|exact zz)))))
   unfold checkE;rw [if_neg (by omega),if_pos (by rw [h2];assumption),h2]
  ·rw [alonesE_drop (by omega),if_neg (by simp_all)] at h2
   refine TE.again' (q+1) ⟨by omega,h2⟩ (by omega) ?_
   exact ee
 obtain rfl:q=l.length:=by omega
 rw [List.drop_length] at h2
 have hal:alonesE l=0:=h2
 refine wc ?_
 refine TE.loopG (fun q:Nat=>q≤l.length∧dupQ l q=false) (fun q=>[(28,.o (.c (.int .i64 q))),(6,.o (.c (.int .i64 (if invQ l q then 6 else 0))))]) [] (fun _=>[]) (fun q=>l.length - q) 0 (by rfl) ⟨Nat.zero_le _,rfl⟩ ?_ ?_
 ·exact ee
 clear h1 h2
 rintro q ⟨h1,h2⟩
 (repeat' (first|(with_reducible refine AllP.go ?_;first|exact og|((try simp only [OS]);repeat' (first|exact oj|refine And.intro ?_ ?_)))|(refine rg ?_ ?_)|(with_reducible first|refine stp ?_|refine tD rfl ?_)|(with_reducible first|exact PanicOk.body|exact rd.panic|refine PanicOk.then' ?_|refine PanicOk.block ?_|refine PanicOk.jump ?_)|(refine dc ?_)|(refine dn ?_)|(refine TL.done (by rfl) ?_)|(refine TL.auto tysOk rfl ?_ (by rfl) ?_ ?_)|((refine TL.one (by rfl) ?_);first|(refine sm ?_ ?_)|(refine sp ?_ ?_))|(refine sm ?_ ?_)|refine ct ?_|refine cf ?_|((first|refine gs ?_ ?_|refine gl ?_ ?_|refine gc ?_ ?_)<;>intro h<;>(try simp only [NS] at h)<;>(try exact xf)<;>(try refine rn ?_ ?_))))
 ·refine TE.loopG (fun k:Nat=>k≤q∧((l.take k).any fun y=>decide (y.1=(l.getD q d0).1))=false) (fun k=>[(37,.o (.c (.int .i64 k))),(6,.o (.c (.int .i64 (if invQ l q || (l.take k).any (fun y=>ltS (l.getD q d0).1 y.1) then 6 else 0))))]) [] (fun _=>[]) (fun k=>q - k) 0 (by rfl) ⟨Nat.zero_le _,by simp⟩ ?_ ?_
  ·(refine Ent.of rfl rfl (by rfl) ?_;(try (first|exact trivial|((with_reducible refine AllP.go ?_);dsimp only [AllP,appP];repeat' (first|refine And.intro ?_ ?_|exact zz)))))
   simp
  rintro k ⟨h3,h4⟩
  have hk5:l.length≤k∨((l.take (k+1)).any (fun y=>decide (y.1=(l.getD q d0).1))=((l.take k).any (fun y=>decide (y.1=(l.getD q d0).1)) || decide ((l.getD k d0).1=(l.getD q d0).1))∧(l.take (k+1)).any (fun y=>ltS (l.getD q d0).1 y.1)=((l.take k).any (fun y=>ltS (l.getD q d0).1 y.1) || ltS (l.getD q d0).1 (l.getD k d0).1)):=(Nat.lt_or_ge k l.length).elim (fun h=>.inr ⟨any_take_succ h,any_take_succ h⟩) .inl
  (repeat' (first|(with_reducible refine AllP.go ?_;first|exact og|((try simp only [OS]);repeat' (first|exact oj|refine And.intro ?_ ?_)))|(refine rg ?_ ?_)|(with_reducible first|refine stp ?_|refine tD rfl ?_)|(with_reducible first|exact PanicOk.body|exact rd.panic|refine PanicOk.then' ?_|refine PanicOk.block ?_|refine PanicOk.jump ?_)|(refine dc ?_)|(refine dn ?_)|(refine TL.done (by rfl) ?_)|(refine TL.auto tysOk rfl ?_ (by rfl) ?_ ?_)|((refine TL.one (by rfl) ?_);first|(refine sm ?_ ?_)|(refine sp ?_ ?_))|(refine sm ?_ ?_)|refine ct ?_|refine cf ?_|((first|refine gs ?_ ?_|refine gl ?_ ?_|refine gc ?_ ?_)<;>intro h<;>(try simp only [NS] at h)<;>(try exact xf)<;>(try refine rn ?_ ?_))))
  ·refine cw (cmp_c (l.getD k d0).1 (l.getD q d0).1) ?_
   intro _ _
   obtain ⟨C,hC⟩:∃ C,C=cmpI (l.getD k d0).1 (l.getD q d0).1:=⟨_,rfl⟩
   rw [← hC]
   ((refine rn ?_ ?_);(repeat' (first|(with_reducible refine AllP.go ?_;first|exact og|((try simp only [OS]);repeat' (first|exact oj|refine And.intro ?_ ?_)))|(refine rg ?_ ?_)|(with_reducible first|refine stp ?_|refine tD rfl ?_)|(with_reducible first|exact PanicOk.body|exact rd.panic|refine PanicOk.then' ?_|refine PanicOk.block ?_|refine PanicOk.jump ?_)|(refine dc ?_)|(refine dn ?_)|(refine TL.done (by rfl) ?_)|(refine TL.auto tysOk rfl ?_ (by rfl) ?_ ?_)|((refine TL.one (by rfl) ?_);first|(refine sm ?_ ?_)|(refine sp ?_ ?_))|(refine sm ?_ ?_)|refine ct ?_|refine cf ?_|((first|refine gs ?_ ?_|refine gl ?_ ?_|refine gc ?_ ?_)<;>intro h<;>(try simp only [NS] at h)<;>(try exact xf)<;>(try refine rn ?_ ?_)))))
   ·have he:(l.getD k d0).1=(l.getD q d0).1:=cmpI_eq.1 (by omega)
    (refine TE.ret' io rfl tysOk (()) ?_ rfl (by rfl) ?_;all_goals (try (first|exact trivial|((with_reducible refine AllP.go ?_);dsimp only [AllP,appP];repeat' (first|refine And.intro ?_ ?_|exact zz)))))
    have hd:dupB l=true:=by
     rw [← dupQ_dupB];exact (dupQ_iff (Nat.le_refl _)).2 ⟨q,k,by omega,by omega,he⟩
    unfold checkE;rw [if_neg (by omega),if_neg (by simp [hal]),if_pos hd]
   ·have he:(l.getD k d0).1≠(l.getD q d0).1:=fun e=>by have:=cmpI_eq.2 e;omega
    have hg:=cmpI_gt.1 (show cmpI (l.getD k d0).1 (l.getD q d0).1=1 by omega)
    obtain ⟨e1,e2⟩:=hk5.resolve_left (by omega)
    refine TE.again' (k+1) ⟨by omega,by rw [e1,h4];simpa using he⟩ (by omega) ?_
    (refine Ent.of rfl rfl (by rfl) ?_;(try (first|exact trivial|((with_reducible refine AllP.go ?_);dsimp only [AllP,appP];repeat' (first|refine And.intro ?_ ?_|exact zz)))))
    rw [e2,hg];simp
   ·have he:(l.getD k d0).1≠(l.getD q d0).1:=fun e=>by have:=cmpI_eq.2 e;omega
    have hg:ltS (l.getD q d0).1 (l.getD k d0).1=false:=by
     cases h9:ltS (l.getD q d0).1 (l.getD k d0).1
     ·rfl
     ·have:=cmpI_gt.2 h9;omega
    obtain ⟨e1,e2⟩:=hk5.resolve_left (by omega)
    refine TE.again' (k+1) ⟨by omega,by rw [e1,h4];simpa using he⟩ (by omega) ?_
    (refine Ent.of rfl rfl (by rfl) ?_;(try (first|exact trivial|((with_reducible refine AllP.go ?_);dsimp only [AllP,appP];repeat' (first|refine And.intro ?_ ?_|exact zz)))))
    rw [e2,hg,Bool.or_false]
  ·obtain rfl:k=q:=by omega
   refine TE.again' (k+1) ⟨by omega,by rw [dupQ,h2,h4];rfl⟩ (by omega) ?_
   exact ee
 all_goals
  obtain rfl:q=l.length:=by omega
  rw [dupQ_dupB] at h2
  rw [invQ_sorted h2] at *
 ·have hs:sortedB l=true:=by cases h9:sortedB l<;>simp_all
  refine cw (fit_c l hl hb) ?_
  intro _ _
  refine wd ?_
  (refine TE.ret' io rfl tysOk (()) ?_ rfl (by rfl) ?_;all_goals (try (first|exact trivial|((with_reducible refine AllP.go ?_);dsimp only [AllP,appP];repeat' (first|refine And.intro ?_ ?_|exact zz)))))
  rw [checkE_of (by omega) hal h2,hs];rfl
 ·have hs:sortedB l=false:=by cases h9:sortedB l<;>simp_all
  (refine TE.ret' io rfl tysOk (()) ?_ rfl (by rfl) ?_;all_goals (try (first|exact trivial|((with_reducible refine AllP.go ?_);dsimp only [AllP,appP];repeat' (first|refine And.intro ?_ ?_|exact zz)))))
  rw [checkE_of (by omega) hal h2,hs];rfl
theorem key_c (s:ByteArray) (hs:s.size≤1000000000):Con Tryz.prog 141 [.o (.c (.string s))] [] 0 0 U (fun _=>.o (.c (.int .i64 (keyE s)))) G0:=by
 refine con_of Tryz.func141 rfl (by kernel_rfl) Tryz.ntmps141 rfl (by first | exact Nat.zero_le _ | decide) (fun _=>⟨rfl,rfl⟩) fun w S ν=>?_
 have hsz:s.data.toList.length=s.size:=rfl
 refine wc ?_
 refine TE.loopG (fun q:Nat=>q≤s.size∧∀ k,k<q→badB (s.data.toList.getD k 0)=false) (fun q=>[(3,.o (.c (.int .i64 q)))]) [] (fun _=>[]) (fun q=>s.size - q) 0 (by rfl) ⟨Nat.zero_le _,fun k hk=>absurd hk (Nat.not_lt_zero _)⟩ ?_ ?_
 ·exact ee
 rintro q ⟨h1,h2⟩
 (repeat' (first|(with_reducible refine AllP.go ?_;first|exact og|((try simp only [OS]);repeat' (first|exact oj|refine And.intro ?_ ?_)))|(refine rg ?_ ?_)|(with_reducible first|refine stp ?_|refine tD rfl ?_)|(with_reducible first|exact PanicOk.body|exact rd.panic|refine PanicOk.then' ?_|refine PanicOk.block ?_|refine PanicOk.jump ?_)|(refine dc ?_)|(refine dn ?_)|(refine TL.done (by rfl) ?_)|(refine TL.auto tysOk rfl ?_ (by rfl) ?_ ?_)|((refine TL.one (by rfl) ?_);first|(refine sm ?_ ?_)|(refine sp ?_ ?_))|(refine sm ?_ ?_)|refine ct ?_|refine cf ?_|((first|refine gs ?_ ?_|refine gl ?_ ?_|refine gc ?_ ?_)<;>intro h<;>(try simp only [NS] at h)<;>(try exact xf)<;>(try refine rn ?_ ?_))))
 ·have hb:badB (s.data.toList.getD q 0)=true:=decide_eq_true (by omega)
  (refine TE.ret' io rfl tysOk (()) ?_ rfl (by rfl) ?_;all_goals (try (first|exact trivial|((with_reducible refine AllP.go ?_);dsimp only [AllP,appP];repeat' (first|refine And.intro ?_ ?_|exact zz)))))
  unfold keyE;rw [if_pos (.inr (any_getD (by omega) hb))]
 ·have hb:badB (s.data.toList.getD q 0)=true:=decide_eq_true (by omega)
  (refine TE.ret' io rfl tysOk (()) ?_ rfl (by rfl) ?_;all_goals (try (first|exact trivial|((with_reducible refine AllP.go ?_);dsimp only [AllP,appP];repeat' (first|refine And.intro ?_ ?_|exact zz)))))
  unfold keyE;rw [if_pos (.inr (any_getD (by omega) hb))]
 ·have hb:badB (s.data.toList.getD q 0)=false:=decide_eq_false (by omega)
  refine TE.again' (q+1) ⟨by omega,fun k hk=>?_⟩ (by omega) ?_
  ·rcases Nat.lt_or_ge k q with h4 | h4
   ·exact h2 k h4
   ·obtain rfl:k=q:=by omega
    exact hb
  ·exact ee
 all_goals
  have hany:s.data.toList.any badB=false:=any_false fun k hk=>h2 k (by omega)
  (refine TE.ret' io rfl tysOk (()) ?_ rfl (by rfl) ?_;all_goals (try (first|exact trivial|((with_reducible refine AllP.go ?_);dsimp only [AllP,appP];repeat' (first|refine And.intro ?_ ?_|exact zz)))))
  unfold keyE
 ·rw [if_pos (.inl (by assumption))]
 ·rw [if_neg (fun h=>h.elim (fun h=>by omega) (fun h=>by rw [hany] at h;cases h)),if_pos (by omega)]
 ·rw [if_neg (fun h=>h.elim (fun h=>by omega) (fun h=>by rw [hany] at h;cases h)),if_neg (by omega)]
theorem ralone_c (x:At.At) (hs:x.1.size≤1000000000):Con Tryz.prog 120 [.g (atA x)] [] 0 0 U (fun _=>.o (.c (.int .i64 (aloneE x)))) G0:=by
 refine con_of Tryz.func120 rfl (by kernel_rfl) Tryz.ntmps120 rfl (by first | exact Nat.zero_le _ | decide) (fun _=>⟨rfl,rfl⟩) fun w S ν=>?_
 refine wc ?_
 refine cw (key_c x.1 hs) ?_
 intro _ _
 ((refine rn ?_ ?_);(repeat' (first|(with_reducible refine AllP.go ?_;first|exact og|((try simp only [OS]);repeat' (first|exact oj|refine And.intro ?_ ?_)))|(refine rg ?_ ?_)|(with_reducible first|refine stp ?_|refine tD rfl ?_)|(with_reducible first|exact PanicOk.body|exact rd.panic|refine PanicOk.then' ?_|refine PanicOk.block ?_|refine PanicOk.jump ?_)|(refine dc ?_)|(refine dn ?_)|(refine TL.done (by rfl) ?_)|(refine TL.auto tysOk rfl ?_ (by rfl) ?_ ?_)|((refine TL.one (by rfl) ?_);first|(refine sm ?_ ?_)|(refine sp ?_ ?_))|(refine sm ?_ ?_)|refine ct ?_|refine cf ?_|((first|refine gs ?_ ?_|refine gl ?_ ?_|refine gc ?_ ?_)<;>intro h<;>(try simp only [NS] at h)<;>(try exact xf)<;>(try refine rn ?_ ?_)))))
 all_goals ((refine TE.ret' io rfl tysOk (()) ?_ rfl (by rfl) ?_;all_goals (try (first|exact trivial|((with_reducible refine AllP.go ?_);dsimp only [AllP,appP];repeat' (first|refine And.intro ?_ ?_|exact zz)))));unfold aloneE)
 ·rw [if_neg (fun h=>h (by assumption)),if_pos (by omega)]
 ·rw [if_neg (fun h=>h (by assumption)),if_neg (by omega)];exact congrArg _ (by assumption)
 ·rw [if_pos (by assumption)]
theorem size_c (l:List At.At) (hl:l.length≤1000000) (hb:sizeI l≤1000000000):Con Tryz.prog 142 [.o (.ro 2 l.length (atC l).cell)] [] 0 0 U (fun _=>.o (.c (.int .i64 (sizeI l:Nat)))) G0:=by
 refine con_of Tryz.func142 rfl (by kernel_rfl) Tryz.ntmps142 rfl (by first | exact Nat.zero_le _ | decide) (fun _=>⟨rfl,rfl⟩) fun w S ν=>?_
 refine wc ?_
 refine TE.loopG (fun q:Nat=>q≤l.length) (fun q=>[(4,.o (.c (.int .i64 q))),(3,.o (.c (.int .i64 (sizeI (l.take q):Nat))))]) [] (fun _=>[]) (fun q=>l.length - q) 0 (by rfl) (Nat.zero_le _) ?_ ?_
 ·exact ee
 rintro q h1
 have hq2:=sizeI_take l q
 have hq4:=sizeI_take l (q+1)
 have hq5:l.length≤q∨sizeI (l.take (q+1))=sizeI (l.take q)+(2+(l.getD q d0).1.size+(l.getD q d0).2.size):=(Nat.lt_or_ge q l.length).elim (fun h=>.inr (sizeI_snoc h)) .inl
 (repeat' (first|(with_reducible refine AllP.go ?_;first|exact og|((try simp only [OS]);repeat' (first|exact oj|refine And.intro ?_ ?_)))|(refine rg ?_ ?_)|(with_reducible first|refine stp ?_|refine tD rfl ?_)|(with_reducible first|exact PanicOk.body|exact rd.panic|refine PanicOk.then' ?_|refine PanicOk.block ?_|refine PanicOk.jump ?_)|(refine dc ?_)|(refine dn ?_)|(refine TL.done (by rfl) ?_)|(refine TL.auto tysOk rfl ?_ (by rfl) ?_ ?_)|((refine TL.one (by rfl) ?_);first|(refine sm ?_ ?_)|(refine sp ?_ ?_))|(refine sm ?_ ?_)|refine ct ?_|refine cf ?_|((first|refine gs ?_ ?_|refine gl ?_ ?_|refine gc ?_ ?_)<;>intro h<;>(try simp only [NS] at h)<;>(try exact xf)<;>(try refine rn ?_ ?_))))
 ·refine TE.again' (q+1) (by omega) (by omega) ?_
  exact ee
 ·obtain rfl:q=l.length:=by omega
  rw [List.take_length]
  exact po
theorem full_c (l:List At.At) (hl:l.length≤1000000) (hb:sizeI l≤1000000000):Con Tryz.prog 121 [.o (.ro 2 l.length (atC l).cell)] [] 0 0 U (fun _=>.o (.sb (fullB l))) G0:=by
 refine con_of Tryz.func121 rfl (by kernel_rfl) Tryz.ntmps121 rfl (by first | exact Nat.zero_le _ | decide) (fun _=>⟨rfl,rfl⟩) fun w S ν=>?_
 have hF:fullB l=decide (6<l.length∨288<sizeI l):=rfl
 (repeat' (first|(with_reducible refine AllP.go ?_;first|exact og|((try simp only [OS]);repeat' (first|exact oj|refine And.intro ?_ ?_)))|(refine rg ?_ ?_)|(with_reducible first|refine stp ?_|refine tD rfl ?_)|(with_reducible first|exact PanicOk.body|exact rd.panic|refine PanicOk.then' ?_|refine PanicOk.block ?_|refine PanicOk.jump ?_)|(refine dc ?_)|(refine dn ?_)|(refine TL.done (by rfl) ?_)|(refine TL.auto tysOk rfl ?_ (by rfl) ?_ ?_)|((refine TL.one (by rfl) ?_);first|(refine sm ?_ ?_)|(refine sp ?_ ?_))|(refine sm ?_ ?_)|refine ct ?_|refine cf ?_|((first|refine gs ?_ ?_|refine gl ?_ ?_|refine gc ?_ ?_)<;>intro h<;>(try simp only [NS] at h)<;>(try exact xf)<;>(try refine rn ?_ ?_))))
 ·(refine TE.ret' io rfl tysOk (()) ?_ rfl (by rfl) ?_;all_goals (try (first|exact trivial|((with_reducible refine AllP.go ?_);dsimp only [AllP,appP];repeat' (first|refine And.intro ?_ ?_|exact zz)))))
  rw [hF];refine congrArg Value.bool (Eq.symm (decide_eq_true ?_));omega
 refine cw (size_c l hl hb) ?_
 intro _ _
 refine wd ?_
 (refine TE.ret' io rfl tysOk (()) ?_ rfl (by rfl) ?_;all_goals (try (first|exact trivial|((with_reducible refine AllP.go ?_);dsimp only [AllP,appP];repeat' (first|refine And.intro ?_ ?_|exact zz)))))
 rw [hF,decide_eq_decide];omega
theorem rCheck_c (l:List At.At) (hl:l.length≤1000000) (hb:sizeI l≤1000000000):Con Tryz.prog 89 [.o (.ro 2 l.length (atC l).cell)] [] 0 0 U (fun _=>.o (.c (.int .i64 (checkE l)))) G0:=by
 refine con_of Tryz.func89 rfl (by kernel_rfl) Tryz.ntmps89 rfl (by first | exact Nat.zero_le _ | decide) (fun _=>⟨rfl,rfl⟩) fun w S ν=>?_
 have hel:∀ q,q<l.length→(l.getD q d0).1.size≤1000000000:=fun q h=>by
  have h1:=sizeI_snoc h
  have h2:=sizeI_take l (q+1)
  omega
 (repeat' (first|(with_reducible refine AllP.go ?_;first|exact og|((try simp only [OS]);repeat' (first|exact oj|refine And.intro ?_ ?_)))|(refine rg ?_ ?_)|(with_reducible first|refine stp ?_|refine tD rfl ?_)|(with_reducible first|exact PanicOk.body|exact rd.panic|refine PanicOk.then' ?_|refine PanicOk.block ?_|refine PanicOk.jump ?_)|(refine dc ?_)|(refine dn ?_)|(refine TL.done (by rfl) ?_)|(refine TL.auto tysOk rfl ?_ (by rfl) ?_ ?_)|((refine TL.one (by rfl) ?_);first|(refine sm ?_ ?_)|(refine sp ?_ ?_))|(refine sm ?_ ?_)|refine ct ?_|refine cf ?_|((first|refine gs ?_ ?_|refine gl ?_ ?_|refine gc ?_ ?_)<;>intro h<;>(try simp only [NS] at h)<;>(try exact xf)<;>(try refine rn ?_ ?_))))
 ·(refine TE.ret' io rfl tysOk (()) ?_ rfl (by rfl) ?_;all_goals (try (first|exact trivial|((with_reducible refine AllP.go ?_);dsimp only [AllP,appP];repeat' (first|refine And.intro ?_ ?_|exact zz)))))
  unfold checkE;rw [if_pos (by omega)]
 refine TE.loopG (fun q:Nat=>q≤l.length∧alonesE l=alonesE (l.drop q)) (fun q=>[(3,.o (.c (.int .i64 q)))]) [] (fun _=>[]) (fun q=>l.length - q) 0 (by rfl) ⟨Nat.zero_le _,rfl⟩ ?_ ?_
 ·exact ee
 rintro q ⟨h1,h2⟩
 (repeat' (first|(with_reducible refine AllP.go ?_;first|exact og|((try simp only [OS]);repeat' (first|exact oj|refine And.intro ?_ ?_)))|(refine rg ?_ ?_)|(with_reducible first|refine stp ?_|refine tD rfl ?_)|(with_reducible first|exact PanicOk.body|exact rd.panic|refine PanicOk.then' ?_|refine PanicOk.block ?_|refine PanicOk.jump ?_)|(refine dc ?_)|(refine dn ?_)|(refine TL.done (by rfl) ?_)|(refine TL.auto tysOk rfl ?_ (by rfl) ?_ ?_)|((refine TL.one (by rfl) ?_);first|(refine sm ?_ ?_)|(refine sp ?_ ?_))|(refine sm ?_ ?_)|refine ct ?_|refine cf ?_|((first|refine gs ?_ ?_|refine gl ?_ ?_|refine gc ?_ ?_)<;>intro h<;>(try simp only [NS] at h)<;>(try exact xf)<;>(try refine rn ?_ ?_))))
 ·refine cw (ralone_c (l.getD q d0) (hel q (by omega))) ?_
  intro _ _
  ((refine rn ?_ ?_);(repeat' (first|(with_reducible refine AllP.go ?_;first|exact og|((try simp only [OS]);repeat' (first|exact oj|refine And.intro ?_ ?_)))|(refine rg ?_ ?_)|(with_reducible first|refine stp ?_|refine tD rfl ?_)|(with_reducible first|exact PanicOk.body|exact rd.panic|refine PanicOk.then' ?_|refine PanicOk.block ?_|refine PanicOk.jump ?_)|(refine dc ?_)|(refine dn ?_)|(refine TL.done (by rfl) ?_)|(refine TL.auto tysOk rfl ?_ (by rfl) ?_ ?_)|((refine TL.one (by rfl) ?_);first|(refine sm ?_ ?_)|(refine sp ?_ ?_))|(refine sm ?_ ?_)|refine ct ?_|refine cf ?_|((first|refine gs ?_ ?_|refine gl ?_ ?_|refine gc ?_ ?_)<;>intro h<;>(try simp only [NS] at h)<;>(try exact xf)<;>(try refine rn ?_ ?_)))))
  ·rw [alonesE_drop (by omega),if_pos (by assumption)] at h2
   (refine TE.ret' io rfl tysOk (()) ?_ rfl (by rfl) ?_;all_goals (try (first|exact trivial|((with_reducible refine AllP.go ?_);dsimp only [AllP,appP];repeat' (first|refine And.intro ?_ ?_|exact zz)))))
   unfold checkE;rw [if_neg (by omega),if_pos (by rw [h2];assumption),h2]
  ·rw [alonesE_drop (by omega),if_neg (fun h=>h (by assumption))] at h2
   refine TE.again' (q+1) ⟨by omega,h2⟩ (by omega) ?_
   exact ee
 obtain rfl:q=l.length:=by omega
 rw [List.drop_length] at h2
 have hal:alonesE l=0:=h2
 clear h1 h2
 refine TE.loopG (fun q:Nat=>q≤l.length∧dupQ l q=false) (fun q=>[(5,.o (.c (.int .i64 q)))]) [] (fun _=>[]) (fun q=>l.length - q) 0 (by rfl) ⟨Nat.zero_le _,rfl⟩ ?_ ?_
 ·exact ee
 rintro q ⟨h1,h2⟩
 (repeat' (first|(with_reducible refine AllP.go ?_;first|exact og|((try simp only [OS]);repeat' (first|exact oj|refine And.intro ?_ ?_)))|(refine rg ?_ ?_)|(with_reducible first|refine stp ?_|refine tD rfl ?_)|(with_reducible first|exact PanicOk.body|exact rd.panic|refine PanicOk.then' ?_|refine PanicOk.block ?_|refine PanicOk.jump ?_)|(refine dc ?_)|(refine dn ?_)|(refine TL.done (by rfl) ?_)|(refine TL.auto tysOk rfl ?_ (by rfl) ?_ ?_)|((refine TL.one (by rfl) ?_);first|(refine sm ?_ ?_)|(refine sp ?_ ?_))|(refine sm ?_ ?_)|refine ct ?_|refine cf ?_|((first|refine gs ?_ ?_|refine gl ?_ ?_|refine gc ?_ ?_)<;>intro h<;>(try simp only [NS] at h)<;>(try exact xf)<;>(try refine rn ?_ ?_))))
 ·refine TE.loopG (fun k:Nat=>k≤q∧((l.take k).any fun y=>decide (y.1=(l.getD q d0).1))=false) (fun k=>[(6,.o (.c (.int .i64 k)))]) [] (fun _=>[]) (fun k=>q - k) 0 (by rfl) ⟨Nat.zero_le _,by simp⟩ ?_ ?_
  ·exact ee
  rintro k ⟨h3,h4⟩
  (repeat' (first|(with_reducible refine AllP.go ?_;first|exact og|((try simp only [OS]);repeat' (first|exact oj|refine And.intro ?_ ?_)))|(refine rg ?_ ?_)|(with_reducible first|refine stp ?_|refine tD rfl ?_)|(with_reducible first|exact PanicOk.body|exact rd.panic|refine PanicOk.then' ?_|refine PanicOk.block ?_|refine PanicOk.jump ?_)|(refine dc ?_)|(refine dn ?_)|(refine TL.done (by rfl) ?_)|(refine TL.auto tysOk rfl ?_ (by rfl) ?_ ?_)|((refine TL.one (by rfl) ?_);first|(refine sm ?_ ?_)|(refine sp ?_ ?_))|(refine sm ?_ ?_)|refine ct ?_|refine cf ?_|((first|refine gs ?_ ?_|refine gl ?_ ?_|refine gc ?_ ?_)<;>intro h<;>(try simp only [NS] at h)<;>(try exact xf)<;>(try refine rn ?_ ?_))))
  ·have hd:dupB l=true:=by
    rw [← dupQ_dupB];exact (dupQ_iff (Nat.le_refl _)).2 ⟨q,k,by omega,by omega,by assumption⟩
   (refine TE.ret' io rfl tysOk (()) ?_ rfl (by rfl) ?_;all_goals (try (first|exact trivial|((with_reducible refine AllP.go ?_);dsimp only [AllP,appP];repeat' (first|refine And.intro ?_ ?_|exact zz)))))
   unfold checkE;rw [if_neg (by omega),if_neg (fun h=>h hal),if_pos hd]
  ·have hne:¬ (l.getD k d0).1=(l.getD q d0).1:=by assumption
   refine TE.again' (k+1) ⟨by omega,by rw [any_take_succ (by omega),h4,decide_eq_false hne];rfl⟩ (by omega) ?_
   exact ee
  ·obtain rfl:k=q:=by omega
   refine TE.again' (k+1) ⟨by omega,by rw [dupQ,h2,h4];rfl⟩ (by omega) ?_
   exact ee
 obtain rfl:q=l.length:=by omega
 rw [dupQ_dupB] at h2
 refine TE.loopG (fun q:Nat=>1≤q∧∀ j,j+1<q→j+1<l.length→ltS (l.getD (j+1) d0).1 (l.getD j d0).1=false) (fun q=>[(7,.o (.c (.int .i64 q)))]) [] (fun _=>[]) (fun q=>l.length+1 - q) 1 (by rfl) ⟨Nat.le_refl _,fun j hj=>by omega⟩ ?_ ?_
 ·exact ee
 rintro q ⟨h3,h4⟩
 have e1:((q:Int) - 1).toNat=q - 1:=by omega
 have e2:q - 1+1=q:=by omega
 (repeat' (first|(with_reducible refine AllP.go ?_;first|exact og|((try simp only [OS]);repeat' (first|exact oj|refine And.intro ?_ ?_)))|(refine rg ?_ ?_)|(with_reducible first|refine stp ?_|refine tD rfl ?_)|(with_reducible first|exact PanicOk.body|exact rd.panic|refine PanicOk.then' ?_|refine PanicOk.block ?_|refine PanicOk.jump ?_)|(refine dc ?_)|(refine dn ?_)|(refine TL.done (by rfl) ?_)|(refine TL.auto tysOk rfl ?_ (by rfl) ?_ ?_)|((refine TL.one (by rfl) ?_);first|(refine sm ?_ ?_)|(refine sp ?_ ?_))|(refine sm ?_ ?_)|refine ct ?_|refine cf ?_|((first|refine gs ?_ ?_|refine gl ?_ ?_|refine gc ?_ ?_)<;>intro h<;>(try simp only [NS] at h)<;>(try exact xf)<;>(try refine rn ?_ ?_))))
 ·have hx:=h
  rw [e1] at hx
  have hs:sortedB l=false:=by
   cases h9:sortedB l
   ·rfl
   ·have:=sortedB_iff.1 h9 (q - 1) (by omega)
    rw [e2] at this
    unfold ltS at this
    rw [this] at hx;cases hx
  (refine TE.ret' io rfl tysOk (()) ?_ rfl (by rfl) ?_;all_goals (try (first|exact trivial|((with_reducible refine AllP.go ?_);dsimp only [AllP,appP];repeat' (first|refine And.intro ?_ ?_|exact zz)))))
  rw [checkE_of (by omega) hal h2,hs];rfl
 ·have hx:=h
  rw [e1] at hx
  refine TE.again' (q+1) ⟨by omega,fun j hj hj2=>?_⟩ (by omega) ?_
  ·rcases Nat.lt_or_ge (j+1) q with h5 | h5
   ·exact h4 j h5 hj2
   ·have e3:j+1=q:=by omega
    rw [← e3] at hx
    rw [show j+1 - 1=j by omega] at hx
    exact hx
  ·exact ee
 have hs:sortedB l=true:=sortedB_iff.2 fun i hi=>h4 i (by omega) hi
 refine cw (full_c l hl hb) ?_
 intro _ _
 ((refine rn ?_ ?_);(repeat' (first|(with_reducible refine AllP.go ?_;first|exact og|((try simp only [OS]);repeat' (first|exact oj|refine And.intro ?_ ?_)))|(refine rg ?_ ?_)|(with_reducible first|refine stp ?_|refine tD rfl ?_)|(with_reducible first|exact PanicOk.body|exact rd.panic|refine PanicOk.then' ?_|refine PanicOk.block ?_|refine PanicOk.jump ?_)|(refine dc ?_)|(refine dn ?_)|(refine TL.done (by rfl) ?_)|(refine TL.auto tysOk rfl ?_ (by rfl) ?_ ?_)|((refine TL.one (by rfl) ?_);first|(refine sm ?_ ?_)|(refine sp ?_ ?_))|(refine sm ?_ ?_)|refine ct ?_|refine cf ?_|((first|refine gs ?_ ?_|refine gl ?_ ?_|refine gc ?_ ?_)<;>intro h<;>(try simp only [NS] at h)<;>(try exact xf)<;>(try refine rn ?_ ?_)))))
 ·(refine TE.ret' io rfl tysOk (()) ?_ rfl (by rfl) ?_;all_goals (try (first|exact trivial|((with_reducible refine AllP.go ?_);dsimp only [AllP,appP];repeat' (first|refine And.intro ?_ ?_|exact zz)))))
  rw [checkE_of (by omega) hal h2,hs]
  simp [h]
 ·(refine TE.ret' io rfl tysOk (()) ?_ rfl (by rfl) ?_;all_goals (try (first|exact trivial|((with_reducible refine AllP.go ?_);dsimp only [AllP,appP];repeat' (first|refine And.intro ?_ ?_|exact zz)))))
  rw [checkE_of (by omega) hal h2,hs]
  simp [h]
end Go.Proofs.YtalmoocpebhoiaaGreatDoor.Am
namespace Go.Proofs.YtalmoocpebhoiaaGreatDoor.Am
open Go.RowKit Lw
open Br
theorem pbad_c (c:Int):Con Tryz.prog 129 [.o (.c (.int .i32 c))] [] 0 0 U (fun _=>.o (.sb (decide (c<33∨126<c∨c=47)))) G0:=by
 refine con_of Tryz.func129 rfl (by kernel_rfl) Tryz.ntmps129 rfl (by first | exact Nat.zero_le _ | decide) (fun _=>⟨rfl,rfl⟩) fun w S ν=>?_
 (repeat' (first|(with_reducible refine AllP.go ?_;first|exact og|((try simp only [OS]);repeat' (first|exact oj|refine And.intro ?_ ?_)))|(refine rg ?_ ?_)|(with_reducible first|refine stp ?_|refine tD rfl ?_)|(with_reducible first|exact PanicOk.body|exact rd.panic|refine PanicOk.then' ?_|refine PanicOk.block ?_|refine PanicOk.jump ?_)|(refine dc ?_)|(refine dn ?_)|(refine TL.done (by rfl) ?_)|(refine TL.auto tysOk rfl ?_ (by rfl) ?_ ?_)|((refine TL.one (by rfl) ?_);first|(refine sm ?_ ?_)|(refine sp ?_ ?_))|(refine sm ?_ ?_)|refine ct ?_|refine cf ?_|((first|refine gs ?_ ?_|refine gl ?_ ?_|refine gc ?_ ?_)<;>intro h<;>(try simp only [NS] at h)<;>(try exact xf)<;>(try refine rn ?_ ?_))))
 all_goals ((refine TE.ret' io rfl tysOk (()) ?_ rfl (by rfl) ?_;all_goals (try (first|exact trivial|((with_reducible refine AllP.go ?_);dsimp only [AllP,appP];repeat' (first|refine And.intro ?_ ?_|exact zz)))));first|(refine congrArg Value.bool (Eq.symm (decide_eq_true ?_));omega)|(simp only [decide_eq_decide];omega)|skip)
theorem pindexf_c (s:ByteArray) (hs:s.size≤1000000000):Con Tryz.prog 167 [.o (.c (.string s)),.o (.c (.func (.func 129) #[] #[])),.o (.c (.bool true))] [] 0 0 (fun i:Int=>(i = -1∧s.data.toList.any badC=false)∨(0≤i∧s.data.toList.any badC=true)) (fun i=>.o (.c (.int .i64 i))) (fun _=>[]):=by
 refine con_of Tryz.func167 rfl (by kernel_rfl) Tryz.ntmps167 rfl (by first | exact Nat.zero_le _ | decide) (fun _=>⟨rfl,rfl⟩) fun w S ν=>?_
 have hsz:s.data.toList.length=s.size:=rfl
 refine wc ?_
 (refine TE.step rfl rfl rfl (fun _ h=>nomatch h) (m_rangeS tysOk rfl rfl rfl) ?_;rintro _ rfl)
 refine wd ?_
 refine TE.loopG (fun q:Nat=>q≤s.size∧∀ k,k<q→badC (s.data.toList.getD k 0)=false) (fun _=>[]) [0] (fun q=>[.obj 0 (.stringIter s q)]) (fun q=>s.size - q) 0 (by rfl) ⟨Nat.zero_le _,fun k hk=>absurd hk (Nat.not_lt_zero _)⟩ ?_ ?_
 ·exact ee
 rintro q ⟨h1,h2⟩
 refine wc ?_
 (refine TE.step rfl rfl rfl (fun _ h=>nomatch h) (m_nextS rfl rfl rfl rfl) ?_;rintro _ (⟨h,rfl⟩ | ⟨h,rfl⟩))
 ·obtain ⟨c,hc,hw,hbad⟩:∃ c:Nat,(Utf8.decode s q).1=c∧(decide ((c:Int)<33∨(126:Int)<c∨(c:Int)=47)=false→(Utf8.decode s q).2=1∧badC (s.data.toList.getD q 0)=false)∧(decide ((c:Int)<33∨(126:Int)<c∨(c:Int)=47)=true→badC (s.data.toList.getD q 0)=true):=by
   refine ⟨_,rfl,?_,?_⟩
   all_goals
    rcases Nat.lt_or_ge (s.data.toList.getD q 0).toNat 128 with h3 | h3
    ·rw [decode_low h h3]
     unfold badC
     intro hx
     simp only [decide_eq_true_eq,decide_eq_false_iff_not] at hx⊢
     first | exact ⟨trivial,by omega⟩ | omega
    ·have:=decode_high h h3
     unfold badC
     intro hx
     simp only [decide_eq_true_eq,decide_eq_false_iff_not] at hx⊢
     omega
  rw [hc]
  refine wd ?_
  refine cw (pbad_c c) ?_
  intro _ _
  ((refine rn ?_ ?_);(repeat' (first|(with_reducible refine AllP.go ?_;first|exact og|((try simp only [OS]);repeat' (first|exact oj|refine And.intro ?_ ?_)))|(refine rg ?_ ?_)|(with_reducible first|refine stp ?_|refine tD rfl ?_)|(with_reducible first|exact PanicOk.body|exact rd.panic|refine PanicOk.then' ?_|refine PanicOk.block ?_|refine PanicOk.jump ?_)|(refine dc ?_)|(refine dn ?_)|(refine TL.done (by rfl) ?_)|(refine TL.auto tysOk rfl ?_ (by rfl) ?_ ?_)|((refine TL.one (by rfl) ?_);first|(refine sm ?_ ?_)|(refine sp ?_ ?_))|(refine sm ?_ ?_)|refine ct ?_|refine cf ?_|((first|refine gs ?_ ?_|refine gl ?_ ?_|refine gc ?_ ?_)<;>intro h<;>(try simp only [NS] at h)<;>(try exact xf)<;>(try refine rn ?_ ?_)))))
  ·(refine TE.ret' io rfl tysOk ((q:Int)) ?_ rfl (by rfl) ?_;all_goals (try (first|exact trivial|((with_reducible refine AllP.go ?_);dsimp only [AllP,appP];repeat' (first|refine And.intro ?_ ?_|exact zz)))))
   exact .inr ⟨by omega,any_getD (by omega) (hbad (by simpa using h))⟩
  ·obtain ⟨hw1,hw2⟩:=hw (by simpa using h)
   refine TE.again' (q+1) ⟨by omega,fun k hk=>?_⟩ (by omega) ?_
   ·rcases Nat.lt_or_ge k q with h4 | h4
    ·exact h2 k h4
    ·obtain rfl:k=q:=by omega
     exact hw2
   ·(refine Ent.of rfl rfl (by rfl) ?_;(try (first|exact trivial|((with_reducible refine AllP.go ?_);dsimp only [AllP,appP];repeat' (first|refine And.intro ?_ ?_|exact zz)))))
    rw [hw1]
 ·refine wd ?_
  (refine TE.ret' io rfl tysOk ((-1:Int)) ?_ rfl (by rfl) ?_;all_goals (try (first|exact trivial|((with_reducible refine AllP.go ?_);dsimp only [AllP,appP];repeat' (first|refine And.intro ?_ ?_|exact zz)))))
  exact .inl ⟨rfl,any_false fun k hk=>h2 k (by omega)⟩
theorem pIndexF_c (s:ByteArray) (hs:s.size≤1000000000):Con Tryz.prog 148 [.o (.c (.string s)),.o (.c (.func (.func 129) #[] #[]))] [] 0 0 (fun i:Int=>(i = -1∧s.data.toList.any badC=false)∨(0≤i∧s.data.toList.any badC=true)) (fun i=>.o (.c (.int .i64 i))) (fun _=>[]):=by
 refine con_of Tryz.func148 rfl (by kernel_rfl) Tryz.ntmps148 rfl (by first | exact Nat.zero_le _ | decide) (fun _=>⟨rfl,rfl⟩) fun w S ν=>?_
 refine wc ?_
 refine cw (pindexf_c s hs) ?_
 intro i hi
 refine wd ?_
 (refine TE.ret' io rfl tysOk (i) ?_ rfl (by rfl) ?_;all_goals (try (first|exact trivial|((with_reducible refine AllP.go ?_);dsimp only [AllP,appP];repeat' (first|refine And.intro ?_ ?_|exact zz)))))
 exact hi
theorem pContains_c (s:ByteArray) (hs:s.size≤1000000000):Con Tryz.prog 128 [.o (.c (.string s)),.o (.c (.func (.func 129) #[] #[]))] [] 0 0 U (fun _=>.o (.sb (s.data.toList.any badC))) G0:=by
 refine con_of Tryz.func128 rfl (by kernel_rfl) Tryz.ntmps128 rfl (by first | exact Nat.zero_le _ | decide) (fun _=>⟨rfl,rfl⟩) fun w S ν=>?_
 refine wc ?_
 refine cw (pIndexF_c s hs) ?_
 intro i hi
 refine wd ?_
 (refine TE.ret' io rfl tysOk (()) ?_ rfl (by rfl) ?_;all_goals (try (first|exact trivial|((with_reducible refine AllP.go ?_);dsimp only [AllP,appP];repeat' (first|refine And.intro ?_ ?_|exact zz)))))
 rcases hi with ⟨h1,h2⟩ | ⟨h1,h2⟩
 ·rw [h1,h2];rfl
 ·rw [h2];exact decide_eq_true h1
theorem pName_c (s:ByteArray) (hs:s.size≤1000000000):Con Tryz.prog 101 [.o (.c (.string s))] [] 0 0 U (fun _=>.o (.c (.int .i64 (pnameE s)))) G0:=by
 refine con_of Tryz.func101 rfl (by kernel_rfl) Tryz.ntmps101 rfl (by first | exact Nat.zero_le _ | decide) (fun _=>⟨rfl,rfl⟩) fun w S ν=>?_
 (repeat' (first|(with_reducible refine AllP.go ?_;first|exact og|((try simp only [OS]);repeat' (first|exact oj|refine And.intro ?_ ?_)))|(refine rg ?_ ?_)|(with_reducible first|refine stp ?_|refine tD rfl ?_)|(with_reducible first|exact PanicOk.body|exact rd.panic|refine PanicOk.then' ?_|refine PanicOk.block ?_|refine PanicOk.jump ?_)|(refine dc ?_)|(refine dn ?_)|(refine TL.done (by rfl) ?_)|(refine TL.auto tysOk rfl ?_ (by rfl) ?_ ?_)|((refine TL.one (by rfl) ?_);first|(refine sm ?_ ?_)|(refine sp ?_ ?_))|(refine sm ?_ ?_)|refine ct ?_|refine cf ?_|((first|refine gs ?_ ?_|refine gl ?_ ?_|refine gc ?_ ?_)<;>intro h<;>(try simp only [NS] at h)<;>(try exact xf)<;>(try refine rn ?_ ?_))))
 ·(refine TE.ret' io rfl tysOk (()) ?_ rfl (by rfl) ?_;all_goals (try (first|exact trivial|((with_reducible refine AllP.go ?_);dsimp only [AllP,appP];repeat' (first|refine And.intro ?_ ?_|exact zz)))))
  unfold pnameE;rw [if_pos (.inl (by assumption))]
 ·(refine TE.ret' io rfl tysOk (()) ?_ rfl (by rfl) ?_;all_goals (try (first|exact trivial|((with_reducible refine AllP.go ?_);dsimp only [AllP,appP];repeat' (first|refine And.intro ?_ ?_|exact zz)))))
  unfold pnameE;rw [if_pos (.inr (.inl (by assumption)))]
 ·(refine TE.ret' io rfl tysOk (()) ?_ rfl (by rfl) ?_;all_goals (try (first|exact trivial|((with_reducible refine AllP.go ?_);dsimp only [AllP,appP];repeat' (first|refine And.intro ?_ ?_|exact zz)))))
  unfold pnameE;rw [if_pos (.inr (.inr (.inl (by assumption))))]
 refine cw (pContains_c s hs) ?_
 intro _ _
 ((refine rn ?_ ?_);(repeat' (first|(with_reducible refine AllP.go ?_;first|exact og|((try simp only [OS]);repeat' (first|exact oj|refine And.intro ?_ ?_)))|(refine rg ?_ ?_)|(with_reducible first|refine stp ?_|refine tD rfl ?_)|(with_reducible first|exact PanicOk.body|exact rd.panic|refine PanicOk.then' ?_|refine PanicOk.block ?_|refine PanicOk.jump ?_)|(refine dc ?_)|(refine dn ?_)|(refine TL.done (by rfl) ?_)|(refine TL.auto tysOk rfl ?_ (by rfl) ?_ ?_)|((refine TL.one (by rfl) ?_);first|(refine sm ?_ ?_)|(refine sp ?_ ?_))|(refine sm ?_ ?_)|refine ct ?_|refine cf ?_|((first|refine gs ?_ ?_|refine gl ?_ ?_|refine gc ?_ ?_)<;>intro h<;>(try simp only [NS] at h)<;>(try exact xf)<;>(try refine rn ?_ ?_)))))
 ·(refine TE.ret' io rfl tysOk (()) ?_ rfl (by rfl) ?_;all_goals (try (first|exact trivial|((with_reducible refine AllP.go ?_);dsimp only [AllP,appP];repeat' (first|refine And.intro ?_ ?_|exact zz)))))
  unfold pnameE;rw [if_pos (.inr (.inr (.inr (by assumption))))]
 ·(refine TE.ret' io rfl tysOk (()) ?_ rfl (by rfl) ?_;all_goals (try (first|exact trivial|((with_reducible refine AllP.go ?_);dsimp only [AllP,appP];repeat' (first|refine And.intro ?_ ?_|exact zz)))))
  unfold pnameE;rw [if_neg (by simp_all),if_pos (by omega)]
 ·(refine TE.ret' io rfl tysOk (()) ?_ rfl (by rfl) ?_;all_goals (try (first|exact trivial|((with_reducible refine AllP.go ?_);dsimp only [AllP,appP];repeat' (first|refine And.intro ?_ ?_|exact zz)))))
  unfold pnameE;rw [if_neg (by simp_all),if_neg (by omega)]
theorem prName_c (s:ByteArray) (hs:s.size≤1000000000):Con Tryz.prog 106 [.o (.c (.string s))] [] 0 0 U (fun _=>.o (.c (.int .i64 (pnameE s)))) G0:=by
 refine con_of Tryz.func106 rfl (by kernel_rfl) Tryz.ntmps106 rfl (by first | exact Nat.zero_le _ | decide) (fun _=>⟨rfl,rfl⟩) fun w S ν=>?_
 have hsz:s.data.toList.length=s.size:=rfl
 (repeat' (first|(with_reducible refine AllP.go ?_;first|exact og|((try simp only [OS]);repeat' (first|exact oj|refine And.intro ?_ ?_)))|(refine rg ?_ ?_)|(with_reducible first|refine stp ?_|refine tD rfl ?_)|(with_reducible first|exact PanicOk.body|exact rd.panic|refine PanicOk.then' ?_|refine PanicOk.block ?_|refine PanicOk.jump ?_)|(refine dc ?_)|(refine dn ?_)|(refine TL.done (by rfl) ?_)|(refine TL.auto tysOk rfl ?_ (by rfl) ?_ ?_)|((refine TL.one (by rfl) ?_);first|(refine sm ?_ ?_)|(refine sp ?_ ?_))|(refine sm ?_ ?_)|refine ct ?_|refine cf ?_|((first|refine gs ?_ ?_|refine gl ?_ ?_|refine gc ?_ ?_)<;>intro h<;>(try simp only [NS] at h)<;>(try exact xf)<;>(try refine rn ?_ ?_))))
 ·(refine TE.ret' io rfl tysOk (()) ?_ rfl (by rfl) ?_;all_goals (try (first|exact trivial|((with_reducible refine AllP.go ?_);dsimp only [AllP,appP];repeat' (first|refine And.intro ?_ ?_|exact zz)))))
  unfold pnameE;rw [if_pos (.inl (by assumption))]
 ·(refine TE.ret' io rfl tysOk (()) ?_ rfl (by rfl) ?_;all_goals (try (first|exact trivial|((with_reducible refine AllP.go ?_);dsimp only [AllP,appP];repeat' (first|refine And.intro ?_ ?_|exact zz)))))
  unfold pnameE;rw [if_pos (.inr (.inl (by assumption)))]
 ·(refine TE.ret' io rfl tysOk (()) ?_ rfl (by rfl) ?_;all_goals (try (first|exact trivial|((with_reducible refine AllP.go ?_);dsimp only [AllP,appP];repeat' (first|refine And.intro ?_ ?_|exact zz)))))
  unfold pnameE;rw [if_pos (.inr (.inr (.inl (by assumption))))]
 refine TE.loopG (fun q:Nat=>q≤s.size∧∀ k,k<q→badC (s.data.toList.getD k 0)=false) (fun q=>[(3,.o (.c (.int .i64 q)))]) [] (fun _=>[]) (fun q=>s.size - q) 0 (by rfl) ⟨Nat.zero_le _,fun k hk=>absurd hk (Nat.not_lt_zero _)⟩ ?_ ?_
 ·exact ee
 rintro q ⟨h1,h2⟩
 (repeat' (first|(with_reducible refine AllP.go ?_;first|exact og|((try simp only [OS]);repeat' (first|exact oj|refine And.intro ?_ ?_)))|(refine rg ?_ ?_)|(with_reducible first|refine stp ?_|refine tD rfl ?_)|(with_reducible first|exact PanicOk.body|exact rd.panic|refine PanicOk.then' ?_|refine PanicOk.block ?_|refine PanicOk.jump ?_)|(refine dc ?_)|(refine dn ?_)|(refine TL.done (by rfl) ?_)|(refine TL.auto tysOk rfl ?_ (by rfl) ?_ ?_)|((refine TL.one (by rfl) ?_);first|(refine sm ?_ ?_)|(refine sp ?_ ?_))|(refine sm ?_ ?_)|refine ct ?_|refine cf ?_|((first|refine gs ?_ ?_|refine gl ?_ ?_|refine gc ?_ ?_)<;>intro h<;>(try simp only [NS] at h)<;>(try exact xf)<;>(try refine rn ?_ ?_))))
 iterate 3
  ·have hb:badC (s.data.toList.getD q 0)=true:=decide_eq_true (by omega)
   (refine TE.ret' io rfl tysOk (()) ?_ rfl (by rfl) ?_;all_goals (try (first|exact trivial|((with_reducible refine AllP.go ?_);dsimp only [AllP,appP];repeat' (first|refine And.intro ?_ ?_|exact zz)))))
   unfold pnameE;rw [if_pos (.inr (.inr (.inr (any_getD (by omega) hb))))]
 ·have hb:badC (s.data.toList.getD q 0)=false:=decide_eq_false (by omega)
  refine TE.again' (q+1) ⟨by omega,fun k hk=>?_⟩ (by omega) ?_
  ·rcases Nat.lt_or_ge k q with h4 | h4
   ·exact h2 k h4
   ·obtain rfl:k=q:=by omega
    exact hb
  ·exact ee
 all_goals
  have hany:s.data.toList.any badC=false:=any_false fun k hk=>h2 k (by omega)
  (refine TE.ret' io rfl tysOk (()) ?_ rfl (by rfl) ?_;all_goals (try (first|exact trivial|((with_reducible refine AllP.go ?_);dsimp only [AllP,appP];repeat' (first|refine And.intro ?_ ?_|exact zz)))))
  unfold pnameE
 ·rw [if_neg (by simp_all),if_pos (by omega)]
 ·rw [if_neg (by simp_all),if_neg (by omega)]
abbrev bsR (x:ByteArray) (_:Nat):DC:=.c (.string x)
abbrev paC (p:List ByteArray):Ct:=listC bsR eS p
theorem pnamesE_drop {p:List ByteArray} {q:Nat} (h:q<p.length):pnamesE (p.drop q)=if pnameE (p.getD q eS)≠0 then pnameE (p.getD q eS) else pnamesE (p.drop (q+1)):=by
 rw [List.drop_eq_getElem_cons h,pnamesE,List.getD_eq_getElem?_getD,List.getElem?_eq_getElem h]
 rfl
theorem getD_mem {α:Type} {l:List α} {d:α} {k:Nat} (h:k<l.length):l.getD k d∈l:=by
 rw [List.getD_eq_getElem?_getD,List.getElem?_eq_getElem h]
 exact List.getElem_mem h
theorem pCheck_c (p:List ByteArray) (hp:∀ s∈p,s.size≤1000000000) (hl:p.length≤1000000):Con Tryz.prog 65 [.o (.ro 1 p.length (paC p).cell)] [] 0 0 U (fun _=>.o (.c (.int .i64 (pcheckE p)))) G0:=by
 refine con_of Tryz.func65 rfl (by kernel_rfl) Tryz.ntmps65 rfl (by first | exact Nat.zero_le _ | decide) (fun _=>⟨rfl,rfl⟩) fun w S ν=>?_
 (repeat' (first|(with_reducible refine AllP.go ?_;first|exact og|((try simp only [OS]);repeat' (first|exact oj|refine And.intro ?_ ?_)))|(refine rg ?_ ?_)|(with_reducible first|refine stp ?_|refine tD rfl ?_)|(with_reducible first|exact PanicOk.body|exact rd.panic|refine PanicOk.then' ?_|refine PanicOk.block ?_|refine PanicOk.jump ?_)|(refine dc ?_)|(refine dn ?_)|(refine TL.done (by rfl) ?_)|(refine TL.auto tysOk rfl ?_ (by rfl) ?_ ?_)|((refine TL.one (by rfl) ?_);first|(refine sm ?_ ?_)|(refine sp ?_ ?_))|(refine sm ?_ ?_)|refine ct ?_|refine cf ?_|((first|refine gs ?_ ?_|refine gl ?_ ?_|refine gc ?_ ?_)<;>intro h<;>(try simp only [NS] at h)<;>(try exact xf)<;>(try refine rn ?_ ?_))))
 ·rw [show pcheckE p=3 from if_pos (by omega)]
  exact po
 rw [show pcheckE p=pnamesE p from if_neg (by omega)]
 refine TE.loopG (fun q:Nat=>q≤p.length∧pnamesE p=pnamesE (p.drop q)) (fun q=>[(11,.o (.c (.int .i64 q)))]) [] (fun _=>[]) (fun q=>p.length - q) 0 (by rfl) ⟨Nat.zero_le _,rfl⟩ ?_ ?_
 ·exact ee
 rintro q ⟨h1,h2⟩
 by_cases hq:q<p.length
 ·rw [pnamesE_drop hq] at h2
  have hs:=hp _ (getD_mem (l:=p) (d:=eS) hq)
  refine wc ?_
  refine cw (pName_c (p.getD q eS) hs) ?_
  intro _ _
  ((refine rn ?_ ?_);(repeat' (first|(with_reducible refine AllP.go ?_;first|exact og|((try simp only [OS]);repeat' (first|exact oj|refine And.intro ?_ ?_)))|(refine rg ?_ ?_)|(with_reducible first|refine stp ?_|refine tD rfl ?_)|(with_reducible first|exact PanicOk.body|exact rd.panic|refine PanicOk.then' ?_|refine PanicOk.block ?_|refine PanicOk.jump ?_)|(refine dc ?_)|(refine dn ?_)|(refine TL.done (by rfl) ?_)|(refine TL.auto tysOk rfl ?_ (by rfl) ?_ ?_)|((refine TL.one (by rfl) ?_);first|(refine sm ?_ ?_)|(refine sp ?_ ?_))|(refine sm ?_ ?_)|refine ct ?_|refine cf ?_|((first|refine gs ?_ ?_|refine gl ?_ ?_|refine gc ?_ ?_)<;>intro h<;>(try simp only [NS] at h)<;>(try exact xf)<;>(try refine rn ?_ ?_)))))
  ·rw [if_pos (by assumption)] at h2
   rw [h2]
   exact po
  ·rw [if_neg (by omega)] at h2
   refine TE.again' (q+1) ⟨by omega,h2⟩ (by omega) ?_
   exact ee
 ·obtain rfl:q=p.length:=by omega
  rw [List.drop_length] at h2
  rw [h2]
  refine wc ?_
  exact po
theorem prCheck_c (p:List ByteArray) (hp:∀ s∈p,s.size≤1000000000) (hl:p.length≤1000000):Con Tryz.prog 70 [.o (.ro 1 p.length (paC p).cell)] [] 0 0 U (fun _=>.o (.c (.int .i64 (pcheckE p)))) G0:=by
 refine con_of Tryz.func70 rfl (by kernel_rfl) Tryz.ntmps70 rfl (by first | exact Nat.zero_le _ | decide) (fun _=>⟨rfl,rfl⟩) fun w S ν=>?_
 (repeat' (first|(with_reducible refine AllP.go ?_;first|exact og|((try simp only [OS]);repeat' (first|exact oj|refine And.intro ?_ ?_)))|(refine rg ?_ ?_)|(with_reducible first|refine stp ?_|refine tD rfl ?_)|(with_reducible first|exact PanicOk.body|exact rd.panic|refine PanicOk.then' ?_|refine PanicOk.block ?_|refine PanicOk.jump ?_)|(refine dc ?_)|(refine dn ?_)|(refine TL.done (by rfl) ?_)|(refine TL.auto tysOk rfl ?_ (by rfl) ?_ ?_)|((refine TL.one (by rfl) ?_);first|(refine sm ?_ ?_)|(refine sp ?_ ?_))|(refine sm ?_ ?_)|refine ct ?_|refine cf ?_|((first|refine gs ?_ ?_|refine gl ?_ ?_|refine gc ?_ ?_)<;>intro h<;>(try simp only [NS] at h)<;>(try exact xf)<;>(try refine rn ?_ ?_))))
 ·rw [show pcheckE p=3 from if_pos (by omega)]
  exact po
 rw [show pcheckE p=pnamesE p from if_neg (by omega)]
 refine TE.loopG (fun q:Nat=>q≤p.length∧pnamesE p=pnamesE (p.drop q)) (fun q=>[(3,.o (.c (.int .i64 q)))]) [] (fun _=>[]) (fun q=>p.length - q) 0 (by rfl) ⟨Nat.zero_le _,rfl⟩ ?_ ?_
 ·exact ee
 rintro q ⟨h1,h2⟩
 by_cases hq:q<p.length
 ·rw [pnamesE_drop hq] at h2
  have hs:=hp _ (getD_mem (l:=p) (d:=eS) hq)
  refine wc ?_
  refine cw (prName_c (p.getD q eS) hs) ?_
  intro _ _
  ((refine rn ?_ ?_);(repeat' (first|(with_reducible refine AllP.go ?_;first|exact og|((try simp only [OS]);repeat' (first|exact oj|refine And.intro ?_ ?_)))|(refine rg ?_ ?_)|(with_reducible first|refine stp ?_|refine tD rfl ?_)|(with_reducible first|exact PanicOk.body|exact rd.panic|refine PanicOk.then' ?_|refine PanicOk.block ?_|refine PanicOk.jump ?_)|(refine dc ?_)|(refine dn ?_)|(refine TL.done (by rfl) ?_)|(refine TL.auto tysOk rfl ?_ (by rfl) ?_ ?_)|((refine TL.one (by rfl) ?_);first|(refine sm ?_ ?_)|(refine sp ?_ ?_))|(refine sm ?_ ?_)|refine ct ?_|refine cf ?_|((first|refine gs ?_ ?_|refine gl ?_ ?_|refine gc ?_ ?_)<;>intro h<;>(try simp only [NS] at h)<;>(try exact xf)<;>(try refine rn ?_ ?_)))))
  ·rw [if_pos (by assumption)] at h2
   rw [h2]
   exact po
  ·rw [if_neg (by omega)] at h2
   refine TE.again' (q+1) ⟨by omega,h2⟩ (by omega) ?_
   exact ee
 ·obtain rfl:q=p.length:=by omega
  rw [List.drop_length] at h2
  rw [h2]
  refine wc ?_
  exact po
abbrev ndA (x:Nd):List A1:=[.c (.int .i64 x.depth),.c (.string x.name),.c (.int .i64 x.kind),.ro 2 x.attrs.length (atC x.attrs).cell,.c (.string x.data),.c (.int .i64 x.major),.c (.int .i64 x.minor),.c (.int .i64 x.cls)]
def ndR (x:Nd) (j:Nat):DC:=match j with
 | 0=>.c (.int .i64 x.depth)
 | 1=>.c (.string x.name)
 | 2=>.c (.int .i64 x.kind)
 | 3=>.sl 2 x.attrs.length (atC x.attrs).cell
 | 4=>.c (.string x.data)
 | 5=>.c (.int .i64 x.major)
 | 6=>.c (.int .i64 x.minor)
 | _=>.c (.int .i64 x.cls)
abbrev ndC (l:List Nd):Ct:=listC ndR n0 l
theorem fields_c (n:Nd):Con Tryz.prog 123 [.g (ndA n)] [] 0 0 U (fun _=>.o (.c (.int .i64 (fieldsE n)))) G0:=by
 refine con_of Tryz.func123 rfl (by kernel_rfl) Tryz.ntmps123 rfl (by first | exact Nat.zero_le _ | decide) (fun _=>⟨rfl,rfl⟩) fun w S ν=>?_
 obtain ⟨dep,nam,kind,ats,dat,maj,mino,cls⟩:=n
 by_cases h5:kind<1∨5<kind
 ·(repeat' (first|(with_reducible refine AllP.go ?_;first|exact og|((try simp only [OS]);repeat' (first|exact oj|refine And.intro ?_ ?_)))|(refine rg ?_ ?_)|(with_reducible first|refine stp ?_|refine tD rfl ?_)|refine ct ?_|refine cf ?_|((first|refine gs ?_ ?_|refine gl ?_ ?_|refine gc ?_ ?_)<;>intro h<;>(try simp only [NS] at h)<;>(try exact xf)<;>(try refine rn ?_ ?_))))
  all_goals ((refine TE.ret' io rfl tysOk (()) ?_ rfl (by rfl) ?_;all_goals (try (first|exact trivial|((with_reducible refine AllP.go ?_);dsimp only [AllP,appP];repeat' (first|refine And.intro ?_ ?_|exact zz)))));try (refine congrArg (Value.int _) ?_);unfold fieldsE;dsimp only;(repeat' split);all_goals first|rfl|(exfalso;omega))
 have hk:kind=1∨kind=2∨kind=3∨kind=4∨kind=5:=by omega
 clear h5
 rcases hk with rfl | rfl | rfl | rfl | rfl
 all_goals (repeat' (first|(with_reducible refine AllP.go ?_;first|exact og|((try simp only [OS]);repeat' (first|exact oj|refine And.intro ?_ ?_)))|(refine rg ?_ ?_)|(with_reducible first|refine stp ?_|refine tD rfl ?_)|refine ct ?_|refine cf ?_|((first|refine gs ?_ ?_|refine gl ?_ ?_|refine gc ?_ ?_)<;>intro h<;>(try simp only [NS] at h)<;>(try exact xf)<;>(try refine rn ?_ ?_))))
 all_goals ((refine TE.ret' io rfl tysOk (()) ?_ rfl (by rfl) ?_;all_goals (try (first|exact trivial|((with_reducible refine AllP.go ?_);dsimp only [AllP,appP];repeat' (first|refine And.intro ?_ ?_|exact zz)))));try (refine congrArg (Value.int _) ?_);unfold fieldsE;dsimp only;(repeat' split);all_goals first|rfl|(exfalso;omega))
theorem rkind_c (n:Nd):Con Tryz.prog 88 [.g (ndA n)] [] 0 0 U (fun _=>.o (.c (.int .i64 (fieldsE n)))) G0:=by
 refine con_of Tryz.func88 rfl (by kernel_rfl) Tryz.ntmps88 rfl (by first | exact Nat.zero_le _ | decide) (fun _=>⟨rfl,rfl⟩) fun w S ν=>?_
 obtain ⟨dep,nam,kind,ats,dat,maj,mino,cls⟩:=n
 by_cases h5:kind<1∨5<kind
 ·(repeat' (first|(with_reducible refine AllP.go ?_;first|exact og|((try simp only [OS]);repeat' (first|exact oj|refine And.intro ?_ ?_)))|(refine rg ?_ ?_)|(with_reducible first|refine stp ?_|refine tD rfl ?_)|refine ct ?_|refine cf ?_|((first|refine gs ?_ ?_|refine gl ?_ ?_|refine gc ?_ ?_)<;>intro h<;>(try simp only [NS] at h)<;>(try exact xf)<;>(try refine rn ?_ ?_))))
  all_goals ((refine TE.ret' io rfl tysOk (()) ?_ rfl (by rfl) ?_;all_goals (try (first|exact trivial|((with_reducible refine AllP.go ?_);dsimp only [AllP,appP];repeat' (first|refine And.intro ?_ ?_|exact zz)))));try (refine congrArg (Value.int _) ?_);unfold fieldsE;dsimp only;(repeat' split);all_goals first|rfl|(exfalso;omega))
 have hk:kind=1∨kind=2∨kind=3∨kind=4∨kind=5:=by omega
 clear h5
 rcases hk with rfl | rfl | rfl | rfl | rfl
 all_goals (repeat' (first|(with_reducible refine AllP.go ?_;first|exact og|((try simp only [OS]);repeat' (first|exact oj|refine And.intro ?_ ?_)))|(refine rg ?_ ?_)|(with_reducible first|refine stp ?_|refine tD rfl ?_)|refine ct ?_|refine cf ?_|((first|refine gs ?_ ?_|refine gl ?_ ?_|refine gc ?_ ?_)<;>intro h<;>(try simp only [NS] at h)<;>(try exact xf)<;>(try refine rn ?_ ?_))))
 all_goals ((refine TE.ret' io rfl tysOk (()) ?_ rfl (by rfl) ?_;all_goals (try (first|exact trivial|((with_reducible refine AllP.go ?_);dsimp only [AllP,appP];repeat' (first|refine And.intro ?_ ?_|exact zz)))));try (refine congrArg (Value.int _) ?_);unfold fieldsE;dsimp only;(repeat' split);all_goals first|rfl|(exfalso;omega))
end Go.Proofs.YtalmoocpebhoiaaGreatDoor.Am
namespace Go.Proofs.YtalmoocpebhoiaaGreatDoor.Am
open Go.RowKit Lw At
open Br
theorem eqA:eqOkB Tryz.prog 39=true:=by kernel_rfl
theorem list_eq_of {l m:List At.At} (hl:l.length=m.length) (h:∀ k,k<l.length→l.getD k d0=m.getD k d0):l=m:=by
 refine List.ext_getElem hl fun i h1 h2=>?_
 have:=h i h1
 rwa [List.getD_eq_getElem?_getD,List.getElem?_eq_getElem h1,List.getD_eq_getElem?_getD,List.getElem?_eq_getElem h2] at this
theorem sameAttrs_c (l m:List At.At) (hl:l.length≤1000000) (hm:m.length≤1000000):Con Tryz.prog 119 [.o (.ro 2 l.length (atC l).cell),.o (.ro 2 m.length (atC m).cell)] [] 0 0 U (fun _=>.o (.sb (decide (l=m)))) G0:=by
 refine con_of Tryz.func119 rfl (by kernel_rfl) Tryz.ntmps119 rfl (by first | exact Nat.zero_le _ | decide) (fun _=>⟨rfl,rfl⟩) fun w S ν=>?_
 (repeat' (first|(with_reducible refine AllP.go ?_;first|exact og|((try simp only [OS]);repeat' (first|exact oj|refine And.intro ?_ ?_)))|(refine rg ?_ ?_)|(with_reducible first|refine stp ?_|refine tD rfl ?_)|(with_reducible first|exact PanicOk.body|exact rd.panic|refine PanicOk.then' ?_|refine PanicOk.block ?_|refine PanicOk.jump ?_)|(refine dc ?_)|(refine dn ?_)|(refine TL.done (by rfl) ?_)|(refine TL.auto tysOk rfl ?_ (by rfl) ?_ ?_)|((refine TL.one (by rfl) ?_);first|(refine sm ?_ ?_)|(refine sp ?_ ?_))|(refine sm ?_ ?_)|refine ct ?_|refine cf ?_|((first|refine gs ?_ ?_|refine gl ?_ ?_|refine gc ?_ ?_)<;>intro h<;>(try simp only [NS] at h)<;>(try exact xf)<;>(try refine rn ?_ ?_))))
 ·(refine TE.ret' io rfl tysOk (()) ?_ rfl (by rfl) ?_;all_goals (try (first|exact trivial|((with_reducible refine AllP.go ?_);dsimp only [AllP,appP];repeat' (first|refine And.intro ?_ ?_|exact zz)))))
  rw [decide_eq_false (fun e=>h (by rw [e]))]
 refine TE.loopG (fun q:Nat=>q≤l.length∧∀ k,k<q→l.getD k d0=m.getD k d0) (fun q=>[(5,.o (.c (.int .i64 q)))]) [] (fun _=>[]) (fun q=>l.length - q) 0 (by rfl) ⟨Nat.zero_le _,fun k hk=>absurd hk (Nat.not_lt_zero _)⟩ ?_ ?_
 ·exact ee
 rintro q ⟨h1,h2⟩
 (repeat' (first|(with_reducible refine AllP.go ?_;first|exact og|((try simp only [OS]);repeat' (first|exact oj|refine And.intro ?_ ?_)))|(refine rg ?_ ?_)|(with_reducible first|refine stp ?_|refine tD rfl ?_)|(with_reducible first|exact PanicOk.body|exact rd.panic|refine PanicOk.then' ?_|refine PanicOk.block ?_|refine PanicOk.jump ?_)|(refine dc ?_)|(refine dn ?_)|(refine TL.done (by rfl) ?_)|(refine TL.auto tysOk rfl ?_ (by rfl) ?_ ?_)|((refine TL.one (by rfl) ?_);first|(refine sm ?_ ?_)|(refine sp ?_ ?_))|(refine sm ?_ ?_)|refine ct ?_|refine cf ?_|((first|refine gs ?_ ?_|refine gl ?_ ?_|refine gc ?_ ?_)<;>intro h<;>(try simp only [NS] at h)<;>(try exact xf)<;>(try refine rn ?_ ?_))))
 ·(refine TL.one (by rfl) ?_)
  (refine StepL.law rfl rfl rfl (fun _ h=>nomatch h) rfl (m_eqS tysOk (eqA) rfl (by first | exact .inl rfl | exact .inr rfl) rfl rfl rfl rfl) (by rfl) ?_;rintro _ rfl)
  refine wf ?_
  obtain ⟨B,hB⟩:∃ B,B=((decide ((l.getD q d0).1=(m.getD q d0).1) && (decide ((l.getD q d0).2=(m.getD q d0).2) && true)) == (BinOp.neq == BinOp.eql)):=⟨_,rfl⟩
  have hB2:B=!decide (l.getD q d0=m.getD q d0):=by
   rw [hB,show (BinOp.neq == BinOp.eql)=false from rfl]
   have:(l.getD q d0=m.getD q d0)=((l.getD q d0).1=(m.getD q d0).1∧(l.getD q d0).2=(m.getD q d0).2):=propext Prod.ext_iff
   simp only [this]
   by_cases c1:(l.getD q d0).1=(m.getD q d0).1<;>by_cases c2:(l.getD q d0).2=(m.getD q d0).2<;>simp [c1,c2]
  cases hB3:B
  ·have he:l.getD q d0=m.getD q d0:=by rw [hB3] at hB2;simpa using hB2.symm
   (repeat' (first|(with_reducible refine AllP.go ?_;first|exact og|((try simp only [OS]);repeat' (first|exact oj|refine And.intro ?_ ?_)))|(refine rg ?_ ?_)|(with_reducible first|refine stp ?_|refine tD rfl ?_)|(with_reducible first|exact PanicOk.body|exact rd.panic|refine PanicOk.then' ?_|refine PanicOk.block ?_|refine PanicOk.jump ?_)|(refine dc ?_)|(refine dn ?_)|(refine TL.done (by rfl) ?_)|(refine TL.auto tysOk rfl ?_ (by rfl) ?_ ?_)|((refine TL.one (by rfl) ?_);first|(refine sm ?_ ?_)|(refine sp ?_ ?_))|(refine sm ?_ ?_)|refine ct ?_|refine cf ?_|((first|refine gs ?_ ?_|refine gl ?_ ?_|refine gc ?_ ?_)<;>intro h<;>(try simp only [NS] at h)<;>(try exact xf)<;>(try refine rn ?_ ?_))))
   ·exact absurd h (by show ¬ _=true;rw [show ((decide ((l.getD q d0).1=(m.getD q d0).1) && (decide ((l.getD q d0).2=(m.getD q d0).2) && true)) == (BinOp.neq == BinOp.eql))=false from hB ▸ hB3];decide)
   ·refine TE.again' (q+1) ⟨by omega,fun k hk=>?_⟩ (by omega) ?_
    ·rcases Nat.lt_or_ge k q with h4 | h4
     ·exact h2 k h4
     ·obtain rfl:k=q:=by omega
      exact he
    ·exact ee
  ·have he:l.getD q d0≠m.getD q d0:=by rw [hB3] at hB2;simpa using hB2.symm
   (repeat' (first|(with_reducible refine AllP.go ?_;first|exact og|((try simp only [OS]);repeat' (first|exact oj|refine And.intro ?_ ?_)))|(refine rg ?_ ?_)|(with_reducible first|refine stp ?_|refine tD rfl ?_)|(with_reducible first|exact PanicOk.body|exact rd.panic|refine PanicOk.then' ?_|refine PanicOk.block ?_|refine PanicOk.jump ?_)|(refine dc ?_)|(refine dn ?_)|(refine TL.done (by rfl) ?_)|(refine TL.auto tysOk rfl ?_ (by rfl) ?_ ?_)|((refine TL.one (by rfl) ?_);first|(refine sm ?_ ?_)|(refine sp ?_ ?_))|(refine sm ?_ ?_)|refine ct ?_|refine cf ?_|((first|refine gs ?_ ?_|refine gl ?_ ?_|refine gc ?_ ?_)<;>intro h<;>(try simp only [NS] at h)<;>(try exact xf)<;>(try refine rn ?_ ?_))))
   ·(refine TE.ret' io rfl tysOk (()) ?_ rfl (by rfl) ?_;all_goals (try (first|exact trivial|((with_reducible refine AllP.go ?_);dsimp only [AllP,appP];repeat' (first|refine And.intro ?_ ?_|exact zz)))))
    rw [decide_eq_false (fun e=>he (by rw [e]))]
   ·exact absurd h (by show ¬ _=false;rw [show ((decide ((l.getD q d0).1=(m.getD q d0).1) && (decide ((l.getD q d0).2=(m.getD q d0).2) && true)) == (BinOp.neq == BinOp.eql))=true from hB ▸ hB3];decide)
 ·(refine TE.ret' io rfl tysOk (()) ?_ rfl (by rfl) ?_;all_goals (try (first|exact trivial|((with_reducible refine AllP.go ?_);dsimp only [AllP,appP];repeat' (first|refine And.intro ?_ ?_|exact zz)))))
  rw [decide_eq_true (list_eq_of ‹_› fun k hk=>h2 k (by omega))]
theorem eqAttrs_c (l m:List At.At) (hl:l.length≤1000000) (hm:m.length≤1000000):Con Tryz.prog 162 [.o (.ro 2 l.length (atC l).cell),.o (.ro 2 m.length (atC m).cell)] [] 0 0 U (fun _=>.o (.sb (decide (l=m)))) G0:=by
 refine con_of Tryz.func162 rfl (by kernel_rfl) Tryz.ntmps162 rfl (by first | exact Nat.zero_le _ | decide) (fun _=>⟨rfl,rfl⟩) fun w S ν=>?_
 (repeat' (first|(with_reducible refine AllP.go ?_;first|exact og|((try simp only [OS]);repeat' (first|exact oj|refine And.intro ?_ ?_)))|(refine rg ?_ ?_)|(with_reducible first|refine stp ?_|refine tD rfl ?_)|(with_reducible first|exact PanicOk.body|exact rd.panic|refine PanicOk.then' ?_|refine PanicOk.block ?_|refine PanicOk.jump ?_)|(refine dc ?_)|(refine dn ?_)|(refine TL.done (by rfl) ?_)|(refine TL.auto tysOk rfl ?_ (by rfl) ?_ ?_)|((refine TL.one (by rfl) ?_);first|(refine sm ?_ ?_)|(refine sp ?_ ?_))|(refine sm ?_ ?_)|refine ct ?_|refine cf ?_|((first|refine gs ?_ ?_|refine gl ?_ ?_|refine gc ?_ ?_)<;>intro h<;>(try simp only [NS] at h)<;>(try exact xf)<;>(try refine rn ?_ ?_))))
 ·(refine TE.ret' io rfl tysOk (()) ?_ rfl (by rfl) ?_;all_goals (try (first|exact trivial|((with_reducible refine AllP.go ?_);dsimp only [AllP,appP];repeat' (first|refine And.intro ?_ ?_|exact zz)))))
  rw [decide_eq_false (fun e=>h (by rw [e]))]
 refine TE.loopG (fun q:Nat=>q≤l.length∧∀ k,k<q→l.getD k d0=m.getD k d0) (fun q=>[(13,.o (.c (.int .i64 q)))]) [] (fun _=>[]) (fun q=>l.length - q) 0 (by rfl) ⟨Nat.zero_le _,fun k hk=>absurd hk (Nat.not_lt_zero _)⟩ ?_ ?_
 ·exact ee
 rintro q ⟨h1,h2⟩
 (repeat' (first|(with_reducible refine AllP.go ?_;first|exact og|((try simp only [OS]);repeat' (first|exact oj|refine And.intro ?_ ?_)))|(refine rg ?_ ?_)|(with_reducible first|refine stp ?_|refine tD rfl ?_)|(with_reducible first|exact PanicOk.body|exact rd.panic|refine PanicOk.then' ?_|refine PanicOk.block ?_|refine PanicOk.jump ?_)|(refine dc ?_)|(refine dn ?_)|(refine TL.done (by rfl) ?_)|(refine TL.auto tysOk rfl ?_ (by rfl) ?_ ?_)|((refine TL.one (by rfl) ?_);first|(refine sm ?_ ?_)|(refine sp ?_ ?_))|(refine sm ?_ ?_)|refine ct ?_|refine cf ?_|((first|refine gs ?_ ?_|refine gl ?_ ?_|refine gc ?_ ?_)<;>intro h<;>(try simp only [NS] at h)<;>(try exact xf)<;>(try refine rn ?_ ?_))))
 ·(refine TL.one (by rfl) ?_)
  (refine StepL.law rfl rfl rfl (fun _ h=>nomatch h) rfl (m_eqS tysOk (eqA) rfl (by first | exact .inl rfl | exact .inr rfl) rfl rfl rfl rfl) (by rfl) ?_;rintro _ rfl)
  refine wf ?_
  obtain ⟨B,hB⟩:∃ B,B=((decide ((l.getD q d0).1=(m.getD q d0).1) && (decide ((l.getD q d0).2=(m.getD q d0).2) && true)) == (BinOp.neq == BinOp.eql)):=⟨_,rfl⟩
  have hB2:B=!decide (l.getD q d0=m.getD q d0):=by
   rw [hB,show (BinOp.neq == BinOp.eql)=false from rfl]
   have:(l.getD q d0=m.getD q d0)=((l.getD q d0).1=(m.getD q d0).1∧(l.getD q d0).2=(m.getD q d0).2):=propext Prod.ext_iff
   simp only [this]
   by_cases c1:(l.getD q d0).1=(m.getD q d0).1<;>by_cases c2:(l.getD q d0).2=(m.getD q d0).2<;>simp [c1,c2]
  cases hB3:B
  ·have he:l.getD q d0=m.getD q d0:=by rw [hB3] at hB2;simpa using hB2.symm
   (repeat' (first|(with_reducible refine AllP.go ?_;first|exact og|((try simp only [OS]);repeat' (first|exact oj|refine And.intro ?_ ?_)))|(refine rg ?_ ?_)|(with_reducible first|refine stp ?_|refine tD rfl ?_)|(with_reducible first|exact PanicOk.body|exact rd.panic|refine PanicOk.then' ?_|refine PanicOk.block ?_|refine PanicOk.jump ?_)|(refine dc ?_)|(refine dn ?_)|(refine TL.done (by rfl) ?_)|(refine TL.auto tysOk rfl ?_ (by rfl) ?_ ?_)|((refine TL.one (by rfl) ?_);first|(refine sm ?_ ?_)|(refine sp ?_ ?_))|(refine sm ?_ ?_)|refine ct ?_|refine cf ?_|((first|refine gs ?_ ?_|refine gl ?_ ?_|refine gc ?_ ?_)<;>intro h<;>(try simp only [NS] at h)<;>(try exact xf)<;>(try refine rn ?_ ?_))))
   ·exact absurd h (by show ¬ _=true;rw [show ((decide ((l.getD q d0).1=(m.getD q d0).1) && (decide ((l.getD q d0).2=(m.getD q d0).2) && true)) == (BinOp.neq == BinOp.eql))=false from hB ▸ hB3];decide)
   ·refine TE.again' (q+1) ⟨by omega,fun k hk=>?_⟩ (by omega) ?_
    ·rcases Nat.lt_or_ge k q with h4 | h4
     ·exact h2 k h4
     ·obtain rfl:k=q:=by omega
      exact he
    ·exact ee
  ·have he:l.getD q d0≠m.getD q d0:=by rw [hB3] at hB2;simpa using hB2.symm
   (repeat' (first|(with_reducible refine AllP.go ?_;first|exact og|((try simp only [OS]);repeat' (first|exact oj|refine And.intro ?_ ?_)))|(refine rg ?_ ?_)|(with_reducible first|refine stp ?_|refine tD rfl ?_)|(with_reducible first|exact PanicOk.body|exact rd.panic|refine PanicOk.then' ?_|refine PanicOk.block ?_|refine PanicOk.jump ?_)|(refine dc ?_)|(refine dn ?_)|(refine TL.done (by rfl) ?_)|(refine TL.auto tysOk rfl ?_ (by rfl) ?_ ?_)|((refine TL.one (by rfl) ?_);first|(refine sm ?_ ?_)|(refine sp ?_ ?_))|(refine sm ?_ ?_)|refine ct ?_|refine cf ?_|((first|refine gs ?_ ?_|refine gl ?_ ?_|refine gc ?_ ?_)<;>intro h<;>(try simp only [NS] at h)<;>(try exact xf)<;>(try refine rn ?_ ?_))))
   ·(refine TE.ret' io rfl tysOk (()) ?_ rfl (by rfl) ?_;all_goals (try (first|exact trivial|((with_reducible refine AllP.go ?_);dsimp only [AllP,appP];repeat' (first|refine And.intro ?_ ?_|exact zz)))))
    rw [decide_eq_false (fun e=>he (by rw [e]))]
   ·exact absurd h (by show ¬ _=false;rw [show ((decide ((l.getD q d0).1=(m.getD q d0).1) && (decide ((l.getD q d0).2=(m.getD q d0).2) && true)) == (BinOp.neq == BinOp.eql))=true from hB ▸ hB3];decide)
 ·(refine TE.ret' io rfl tysOk (()) ?_ rfl (by rfl) ?_;all_goals (try (first|exact trivial|((with_reducible refine AllP.go ?_);dsimp only [AllP,appP];repeat' (first|refine And.intro ?_ ?_|exact zz)))))
  rw [decide_eq_true (list_eq_of ‹_› fun k hk=>h2 k (by omega))]
def lenN (x:Nd):Prop:=x.attrs.length≤1000000
theorem like_c (a b:Nd) (ha:lenN a) (hb:lenN b):Con Tryz.prog 146 [.g (ndA a),.g (ndA b)] [] 0 0 U (fun _=>.o (.sb (likeN a b))) G0:=by
 refine con_of Tryz.func146 rfl (by kernel_rfl) Tryz.ntmps146 rfl (by first | exact Nat.zero_le _ | decide) (fun _=>⟨rfl,rfl⟩) fun w S ν=>?_
 (repeat' (first|(with_reducible refine AllP.go ?_;first|exact og|((try simp only [OS]);repeat' (first|exact oj|refine And.intro ?_ ?_)))|(refine rg ?_ ?_)|(with_reducible first|refine stp ?_|refine tD rfl ?_)|refine ct ?_|refine cf ?_|((first|refine gs ?_ ?_|refine gl ?_ ?_|refine gc ?_ ?_)<;>intro h<;>(try simp only [NS] at h)<;>(try exact xf)<;>(try refine rn ?_ ?_))))
 ·refine cw (eqAttrs_c a.attrs b.attrs ha hb) ?_
  intro _ _
  rw [show decide (a.attrs=b.attrs)=likeN a b by unfold likeN;simp_all]
  refine wb ?_
  exact po
 all_goals
  rw [show likeN a b=false from decide_eq_false fun k=>by simp_all]
  exact po
theorem rLike_c (a b:Nd) (ha:lenN a) (hb:lenN b):Con Tryz.prog 85 [.g (ndA a),.g (ndA b)] [] 0 0 U (fun _=>.o (.sb (likeN a b))) G0:=by
 refine con_of Tryz.func85 rfl (by kernel_rfl) Tryz.ntmps85 rfl (by first | exact Nat.zero_le _ | decide) (fun _=>⟨rfl,rfl⟩) fun w S ν=>?_
 (repeat' (first|(with_reducible refine AllP.go ?_;first|exact og|((try simp only [OS]);repeat' (first|exact oj|refine And.intro ?_ ?_)))|(refine rg ?_ ?_)|(with_reducible first|refine stp ?_|refine tD rfl ?_)|refine ct ?_|refine cf ?_|((first|refine gs ?_ ?_|refine gl ?_ ?_|refine gc ?_ ?_)<;>intro h<;>(try simp only [NS] at h)<;>(try exact xf)<;>(try refine rn ?_ ?_))))
 ·refine cw (sameAttrs_c a.attrs b.attrs ha hb) ?_
  intro _ _
  ((refine rn ?_ ?_);(repeat' (first|(with_reducible refine AllP.go ?_;first|exact og|((try simp only [OS]);repeat' (first|exact oj|refine And.intro ?_ ?_)))|(refine rg ?_ ?_)|(with_reducible first|refine stp ?_|refine tD rfl ?_)|refine ct ?_|refine cf ?_|((first|refine gs ?_ ?_|refine gl ?_ ?_|refine gc ?_ ?_)<;>intro h<;>(try simp only [NS] at h)<;>(try exact xf)<;>(try refine rn ?_ ?_)))))
  ·rw [show likeN a b=decide (a.minor=b.minor) by unfold likeN;simp_all]
   exact po
  all_goals
   rw [show likeN a b=false from decide_eq_false fun k=>by simp_all]
   exact po
 ·rw [show likeN a b=false from decide_eq_false fun k=>by simp_all]
  exact po
theorem nlist_eq_of {l m:List Nd} (hl:l.length=m.length) (h:∀ k,k<l.length→l.getD k n0=m.getD k n0):l=m:=by
 refine List.ext_getElem hl fun i h1 h2=>?_
 have:=h i h1
 rwa [List.getD_eq_getElem?_getD,List.getElem?_eq_getElem h1,List.getD_eq_getElem?_getD,List.getElem?_eq_getElem h2] at this
theorem sameList_c (l m:List Nd) (hl:l.length≤1000000) (hm:m.length≤1000000) (hl2:∀ x∈l,lenN x) (hm2:∀ x∈m,lenN x):Con Tryz.prog 44 [.o (.ro 8 l.length (ndC l).cell),.o (.ro 8 m.length (ndC m).cell)] [] 0 0 U (fun _=>.o (.sb (decide (l=m)))) G0:=by
 refine con_of Tryz.func44 rfl (by kernel_rfl) Tryz.ntmps44 rfl (by first | exact Nat.zero_le _ | decide) (fun _=>⟨rfl,rfl⟩) fun w S ν=>?_
 (repeat' (first|(with_reducible refine AllP.go ?_;first|exact og|((try simp only [OS]);repeat' (first|exact oj|refine And.intro ?_ ?_)))|(refine rg ?_ ?_)|(with_reducible first|refine stp ?_|refine tD rfl ?_)|(with_reducible first|exact PanicOk.body|exact rd.panic|refine PanicOk.then' ?_|refine PanicOk.block ?_|refine PanicOk.jump ?_)|(refine dc ?_)|(refine dn ?_)|(refine TL.done (by rfl) ?_)|(refine TL.auto tysOk rfl ?_ (by rfl) ?_ ?_)|((refine TL.one (by rfl) ?_);first|(refine sm ?_ ?_)|(refine sp ?_ ?_))|(refine sm ?_ ?_)|refine ct ?_|refine cf ?_|((first|refine gs ?_ ?_|refine gl ?_ ?_|refine gc ?_ ?_)<;>intro h<;>(try simp only [NS] at h)<;>(try exact xf)<;>(try refine rn ?_ ?_))))
 ·(refine TE.ret' io rfl tysOk (()) ?_ rfl (by rfl) ?_;all_goals (try (first|exact trivial|((with_reducible refine AllP.go ?_);dsimp only [AllP,appP];repeat' (first|refine And.intro ?_ ?_|exact zz)))))
  rw [decide_eq_false (fun e=>h (by rw [e]))]
 refine TE.loopG (fun q:Nat=>q≤l.length∧∀ k,k<q→l.getD k n0=m.getD k n0) (fun q=>[(5,.o (.c (.int .i64 q)))]) [] (fun _=>[]) (fun q=>l.length - q) 0 (by rfl) ⟨Nat.zero_le _,fun k hk=>absurd hk (Nat.not_lt_zero _)⟩ ?_ ?_
 ·exact ee
 rintro q ⟨h1,h2⟩
 by_cases hq:q<l.length
 ·have hla:=hl2 _ (getD_mem (l:=l) (d:=n0) hq)
  have hma:=hm2 _ (getD_mem (l:=m) (d:=n0) (k:=q) (by omega))
  have hlk:=rLike_c (l.getD q n0) (m.getD q n0) hla hma
  (repeat' (first|(with_reducible refine AllP.go ?_;first|exact og|((try simp only [OS]);repeat' (first|exact oj|refine And.intro ?_ ?_)))|(refine rg ?_ ?_)|(with_reducible first|refine stp ?_|refine tD rfl ?_)|(with_reducible first|exact PanicOk.body|exact rd.panic|refine PanicOk.then' ?_|refine PanicOk.block ?_|refine PanicOk.jump ?_)|(refine dc ?_)|(refine dn ?_)|(refine TL.done (by rfl) ?_)|(refine TL.auto tysOk rfl ?_ (by rfl) ?_ ?_)|((refine TL.one (by rfl) ?_);first|(refine sm ?_ ?_)|(refine sp ?_ ?_))|(refine sm ?_ ?_)|refine ct ?_|refine cf ?_|((first|refine gs ?_ ?_|refine gl ?_ ?_|refine gc ?_ ?_)<;>intro h<;>(try simp only [NS] at h)<;>(try exact xf)<;>(try refine rn ?_ ?_))))
  iterate 3
   ·have hne:l≠m:=fun e=>by
     subst e
     exact absurd rfl (by assumption)
    rw [decide_eq_false hne]
    exact po
  cases hB:likeN (l.getD q n0) (m.getD q n0)
  ·rw [hB] at hlk
   (refine TL.one (by rfl) ?_)
   refine StepL.callW (hlk) rfl rfl rfl rfl rfl (by rfl) (by (first|exact trivial|((with_reducible refine AllP.go ?_);dsimp only [AllP,appP];repeat' (first|refine And.intro ?_ ?_|exact zz|assumption)))) (by rfl) (by rfl) ?_
   intro _ _
   refine wc ?_
   have hne:l≠m:=fun e=>by
    subst e
    rw [show likeN (l.getD q n0) (l.getD q n0)=true from likeN_iff.2 ⟨rfl,rfl,rfl,rfl,rfl⟩] at hB
    cases hB
   rw [decide_eq_false hne]
   exact po
  ·rw [hB] at hlk
   (refine TL.one (by rfl) ?_)
   refine StepL.callW (hlk) rfl rfl rfl rfl rfl (by rfl) (by (first|exact trivial|((with_reducible refine AllP.go ?_);dsimp only [AllP,appP];repeat' (first|refine And.intro ?_ ?_|exact zz|assumption)))) (by rfl) (by rfl) ?_
   intro _ _
   refine wc ?_
   have hxy:l.getD q n0=m.getD q n0:=eqN_iff.1 (by unfold eqN;rw [hB,Bool.and_true];exact decide_eq_true ⟨by assumption,by assumption,by assumption⟩)
   refine TE.again' (q+1) ⟨by omega,fun k hk=>?_⟩ (by omega) ?_
   ·rcases Nat.lt_or_ge k q with h4 | h4
    ·exact h2 k h4
    ·obtain rfl:k=q:=by omega
     exact hxy
   ·exact ee
 ·refine wc ?_
  (refine TE.ret' io rfl tysOk (()) ?_ rfl (by rfl) ?_;all_goals (try (first|exact trivial|((with_reducible refine AllP.go ?_);dsimp only [AllP,appP];repeat' (first|refine And.intro ?_ ?_|exact zz)))))
  rw [decide_eq_true (nlist_eq_of ‹_› fun k hk=>h2 k (by omega))]
end Go.Proofs.YtalmoocpebhoiaaGreatDoor.Am
namespace Go.Proofs.YtalmoocpebhoiaaGreatDoor.Am
open Go.RowKit Lw
open Br
def shapeE (pre:List Nd) (n:Nd):Int:=match pre with
 | []=>if n.depth≠0∨n.name.size≠0∨n.kind≠1 then 6 else 0
 | x :: _=>if n.depth<1∨x.depth+(if x.kind=1 then 1 else 0)<n.depth then 6 else if 8<n.depth then 3 else 0
def entryE (pre:List Nd) (n:Nd):Int:=if pnameE n.name≠0 then pnameE n.name
  else match (sib n.depth pre).2 with
   | none=>0
   | some s=>if s=n.name then 8 else if At.ltS n.name s=true then 6 else if 24≤(sib n.depth pre).1 then 3 else 0
theorem placeE_split (pre:List Nd) (n:Nd):placeE pre n=if shapeE pre n≠0 then shapeE pre n else if pre=[] then 0 else entryE pre n:=by
 cases pre with
 | nil=>
  unfold placeE shapeE
  dsimp only
  split<;>simp
 | cons x r=>
  have hP:placeE (x :: r) n=if n.depth<1∨x.depth+(if x.kind=1 then 1 else 0)<n.depth then 6 else if 8<n.depth then 3 else entryE (x :: r) n:=rfl
  have hS:shapeE (x :: r) n=if n.depth<1∨x.depth+(if x.kind=1 then 1 else 0)<n.depth then 6 else if 8<n.depth then 3 else 0:=rfl
  by_cases h1:n.depth<1∨x.depth+(if x.kind=1 then 1 else 0)<n.depth
  ·rw [if_pos h1] at hP hS
   rw [hP,hS]
   rfl
  rw [if_neg h1] at hP hS
  by_cases h2:8<n.depth
  ·rw [if_pos h2] at hP hS
   rw [hP,hS]
   rfl
  ·rw [if_neg h2] at hP hS
   rw [hP,hS,if_neg (by decide),if_neg (by simp)]
theorem rshape_c (l:List Nd) (i:Nat) (hi:i<l.length) (hl:l.length≤1000000) (hd:∀ j,j<i→0≤(l.getD j n0).depth∧(l.getD j n0).depth≤1000):Con Tryz.prog 86 [.o (.ro 8 l.length (ndC l).cell),.o (.c (.int .i64 i))] [] 0 0 U (fun _=>.o (.c (.int .i64 (shapeE (l.take i).reverse (l.getD i n0))))) G0:=by
 refine con_of Tryz.func86 rfl (by kernel_rfl) Tryz.ntmps86 rfl (by first | exact Nat.zero_le _ | decide) (fun _=>⟨rfl,rfl⟩) fun w S ν=>?_
 by_cases h0:i=0
 ·subst h0
  have hS:shapeE (l.take 0).reverse (l.getD 0 n0)=if (l.getD 0 n0).depth≠0∨(l.getD 0 n0).name.size≠0∨(l.getD 0 n0).kind≠1 then 6 else 0:=rfl
  by_cases h1:(l.getD 0 n0).depth≠0∨(l.getD 0 n0).name.size≠0∨(l.getD 0 n0).kind≠1
  ·rw [if_pos h1] at hS
   rw [hS]
   (repeat' (first|(with_reducible refine AllP.go ?_;first|exact og|((try simp only [OS]);repeat' (first|exact oj|refine And.intro ?_ ?_)))|(refine rg ?_ ?_)|(with_reducible first|refine stp ?_|refine tD rfl ?_)|(with_reducible first|exact PanicOk.body|exact rd.panic|refine PanicOk.then' ?_|refine PanicOk.block ?_|refine PanicOk.jump ?_)|(refine dc ?_)|(refine dn ?_)|(refine TL.done (by rfl) ?_)|(refine TL.auto tysOk rfl ?_ (by rfl) ?_ ?_)|((refine TL.one (by rfl) ?_);first|(refine sm ?_ ?_)|(refine sp ?_ ?_))|(refine sm ?_ ?_)|refine ct ?_|refine cf ?_|((first|refine gs ?_ ?_|refine gl ?_ ?_|refine gc ?_ ?_)<;>intro h<;>(try simp only [NS] at h)<;>(try exact xf)<;>(try refine rn ?_ ?_))))
   all_goals exact po
  ·rw [if_neg h1] at hS
   rw [hS]
   refine wc ?_
   all_goals exact po
 ·obtain ⟨j,rfl⟩:∃ j,i=j+1:=⟨i - 1,by omega⟩
  have hdj:=hd j (by omega)
  have hj1:((j+1:Nat):Int) - 1=j:=by omega
  have hS:shapeE (l.take (j+1)).reverse (l.getD (j+1) n0)=if (l.getD (j+1) n0).depth<1∨(l.getD j n0).depth+(if (l.getD j n0).kind=1 then 1 else 0)<(l.getD (j+1) n0).depth then 6 else if 8<(l.getD (j+1) n0).depth then 3 else 0:=by rw [take_rev (by omega)];rfl
  obtain ⟨z,hz,hz1,hz2⟩:∃ z:Int,z=(if (l.getD j n0).kind=1 then 1 else 0)∧((l.getD j n0).kind=1→z=1)∧((l.getD j n0).kind≠1→z=0):=⟨_,rfl,fun h=>if_pos h,fun h=>if_neg h⟩
  rw [← hz] at hS
  have hx:l.getD (((j+1:Nat):Int) - 1).toNat n0=l.getD j n0:=by rw [show (((j+1:Nat):Int) - 1).toNat=j by omega]
  have hxd:=congrArg Nd.depth hx
  have hxk:=congrArg Nd.kind hx
  by_cases h1:(l.getD (j+1) n0).depth<1∨(l.getD j n0).depth+z<(l.getD (j+1) n0).depth
  ·rw [if_pos h1] at hS
   rw [hS]
   (repeat' (first|(with_reducible refine AllP.go ?_;first|exact og|((try simp only [OS]);repeat' (first|exact oj|refine And.intro ?_ ?_)))|(refine rg ?_ ?_)|(with_reducible first|refine stp ?_|refine tD rfl ?_)|(with_reducible first|exact PanicOk.body|exact rd.panic|refine PanicOk.then' ?_|refine PanicOk.block ?_|refine PanicOk.jump ?_)|(refine dc ?_)|(refine dn ?_)|(refine TL.done (by rfl) ?_)|(refine TL.auto tysOk rfl ?_ (by rfl) ?_ ?_)|((refine TL.one (by rfl) ?_);first|(refine sm ?_ ?_)|(refine sp ?_ ?_))|(refine sm ?_ ?_)|refine ct ?_|refine cf ?_|((first|refine gs ?_ ?_|refine gl ?_ ?_|refine gc ?_ ?_)<;>intro h<;>(try simp only [NS] at h)<;>(try exact xf)<;>(try refine rn ?_ ?_))))
   all_goals first|omega|(exfalso;omega)|(refine TE.ret' io rfl tysOk (()) ?_ rfl (by rfl) ?_;all_goals (try (first|exact trivial|((with_reducible refine AllP.go ?_);dsimp only [AllP,appP];repeat' (first|refine And.intro ?_ ?_|exact zz)))))
  rw [if_neg h1] at hS
  by_cases h2:8<(l.getD (j+1) n0).depth
  ·rw [if_pos h2] at hS
   rw [hS]
   (repeat' (first|(with_reducible refine AllP.go ?_;first|exact og|((try simp only [OS]);repeat' (first|exact oj|refine And.intro ?_ ?_)))|(refine rg ?_ ?_)|(with_reducible first|refine stp ?_|refine tD rfl ?_)|(with_reducible first|exact PanicOk.body|exact rd.panic|refine PanicOk.then' ?_|refine PanicOk.block ?_|refine PanicOk.jump ?_)|(refine dc ?_)|(refine dn ?_)|(refine TL.done (by rfl) ?_)|(refine TL.auto tysOk rfl ?_ (by rfl) ?_ ?_)|((refine TL.one (by rfl) ?_);first|(refine sm ?_ ?_)|(refine sp ?_ ?_))|(refine sm ?_ ?_)|refine ct ?_|refine cf ?_|((first|refine gs ?_ ?_|refine gl ?_ ?_|refine gc ?_ ?_)<;>intro h<;>(try simp only [NS] at h)<;>(try exact xf)<;>(try refine rn ?_ ?_))))
   all_goals first|omega|(exfalso;omega)|(refine TE.ret' io rfl tysOk (()) ?_ rfl (by rfl) ?_;all_goals (try (first|exact trivial|((with_reducible refine AllP.go ?_);dsimp only [AllP,appP];repeat' (first|refine And.intro ?_ ?_|exact zz)))))
  rw [if_neg h2] at hS
  rw [hS]
  (repeat' (first|(with_reducible refine AllP.go ?_;first|exact og|((try simp only [OS]);repeat' (first|exact oj|refine And.intro ?_ ?_)))|(refine rg ?_ ?_)|(with_reducible first|refine stp ?_|refine tD rfl ?_)|(with_reducible first|exact PanicOk.body|exact rd.panic|refine PanicOk.then' ?_|refine PanicOk.block ?_|refine PanicOk.jump ?_)|(refine dc ?_)|(refine dn ?_)|(refine TL.done (by rfl) ?_)|(refine TL.auto tysOk rfl ?_ (by rfl) ?_ ?_)|((refine TL.one (by rfl) ?_);first|(refine sm ?_ ?_)|(refine sp ?_ ?_))|(refine sm ?_ ?_)|refine ct ?_|refine cf ?_|((first|refine gs ?_ ?_|refine gl ?_ ?_|refine gc ?_ ?_)<;>intro h<;>(try simp only [NS] at h)<;>(try exact xf)<;>(try refine rn ?_ ?_))))
  all_goals first|omega|(exfalso;omega)|(refine TE.ret' io rfl tysOk (()) ?_ rfl (by rfl) ?_;all_goals (try (first|exact trivial|((with_reducible refine AllP.go ?_);dsimp only [AllP,appP];repeat' (first|refine And.intro ?_ ?_|exact zz)))))
theorem rcount_c (l:List Nd) (z:Int) (hl:l.length≤1000000):Con Tryz.prog 91 [.o (.ro 8 l.length (ndC l).cell),.o (.c (.int .i64 z))] [] 0 0 U (fun _=>.o (.c (.int .i64 (countC l z:Nat)))) G0:=by
 refine con_of Tryz.func91 rfl (by kernel_rfl) Tryz.ntmps91 rfl (by first | exact Nat.zero_le _ | decide) (fun _=>⟨rfl,rfl⟩) fun w S ν=>?_
 refine wc ?_
 refine TE.loopG (fun q:Nat=>q≤l.length) (fun q=>[(5,.o (.c (.int .i64 (countC (l.take q) z:Nat)))),(6,.o (.c (.int .i64 q)))]) [] (fun _=>[]) (fun q=>l.length - q) 0 (by rfl) (Nat.zero_le _) ?_ ?_
 ·exact ee
 intro q hq
 have hcq:countC (l.take q) z≤q:=by
  have h:countC (l.take q) z≤(l.take q).length:=List.countP_le_length
  rw [List.length_take] at h
  omega
 by_cases hlt:q<l.length
 ·have hc:countC (l.take (q+1)) z=countC (l.take q) z+if (l.getD q n0).cls=z then 1 else 0:=by
   unfold countC
   rw [List.take_add_one,List.countP_append,List.getD_eq_getElem?_getD,List.getElem?_eq_getElem hlt]
   simp
  by_cases h1:(l.getD q n0).cls=z
  ·rw [if_pos h1] at hc
   refine wc ?_
   refine TE.again' (q+1) (by omega) (by omega) ?_
   exact ee
  ·rw [if_neg h1] at hc
   refine wc ?_
   refine TE.again' (q+1) (by omega) (by omega) ?_
   exact ee
 ·obtain rfl:q=l.length:=by omega
  refine wc ?_
  (refine TE.ret' io rfl tysOk (()) ?_ rfl (by rfl) ?_;all_goals (try (first|exact trivial|((with_reducible refine AllP.go ?_);dsimp only [AllP,appP];repeat' (first|refine And.intro ?_ ?_|exact zz)))))
  rw [List.take_length]
theorem most_le {N:Int} (h0:0≤N):∀ {l:List Nd},(∀ x∈l,x.cls≤N)→mostC l≤N
 | [],_=>h0
 | x :: r,h=>by
  have h1:=h x (List.mem_cons_self ..)
  have h2:=most_le h0 (l:=r) fun y hy=>h y (List.mem_cons_of_mem _ hy)
  rw [mostC]
  omega
theorem any_take {α:Type} {d:α} {f:α→Bool} {l:List α} {i:Nat} (hi:i≤l.length):(l.take i).reverse.any f=true↔∃ j,j<i∧f (l.getD j d)=true:=by
 rw [List.any_reverse,List.any_eq_true]
 constructor
 ·rintro ⟨x,hx,hf⟩
  obtain ⟨k,hk,rfl⟩:=List.getElem_of_mem hx
  rw [List.length_take] at hk
  refine ⟨k,by omega,?_⟩
  rw [List.getD_eq_getElem?_getD,List.getElem?_eq_getElem (by omega)]
  rw [List.getElem_take] at hf
  exact hf
 ·rintro ⟨j,hj,hf⟩
  refine ⟨l.getD j d,?_,hf⟩
  have:l.getD j d=(l.take i).getD j d:=(getD_take hj).symm
  rw [this]
  exact getD_mem (by rw [List.length_take];omega)
theorem classE_bad {l:List Nd} {i q:Nat} (hi:i<l.length) (hq:q<i) (h0:0<(l.getD i n0).cls) (h1:(l.getD q n0).cls=(l.getD i n0).cls) (h2:likeN (l.getD q n0) (l.getD i n0)=false):classE (l.take i).reverse (l.getD i n0)=6:=by
 unfold classE
 rw [if_pos (.inr (.inr ⟨h0,(any_take (d:=n0) (by omega)).2 ⟨q,hq,by rw [h1,h2];simp⟩⟩))]
theorem classE_end {l:List Nd} {i:Nat} (hi:i<l.length) (h:0<(l.getD i n0).cls→∀ j,j<i→(l.getD j n0).cls=(l.getD i n0).cls→likeN (l.getD j n0) (l.getD i n0)=true):classE (l.take i).reverse (l.getD i n0)=if (l.getD i n0).cls<0∨mostC (l.take i).reverse+1<(l.getD i n0).cls then 6 else 0:=by
 unfold classE
 by_cases h1:(l.getD i n0).cls<0∨mostC (l.take i).reverse+1<(l.getD i n0).cls
 ·rw [if_pos h1,if_pos (by rcases h1 with h | h;exact .inl h;exact .inr (.inl h))]
 ·rw [if_neg h1,if_neg]
  rintro (k | k | ⟨k1,k2⟩)
  ·exact h1 (.inl k)
  ·exact h1 (.inr k)
  ·obtain ⟨j,hj,hf⟩:=(any_take (d:=n0) (by omega)).1 k2
   rw [Bool.and_eq_true,decide_eq_true_eq] at hf
   rw [h k1 j hj hf.1] at hf
   exact absurd hf.2 (by decide)
theorem rclass_c (l:List Nd) (i:Nat) (hi:i<l.length) (hl:l.length≤1000000) (hx:∀ x∈l,lenN x) (hm:∀ j,j<i→(l.getD j n0).cls≤1000):Con Tryz.prog 90 [.o (.ro 8 l.length (ndC l).cell),.o (.c (.int .i64 i))] [] 0 0 U (fun _=>.o (.c (.int .i64 (classE (l.take i).reverse (l.getD i n0))))) G0:=by
 refine con_of Tryz.func90 rfl (by kernel_rfl) Tryz.ntmps90 rfl (by first | exact Nat.zero_le _ | decide) (fun _=>⟨rfl,rfl⟩) fun w S ν=>?_
 have hml:∀ q,q≤i→mostC (l.take q).reverse≤1000:=fun q hq=>most_le (by decide) fun x hx=>by
  obtain ⟨k,hk,rfl⟩:=List.getElem_of_mem (List.mem_reverse.1 hx)
  rw [List.length_take] at hk
  have:=hm k (by omega)
  rw [List.getD_eq_getElem?_getD,List.getElem?_eq_getElem (by omega)] at this
  rw [List.getElem_take]
  exact this
 refine wa ?_
 refine TE.loopG (fun q:Nat=>q≤i∧(0<(l.getD i n0).cls→∀ j,j<q→(l.getD j n0).cls=(l.getD i n0).cls→likeN (l.getD j n0) (l.getD i n0)=true)) (fun q=>[(5,.o (.c (.int .i64 (mostC (l.take q).reverse)))),(6,.o (.c (.int .i64 q)))]) [] (fun _=>[]) (fun q=>i - q) 0 (by rfl) ⟨Nat.zero_le _,fun _ j hj=>absurd hj (Nat.not_lt_zero _)⟩ ?_ ?_
 ·exact ee
 rintro q ⟨hq,hg⟩
 have hmq:=hml q hq
 have hm0:=most_ge (l.take q).reverse
 by_cases hlt:q<i
 ·have hmx:mostC (l.take (q+1)).reverse=max (mostC (l.take q).reverse) (l.getD q n0).cls:=by rw [take_rev (by omega)];rfl
  have hlk:=rLike_c (l.getD q n0) (l.getD i n0) (hx _ (getD_mem (by omega))) (hx _ (getD_mem hi))
  by_cases h1:0<(l.getD i n0).cls∧(l.getD q n0).cls=(l.getD i n0).cls
  ·cases hB:likeN (l.getD q n0) (l.getD i n0)
   ·rw [hB] at hlk
    rw [classE_bad hi hlt h1.1 h1.2 hB]
    refine wa ?_
    refine we ?_
    (refine TL.one (by rfl) ?_)
    refine StepL.callW (hlk) rfl rfl rfl rfl rfl (by rfl) (by (first|exact trivial|((with_reducible refine AllP.go ?_);dsimp only [AllP,appP];repeat' (first|refine And.intro ?_ ?_|exact zz|assumption)))) (by rfl) (by rfl) ?_
    intro _ _
    refine wf ?_
    refine wa ?_
    exact po
   ·rw [hB] at hlk
    refine wa ?_
    refine we ?_
    (refine TL.one (by rfl) ?_)
    refine StepL.callW (hlk) rfl rfl rfl rfl rfl (by rfl) (by (first|exact trivial|((with_reducible refine AllP.go ?_);dsimp only [AllP,appP];repeat' (first|refine And.intro ?_ ?_|exact zz|assumption)))) (by rfl) (by rfl) ?_
    intro _ _
    refine wf ?_
    refine wa ?_
    refine TE.again' (q+1) ⟨by omega,fun h0 j hj e=>?_⟩ (by omega) ?_
    ·rcases Nat.lt_or_ge j q with h4 | h4
     ·exact hg h0 j h4 e
     ·obtain rfl:j=q:=by omega
      exact hB
    ·exact ee
  ·refine wa ?_
   ((refine dn ?_);repeat' (first|(with_reducible refine AllP.go ?_;first|exact og|((try simp only [OS]);repeat' (first|exact oj|refine And.intro ?_ ?_)))|(with_reducible first|exact PanicOk.body|exact rd.panic|refine PanicOk.then' ?_|refine PanicOk.block ?_|refine PanicOk.jump ?_)|(refine TL.done (by rfl) ?_)|(refine TL.auto tysOk rfl ?_ (by rfl) ?_ ?_)|((refine TL.one (by rfl) ?_);first|(refine sm ?_ ?_)|(refine sp ?_ ?_))|(refine sm ?_ ?_)|((first|refine gl ?_ ?_|refine gc ?_ ?_)<;>intro h<;>(try simp only [NS] at h)<;>(try exact xf))))
   all_goals refine wa ?_
   all_goals refine TE.again' (q+1) ⟨by omega,fun h0 j hj e=>?_⟩ (by omega) ?_
   all_goals first
    | (rcases Nat.lt_or_ge j q with h4 | h4
       ·exact hg h0 j h4 e
       ·obtain rfl:j=q:=by omega
        exact absurd ⟨h0,e⟩ h1)
    | (refine Ent.of rfl rfl (by rfl) ?_;(try (first|exact trivial|((with_reducible refine AllP.go ?_);dsimp only [AllP,appP];repeat' (first|refine And.intro ?_ ?_|exact zz)))))
 ·obtain rfl:q=i:=by omega
  rw [classE_end hi hg]
  by_cases h2:(l.getD q n0).cls<0∨mostC (l.take q).reverse+1<(l.getD q n0).cls
  ·rw [if_pos h2]
   (repeat' (first|(with_reducible refine AllP.go ?_;first|exact og|((try simp only [OS]);repeat' (first|exact oj|refine And.intro ?_ ?_)))|(refine rg ?_ ?_)|(with_reducible first|refine stp ?_|refine tD rfl ?_)|refine ct ?_|refine cf ?_|((first|refine gs ?_ ?_|refine gl ?_ ?_|refine gc ?_ ?_)<;>intro h<;>(try simp only [NS] at h)<;>(try exact xf)<;>(try refine rn ?_ ?_))))
   all_goals exact po
  ·rw [if_neg h2]
   refine wa ?_
   all_goals exact po
theorem gtr_iff2 {a b:ByteArray}:At.ltS b a=true↔Op.bytesLess a.data.toList b.data.toList=false∧a≠b:=by
 constructor
 ·intro h
  exact ⟨At.ltS_asymm h,fun e=>At.ltS_ne h e.symm⟩
 ·rintro ⟨h1,h2⟩
  cases h:At.ltS b a
  ·exact absurd (At.ltS_tri h1 h) h2
  ·rfl
structure SibAt (l:List Nd) (d:Int) (i q many:Nat) (last:Int):Prop where
 le:q+many≤i
 cnt:(sib d (l.take i).reverse).1=many+(sib d (l.take q).reverse).1
 nm:(last = -1∧(sib d (l.take i).reverse).2=(sib d (l.take q).reverse).2)∨(0≤last∧last<i∧(sib d (l.take i).reverse).2=some (l.getD last.toNat n0).name)
theorem sibAt_start (l:List Nd) (d:Int) (i:Nat):SibAt l d i i 0 (-1):=⟨Nat.le_refl _,by rw [Nat.zero_add],.inl ⟨rfl,rfl⟩⟩
theorem sib_take {l:List Nd} {d:Int} {q:Nat} (hq:q<l.length):sib d (l.take (q+1)).reverse=if (l.getD q n0).depth<d then (0,none) else if (l.getD q n0).depth=d then ((sib d (l.take q).reverse).1+1,some (l.getD q n0).name) else sib d (l.take q).reverse:=by
 rw [take_rev hq,sib]
theorem sibAt_hit {l:List Nd} {d:Int} {i q many:Nat} {last:Int} (g:SibAt l d i (q+1) many last) (hq:q<l.length) (h:(l.getD q n0).depth=d):SibAt l d i q (many+1) (if last<0 then q else last):=by
 have hs:=sib_take (d:=d) hq
 rw [if_neg (by omega),if_pos h] at hs
 have h1:=g.le
 refine ⟨by omega,by rw [g.cnt,hs];dsimp only;omega,.inr ?_⟩
 rcases g.nm with ⟨e,h2⟩ | ⟨e1,e2,h2⟩
 ·rw [if_pos (by omega)]
  exact ⟨by omega,by omega,by rw [h2,hs];rfl⟩
 ·rw [if_neg (by omega)]
  exact ⟨e1,e2,h2⟩
theorem sibAt_skip {l:List Nd} {d:Int} {i q many:Nat} {last:Int} (g:SibAt l d i (q+1) many last) (hq:q<l.length) (h:d<(l.getD q n0).depth):SibAt l d i q many last:=by
 have hs:=sib_take (d:=d) hq
 rw [if_neg (by omega),if_neg (by omega)] at hs
 have h1:=g.le
 exact ⟨by omega,by rw [g.cnt,hs],by rw [← hs];exact g.nm⟩
theorem sibAt_end {l:List Nd} {d:Int} {i q many:Nat} {last:Int} (g:SibAt l d i q many last) (hs:sib d (l.take q).reverse=(0,none)):(sib d (l.take i).reverse).1=many∧((last = -1∧(sib d (l.take i).reverse).2=none)∨(0≤last∧last<i∧(sib d (l.take i).reverse).2=some (l.getD last.toNat n0).name)):=by
 have h1:=g.cnt
 have h2:=g.nm
 rw [hs] at h1 h2
 exact ⟨h1,h2⟩
theorem rentry_c (l:List Nd) (i:Nat) (h0:0<i) (hi:i<l.length) (hl:l.length≤1000000) (hn:(l.getD i n0).name.size≤1000000000):Con Tryz.prog 87 [.o (.ro 8 l.length (ndC l).cell),.o (.c (.int .i64 i))] [] 0 0 U (fun _=>.o (.c (.int .i64 (entryE (l.take i).reverse (l.getD i n0))))) G0:=by
 refine con_of Tryz.func87 rfl (by kernel_rfl) Tryz.ntmps87 rfl (by first | exact Nat.zero_le _ | decide) (fun _=>⟨rfl,rfl⟩) fun w S ν=>?_
 refine wa ?_
 refine cw (prName_c (l.getD i n0).name hn) ?_
 intro _ _
 by_cases h1:pnameE (l.getD i n0).name≠0
 ·have hE:entryE (l.take i).reverse (l.getD i n0)=pnameE (l.getD i n0).name:=if_pos h1
  rw [hE]
  refine wb ?_
  exact po
 obtain ⟨d,hd⟩:∃ d,d=(l.getD i n0).depth:=⟨_,rfl⟩
 have hE:entryE (l.take i).reverse (l.getD i n0)=match (sib d (l.take i).reverse).2 with
   | none=>0
   | some s=>if s=(l.getD i n0).name then 8 else if At.ltS (l.getD i n0).name s=true then 6 else if 24≤(sib d (l.take i).reverse).1 then 3 else 0:=by rw [hd];exact if_neg h1
 ((refine TE.run tysOk rfl (by rfl) (by (first|exact trivial|exact fun _ _=>⟨_,rfl⟩|((try simp only [OS]);repeat' (first|omega|exact fun _ _=>⟨_,rfl⟩|refine And.intro ?_ ?_)))) ?_);refine TE.done ?_;refine TE.thenN ?_)
 (refine TE.seqM (ι:=Unit) (fun _=>True) (fun _=>⟨[(1,.o (.c (.int .i64 i))),(0,.o (.ro 8 l.length (ndC l).cell))],[],0⟩) ?_ fun _ _=>?_)
 ·refine wa ?_
  exact aa
 (refine TE.seq ?_;(refine TE.rgo tysOk rfl (by rfl) (by (first | exact trivial | exact fun i _=>⟨_,rfl⟩ | ((try simp only [OS]);repeat' (first | omega | exact fun i _=>⟨_,rfl⟩ | refine And.intro ?_ ?_)))) ?_);refine TE.done ?_;refine TE.thenN ?_)
 refine TE.seqM (ι:=Nat×Int) (fun x=>(sib d (l.take i).reverse).1=x.1∧x.1≤i∧((x.2 = -1∧(sib d (l.take i).reverse).2=none)∨(0≤x.2∧x.2<i∧(sib d (l.take i).reverse).2=some (l.getD x.2.toNat n0).name))) (fun x=>⟨[(6,.o (.c (.int .i64 x.1))),(7,.o (.c (.int .i64 x.2))),(1,.o (.c (.int .i64 i))),(0,.o (.ro 8 l.length (ndC l).cell))],[],0⟩) ?_ ?_
 ·refine wa ?_
  refine TE.loopG (fun x:Nat×Nat×Int=>SibAt l d i x.1 x.2.1 x.2.2∧x.1≤i) (fun x=>[(8,.o (.c (.int .i64 ((x.1:Int) - 1)))),(6,.o (.c (.int .i64 x.2.1))),(7,.o (.c (.int .i64 x.2.2)))]) [] (fun _=>[]) (fun x=>x.1) (i,0,-1) (by rfl) ⟨sibAt_start l d i,Nat.le_refl _⟩ ?_ ?_
  ·exact ee
  rintro ⟨q,many,last⟩ ⟨g,hq⟩
  dsimp only at g hq
  have hle:=g.le
  by_cases hq0:q=0
  ·subst hq0
   obtain ⟨k1,k2⟩:=sibAt_end g rfl
   refine wa ?_
   refine we ?_
   all_goals refine wa ?_
   all_goals refine TE.at (many,last) ⟨k1,by dsimp only;omega,k2⟩ ?_
   all_goals exact ee
  obtain ⟨p,rfl⟩:∃ p,q=p+1:=⟨q - 1,by omega⟩
  have hx:l.getD (((p+1:Nat):Int) - 1).toNat n0=l.getD p n0:=by rw [show (((p+1:Nat):Int) - 1).toNat=p by omega]
  have hxd:=congrArg Nd.depth hx
  rcases Int.lt_trichotomy (l.getD p n0).depth d with c1 | c1 | c1
  ·obtain ⟨k1,k2⟩:=sibAt_end g (by rw [sib_take (by omega),if_pos c1])
   refine wa ?_
   refine we ?_
   all_goals refine wa ?_
   all_goals refine TE.at (many,last) ⟨k1,by dsimp only;omega,k2⟩ ?_
   all_goals exact ee
  ·have g2:=sibAt_hit g (by omega) c1
   have hl2:last<0∨0≤last:=by omega
   refine wa ?_
   refine we ?_
   all_goals refine wa ?_
   all_goals refine we ?_
   all_goals (repeat' (first|(with_reducible refine AllP.go ?_;first|exact og|((try simp only [OS]);repeat' (first|exact oj|refine And.intro ?_ ?_)))|(refine rg ?_ ?_)|(with_reducible first|refine stp ?_|refine tD rfl ?_)|refine ct ?_|refine cf ?_|((first|refine gs ?_ ?_|refine gl ?_ ?_|refine gc ?_ ?_)<;>intro h<;>(try simp only [NS] at h)<;>(try exact xf)<;>(try refine rn ?_ ?_))))
   ·rw [if_pos (by omega)] at g2
    refine TE.again' (p,many+1,(p:Int)) ⟨g2,by dsimp only;omega⟩ (by dsimp only;omega) ?_
    exact ee
   ·rw [if_neg (by omega)] at g2
    refine TE.again' (p,many+1,last) ⟨g2,by dsimp only;omega⟩ (by dsimp only;omega) ?_
    exact ee
  ·have g2:=sibAt_skip g (by omega) c1
   refine wa ?_
   refine we ?_
   all_goals refine wa ?_
   all_goals refine we ?_
   all_goals refine wa ?_
   refine TE.again' (p,many,last) ⟨g2,by dsimp only;omega⟩ (by dsimp only;omega) ?_
   exact ee
 rintro ⟨many,last⟩ ⟨e1,e2,e3⟩
 dsimp only at e1 e2 e3
 rcases e3 with ⟨e4,e5⟩ | ⟨e4,e6,e5⟩
 ·rw [e5] at hE
  rw [hE]
  have hm0:=(sib_none _ _).1 e5
  refine wa ?_
  refine we ?_
  all_goals refine wa ?_
  all_goals refine we ?_
  all_goals refine wa ?_
  all_goals exact po
 ·rw [e5,e1] at hE
  dsimp only at hE
  by_cases k1:(l.getD last.toNat n0).name=(l.getD i n0).name
  ·rw [if_pos k1] at hE
   rw [hE]
   refine wa ?_
   refine we ?_
   all_goals first | (exfalso;first | omega | contradiction) | skip
   all_goals refine wa ?_
   all_goals first | (exfalso;first | omega | contradiction) | skip
   all_goals exact po
  rw [if_neg k1] at hE
  by_cases k2:At.ltS (l.getD i n0).name (l.getD last.toNat n0).name=true
  ·rw [if_pos k2] at hE
   rw [hE]
   rw [gtr_iff2] at k2
   refine wa ?_
   refine we ?_
   all_goals first | (exfalso;first | omega | contradiction) | skip
   all_goals refine wa ?_
   all_goals first | (exfalso;first | omega | contradiction) | skip
   all_goals ((refine dn ?_);repeat' (first|(with_reducible refine AllP.go ?_;first|exact og|((try simp only [OS]);repeat' (first|exact oj|refine And.intro ?_ ?_)))|(with_reducible first|exact PanicOk.body|exact rd.panic|refine PanicOk.then' ?_|refine PanicOk.block ?_|refine PanicOk.jump ?_)|(refine TL.done (by rfl) ?_)|(refine TL.auto tysOk rfl ?_ (by rfl) ?_ ?_)|((refine TL.one (by rfl) ?_);first|(refine sm ?_ ?_)|(refine sp ?_ ?_))|(refine sm ?_ ?_)|((first|refine gl ?_ ?_|refine gc ?_ ?_)<;>intro h<;>(try simp only [NS] at h)<;>(try exact xf))))
   all_goals first | (exfalso;first | omega | (simp_all;done)) | skip
   all_goals refine wa ?_
   all_goals first | (exfalso;first | omega | (simp_all;done)) | skip
   all_goals exact po
  rw [if_neg k2] at hE
  rw [gtr_iff2] at k2
  by_cases k3:24≤many
  ·rw [if_pos k3] at hE
   rw [hE]
   refine wa ?_
   refine we ?_
   all_goals first | (exfalso;first | omega | contradiction) | skip
   all_goals refine wa ?_
   all_goals first | (exfalso;first | omega | contradiction) | skip
   all_goals refine we ?_
   all_goals first | (exfalso;first | omega | exact k2 ⟨by assumption,by assumption⟩ | exact k2 (by assumption)) | skip
   all_goals refine wa ?_
   all_goals first | (exfalso;first | omega | exact k2 ⟨by assumption,by assumption⟩ | exact k2 (by assumption)) | skip
   all_goals exact po
  ·rw [if_neg k3] at hE
   rw [hE]
   refine wa ?_
   refine we ?_
   all_goals first | (exfalso;first | omega | contradiction) | skip
   all_goals refine wa ?_
   all_goals first | (exfalso;first | omega | contradiction) | skip
   all_goals refine we ?_
   all_goals first | (exfalso;first | omega | exact k2 ⟨by assumption,by assumption⟩ | exact k2 (by assumption)) | skip
   all_goals refine wa ?_
   all_goals first | (exfalso;first | omega | exact k2 ⟨by assumption,by assumption⟩ | exact k2 (by assumption)) | skip
   all_goals exact po
def OkTo (l:List Nd) (q:Nat):Prop:=∀ j,j<q→nodeE (l.take j).reverse (l.getD j n0)=0
theorem errAt_drop {l:List Nd}:∀ {q:Nat},q≤l.length→OkTo l q→errAt [] l 0=errAt (l.take q).reverse (l.drop q) q
 | 0,_,_=>rfl
 | q+1,hq,h=>by
  rw [errAt_drop (q:=q) (by omega) fun j hj=>h j (by omega),drop_nd (by omega),errAt,if_neg (fun k=>k (h q (by omega))),take_rev (by omega)]
theorem errAt_bad {l:List Nd} {q:Nat} (hq:q<l.length) (h:OkTo l q) (he:nodeE (l.take q).reverse (l.getD q n0)≠0):errAt [] l 0=some (q,nodeE (l.take q).reverse (l.getD q n0)):=by
 rw [errAt_drop (by omega) h,drop_nd hq,errAt,if_pos he]
theorem errAt_good {l:List Nd} (h:OkTo l l.length):errAt [] l 0=none:=by
 rw [errAt_drop (Nat.le_refl _) h,List.drop_length,errAt]
theorem okTo_next {l:List Nd} {q:Nat} (h:OkTo l q) (he:nodeE (l.take q).reverse (l.getD q n0)=0):OkTo l (q+1):=fun j hj=>by
 by_cases e:j=q
 ·subst e;exact he
 ·exact h j (by omega)
theorem okTo_depth {l:List Nd} {q:Nat} (hq:q≤l.length) (h:OkTo l q):∀ j,j<q→0≤(l.getD j n0).depth∧(l.getD j n0).depth≤1000:=fun j hj=>by
 have hp:=(node_zero (h j hj)).1
 generalize (l.take j).reverse=pre at hp
 cases pre with
 | nil=>
  unfold placeE at hp
  dsimp only at hp
  split at hp
  ·exact absurd hp (by decide)
  ·omega
 | cons x r=>
  obtain ⟨p1,p2,_⟩:=place_zero hp
  have:=(place_more hp).1
  omega
theorem okTo_most {l:List Nd}:∀ {q:Nat},q≤l.length→OkTo l q→mostC (l.take q).reverse≤q
 | 0,_,_=>by simp [mostC]
 | q+1,hq,h=>by
  have ih:=okTo_most (q:=q) (by omega) fun j hj=>h j (by omega)
  have hc:=(node_zero (h q (by omega))).2.2.2
  unfold classE at hc
  split at hc
  ·exact absurd hc (by decide)
  rename_i k
  rw [take_rev (by omega),mostC]
  omega
theorem okTo_cls {l:List Nd} {q:Nat} (hq:q≤l.length) (hl:q≤1000) (h:OkTo l q):∀ j,j<q→(l.getD j n0).cls≤1000:=fun j hj=>by
 have h1:=okTo_most hq h
 have h2:=most_mem (l:=(l.take q).reverse) (x:=l.getD j n0) (List.mem_reverse.2 (by
  rw [← getD_take (d:=n0) hj]
  exact getD_mem (by rw [List.length_take];omega)))
 omega
def okR (x:Nd):Prop:=x.attrs.length≤1000000∧At.sizeI x.attrs≤1000000000∧x.name.size≤1000000000
theorem checkT_badR {l:List Nd} {q:Nat} {e:Int} (h1:l≠[]) (h2:l.length≤120) (h:errAt [] l 0=some (q,e)):checkT l=((q:Int),e):=by
 unfold checkT
 rw [if_neg h1,if_neg (by omega),h]
theorem checkT_goodR {l:List Nd} (h1:l≠[]) (h2:l.length≤120) (h:errAt [] l 0=none):checkT l=match loneAt l l 0 with
  | some i=>((i:Int),6)
  | none=>(0,0):=by
 unfold checkT
 rw [if_neg h1,if_neg (by omega),h]
 cases loneAt l l 0<;>rfl
theorem rcheck_c (l:List Nd) (hl:l.length≤1000000) (hx:∀ x∈l,okR x):Con Tryz.prog 46 [.o (.ro 8 l.length (ndC l).cell)] [] 0 0 U (fun _=>.t [.inl (.c (.int .i64 (checkT l).1)),.inl (.c (.int .i64 (checkT l).2))]) G0:=by
 refine con_of Tryz.func46 rfl (by kernel_rfl) Tryz.ntmps46 rfl (by first | exact Nat.zero_le _ | decide) (fun _=>⟨rfl,rfl⟩) fun w S ν=>?_
 by_cases h1:l=[]
 ·have hC:checkT l=(-1,6):=if_pos h1
  have hl0:l.length=0:=by rw [h1];rfl
  rw [hC]
  refine wa ?_
  exact po
 have hpos:0<l.length:=List.length_pos_iff.2 h1
 by_cases h2:120<l.length
 ·have hC:checkT l=(-1,3):=by unfold checkT;rw [if_neg h1,if_pos h2]
  rw [hC]
  refine wa ?_
  exact po
 have hln:∀ x∈l,lenN x:=fun x h=>(hx x h).1
 refine wa ?_
 (refine TE.only [4,0] (by rfl) ?_)
 refine TE.loopG (fun q:Nat=>q≤l.length∧OkTo l q) (fun q=>[(4,.o (.c (.int .i64 q)))]) [] (fun _=>[]) (fun q=>l.length - q) 0 (by rfl) ⟨Nat.zero_le _,fun j hj=>absurd hj (Nat.not_lt_zero _)⟩ ?_ ?_
 ·exact ee
 rintro q ⟨hq,hok⟩
 by_cases hlt:q<l.length
 ·obtain ⟨n,hn⟩:∃ n,n=l.getD q n0:=⟨_,rfl⟩
  obtain ⟨pre,hpre⟩:∃ pre,pre=(l.take q).reverse:=⟨_,rfl⟩
  obtain ⟨x1,x2,x3⟩:=hx _ (getD_mem (d:=n0) hlt)
  have hsh:=rshape_c l q hlt hl (okTo_depth hq hok)
  have hcl:=rclass_c l q hlt hl hln (okTo_cls hq (by omega) hok)
  have hsp:=placeE_split (l.take q).reverse (l.getD q n0)
  refine wa ?_
  refine cw (hsh) ?_
  intro _ _
  ((refine TE.run tysOk rfl (by rfl) (by (first|exact trivial|exact fun _ _=>⟨_,rfl⟩|((try simp only [OS]);repeat' (first|omega|exact fun _ _=>⟨_,rfl⟩|refine And.intro ?_ ?_)))) ?_);refine TE.done ?_;refine TE.thenN ?_)
  (refine TE.seqM (ι:=Unit) (fun _=>True) (fun _=>⟨[(5,.o (.c (.int .i64 (placeE (l.take q).reverse (l.getD q n0))))),(4,.o (.c (.int .i64 q))),(0,.o (.ro 8 l.length (ndC l).cell))],[],0⟩) ?_ fun _ _=>?_)
  ·by_cases s1:shapeE (l.take q).reverse (l.getD q n0)≠0
   ·rw [if_pos s1] at hsp
    refine wa ?_
    all_goals exact aa
   rw [if_neg s1] at hsp
   by_cases hq0:q=0
   ·have:(l.take q).reverse=[]:=by rw [hq0];rfl
    rw [if_pos this] at hsp
    refine wa ?_
    all_goals exact aa
   ·have:(l.take q).reverse≠[]:=by
     intro e
     have:=congrArg List.length e
     rw [List.length_reverse,List.length_take,List.length_nil] at this
     omega
    rw [if_neg this] at hsp
    refine wa ?_
    all_goals refine cw (rentry_c l q (by omega) hlt hl x3) ?_
    all_goals intro _ _
    all_goals refine wb ?_
    all_goals exact aa
  by_cases s1:placeE (l.take q).reverse (l.getD q n0)≠0
  ·have hF:nodeE (l.take q).reverse (l.getD q n0)=placeE (l.take q).reverse (l.getD q n0):=if_pos s1
   rw [checkT_badR h1 (by omega) (errAt_bad hlt hok (by rw [hF];exact s1)),hF]
   refine wa ?_
   exact po
  have s1:=Decidable.not_not.1 s1
  refine wa ?_
  refine cw (rkind_c (l.getD q n0)) ?_
  intro _ _
  by_cases s2:fieldsE (l.getD q n0)≠0
  ·have hF:nodeE (l.take q).reverse (l.getD q n0)=fieldsE (l.getD q n0):=by unfold nodeE;rw [if_neg (fun k=>k s1),if_pos s2]
   rw [checkT_badR h1 (by omega) (errAt_bad hlt hok (by rw [hF];exact s2)),hF]
   refine wb ?_
   exact po
  have s2:=Decidable.not_not.1 s2
  refine wb ?_
  refine cw (rCheck_c (l.getD q n0).attrs x1 x2) ?_
  intro _ _
  by_cases s3:At.checkE (l.getD q n0).attrs≠0
  ·have hF:nodeE (l.take q).reverse (l.getD q n0)=At.checkE (l.getD q n0).attrs:=by unfold nodeE;rw [if_neg (fun k=>k s1),if_neg (fun k=>k s2),if_pos s3]
   rw [checkT_badR h1 (by omega) (errAt_bad hlt hok (by rw [hF];exact s3)),hF]
   refine wb ?_
   exact po
  have s3:=Decidable.not_not.1 s3
  refine wb ?_
  refine cw (hcl) ?_
  intro _ _
  have hF:nodeE (l.take q).reverse (l.getD q n0)=classE (l.take q).reverse (l.getD q n0):=by unfold nodeE;rw [if_neg (fun k=>k s1),if_neg (fun k=>k s2),if_neg (fun k=>k s3)]
  by_cases s4:classE (l.take q).reverse (l.getD q n0)≠0
  ·rw [checkT_badR h1 (by omega) (errAt_bad hlt hok (by rw [hF];exact s4)),hF]
   refine wb ?_
   exact po
  have s4:=Decidable.not_not.1 s4
  refine wb ?_
  refine TE.again' (q+1) ⟨by omega,okTo_next hok (by rw [hF];exact s4)⟩ (by omega) ?_
  exact ee
 ·obtain rfl:q=l.length:=by omega
  rw [checkT_goodR h1 (by omega) (errAt_good hok)]
  refine wa ?_
  (refine TE.only [6,0] (by rfl) ?_)
  refine TE.loopG (fun q:Nat=>q≤l.length∧∀ j,j<q→¬ (0<(l.getD j n0).cls∧countC l (l.getD j n0).cls=1)) (fun q=>[(6,.o (.c (.int .i64 q)))]) [] (fun _=>[]) (fun q=>l.length - q) 0 (by rfl) ⟨Nat.zero_le _,fun k hk=>absurd hk (Nat.not_lt_zero _)⟩ ?_ ?_
  ·exact ee
  rintro q ⟨hq,hg⟩
  by_cases hlt:q<l.length
  ·by_cases h3:0<(l.getD q n0).cls
   ·by_cases h4:countC l (l.getD q n0).cls=1
    ·rw [lone_at l 0 q hlt hg ⟨h3,h4⟩]
     refine wa ?_
     refine cw (rcount_c l (l.getD q n0).cls hl) ?_
     intro _ _
     refine wb ?_
     exact po
    ·refine wa ?_
     refine cw (rcount_c l (l.getD q n0).cls hl) ?_
     intro _ _
     refine wb ?_
     all_goals refine TE.again' (q+1) ⟨by omega,fun k hk=>?_⟩ (by omega) ?_
     all_goals first
      | (rcases Nat.lt_or_ge k q with h5 | h5
         ·exact hg k h5
         ·obtain rfl:k=q:=by omega
          exact fun h=>h4 h.2)
      | (refine Ent.of rfl rfl (by rfl) ?_;(try (first|exact trivial|((with_reducible refine AllP.go ?_);dsimp only [AllP,appP];repeat' (first|refine And.intro ?_ ?_|exact zz)))))
   ·refine wa ?_
    all_goals refine TE.again' (q+1) ⟨by omega,fun k hk=>?_⟩ (by omega) ?_
    all_goals first
     | (rcases Nat.lt_or_ge k q with h5 | h5
        ·exact hg k h5
        ·obtain rfl:k=q:=by omega
         exact fun h=>h3 h.1)
     | (refine Ent.of rfl rfl (by rfl) ?_;(try (first|exact trivial|((with_reducible refine AllP.go ?_);dsimp only [AllP,appP];repeat' (first|refine And.intro ?_ ?_|exact zz)))))
  ·rw [lone_none l 0 fun x hx=>?_]
   ·refine wa ?_
    exact po
   ·obtain ⟨k,hk,rfl⟩:=List.getElem_of_mem hx
    have:=hg k (by omega)
    rwa [List.getD_eq_getElem?_getD,List.getElem?_eq_getElem hk] at this
abbrev bnA (x:Bn):List A1:=[.c (.int .i64 x.nd.depth),.c (.string x.nd.name),.c (.int .i64 x.nd.kind),.ro 2 x.nd.attrs.length (atC x.nd.attrs).cell,.c (.string x.nd.data),.c (.int .i64 x.nd.major),.c (.int .i64 x.nd.minor),.c (.int .i64 x.nd.cls),.c (.bool x.opq),.ro 1 x.red.length (paC x.red).cell]
def bnR (x:Bn) (j:Nat):DC:=match j with
 | 0=>.c (.int .i64 x.nd.depth)
 | 1=>.c (.string x.nd.name)
 | 2=>.c (.int .i64 x.nd.kind)
 | 3=>.sl 2 x.nd.attrs.length (atC x.nd.attrs).cell
 | 4=>.c (.string x.nd.data)
 | 5=>.c (.int .i64 x.nd.major)
 | 6=>.c (.int .i64 x.nd.minor)
 | 7=>.c (.int .i64 x.nd.cls)
 | 8=>.c (.bool x.opq)
 | _=>.sl 1 x.red.length (paC x.red).cell
abbrev bnC (l:List Bn):Ct:=listC bnR b0 l
theorem plain_c (x:Bn) (hx:lenN x.nd):Con Tryz.prog 56 [.g (bnA x)] [] 0 0 U (fun _=>.g (ndA x.nd)) G0:=by
 refine con_of Tryz.func56 rfl (by kernel_rfl) Tryz.ntmps56 rfl (by first | exact Nat.zero_le _ | decide) (fun _=>⟨rfl,rfl⟩) fun w S ν=>?_
 refine wa ?_
 (refine TE.drawK (fun i=>Nat.beq i 0) (by rfl) (by rfl) (by rfl) ?_)
 refine wf ?_
 refine StepL.callW (Clone_c x.nd.attrs.length (atC x.nd.attrs).cell hx) rfl rfl rfl rfl rfl (by rfl) (by (first|exact trivial|((with_reducible refine AllP.go ?_);dsimp only [AllP,appP];repeat' (first|refine And.intro ?_ ?_|exact zz|assumption)))) (by rfl) (by rfl) ?_
 intro _ _
 refine wf ?_
 refine wa ?_
 (refine TE.freezeN 2 (by rfl) (by rfl) ?_)
 exact po
theorem node_c (x:Bn) (hx:lenN x.nd):Con Tryz.prog 68 [.g (bnA x)] [] 0 0 U (fun _=>.g (ndA x.nd)) G0:=by
 refine con_of Tryz.func68 rfl (by kernel_rfl) Tryz.ntmps68 rfl (by first | exact Nat.zero_le _ | decide) (fun _=>⟨rfl,rfl⟩) fun w S ν=>?_
 have hx' : x.nd.attrs.length≤1000000:=hx
 refine wa ?_
 (refine TE.drawK (fun i=>Nat.beq i 0) (by rfl) (by rfl) (by rfl) ?_)
 refine wf ?_
 all_goals refine wa ?_
 all_goals (refine TE.freezeN 3 (by rfl) (by rfl) ?_)
 all_goals (refine TE.ret' io rfl tysOk (()) ?_ rfl (by rfl) ?_;all_goals (try (first|exact trivial|((with_reducible refine AllP.go ?_);dsimp only [AllP,appP];repeat' (first|refine And.intro ?_ ?_|exact zz)))))
 all_goals exact litnil_app 2 (atC x.nd.attrs)
theorem nd_row (x:Nd):∀ j,j<8→nthD [.c (.int .i64 x.depth),.c (.string x.name),.c (.int .i64 x.kind),.sl 2 x.attrs.length (atC x.attrs).cell,.c (.string x.data),.c (.int .i64 x.major),.c (.int .i64 x.minor),.c (.int .i64 x.cls)] j=ndR x j
 | 0,_=>rfl
 | 1,_=>rfl
 | 2,_=>rfl
 | 3,_=>rfl
 | 4,_=>rfl
 | 5,_=>rfl
 | 6,_=>rfl
 | 7,_=>rfl
 | _+8,h=>absurd h (by omega)
theorem map_take {α β:Type} {f:α→β} {d:α} {l:List α} {q:Nat} (h:q<l.length):(l.take (q+1)).map f=(l.take q).map f++[f (l.getD q d)]:=by
 rw [List.take_add_one,List.map_append,List.getD_eq_getElem?_getD,List.getElem?_eq_getElem h]
 rfl
theorem tree_c (l:List Bn) (hl:l.length≤1000000) (hx:∀ x∈l,lenN x.nd):Con Tryz.prog 22 [.o (.ro 10 l.length (bnC l).cell)] [] 0 0 U (fun _=>.o (.ro 8 (l.map (·.nd)).length (ndC (l.map (·.nd))).cell)) G0:=by
 refine con_of Tryz.func22 rfl (by kernel_rfl) Tryz.ntmps22 rfl (by first | exact Nat.zero_le _ | decide) (fun _=>⟨rfl,rfl⟩) fun w S ν=>?_
 refine wa ?_
 (refine TE.only [11,10,9,3,0] (by rfl) ?_)
 refine TE.loopG (fun q:Nat=>q≤l.length) (fun q=>[(11,.o (.c (.int .i64 q))),(3,.o (.own 0))]) [0] (fun q=>[.own 0 53 8 (ndC ((l.take q).map (·.nd)))]) (fun q=>l.length - q) 0 (by rfl) (Nat.zero_le _) ?_ ?_
 ·(refine Ent.of rfl rfl (by rfl) ?_;(try (first|exact trivial|((with_reducible refine AllP.go ?_);dsimp only [AllP,appP];repeat' (first|refine And.intro ?_ ?_|exact zz)))))
  exact LeDC.nil rfl rfl
 intro q hq
 have hn:(ndC ((l.take q).map (·.nd))).n=q:=by show ((l.take q).map (·.nd)).length=q;rw [List.length_map,List.length_take];omega
 have hn2:(l.take q).length=q:=by rw [List.length_take];omega
 by_cases hlt:q<l.length
 ·have hxq:=hx _ (getD_mem (l:=l) (d:=b0) hlt)
  refine wa ?_
  refine cw (plain_c (l.getD q b0) hxq) ?_
  intro _ _
  refine wb ?_
  refine TE.again' (q+1) (by omega) (by omega) ?_
  (refine Ent.of rfl rfl (by rfl) ?_;(try (first|exact trivial|((with_reducible refine AllP.go ?_);dsimp only [AllP,appP];repeat' (first|refine And.intro ?_ ?_|exact zz)))))
  exact listC_snoc _ (map_take hlt) (nd_row _)
 ·obtain rfl:q=l.length:=by omega
  refine wa ?_
  (refine TE.freezeN 0 (by rfl) (by rfl) ?_)
  (refine TE.ret' io rfl tysOk (()) ?_ rfl (by rfl) ?_;all_goals (try (first|exact trivial|((with_reducible refine AllP.go ?_);dsimp only [AllP,appP];repeat' (first|refine And.intro ?_ ?_|exact zz)))))
  rw [List.take_length]
  exact LeD.refl
theorem rtree_c (l:List Bn) (hl:l.length≤1000000) (hx:∀ x∈l,lenN x.nd):Con Tryz.prog 26 [.o (.ro 10 l.length (bnC l).cell)] [] 0 0 U (fun _=>.o (.ro 8 (l.map (·.nd)).length (ndC (l.map (·.nd))).cell)) G0:=by
 refine con_of Tryz.func26 rfl (by kernel_rfl) Tryz.ntmps26 rfl (by first | exact Nat.zero_le _ | decide) (fun _=>⟨rfl,rfl⟩) fun w S ν=>?_
 refine wa ?_
 refine TE.nilOwn 3 53 8 (by rfl) ?_
 refine TE.loopG (fun q:Nat=>q≤l.length) (fun q=>[(4,.o (.c (.int .i64 q))),(3,.o (.own 0))]) [0] (fun q=>[.own 0 53 8 (ndC ((l.take q).map (·.nd)))]) (fun q=>l.length - q) 0 (by rfl) (Nat.zero_le _) ?_ ?_
 ·(refine Ent.of rfl rfl (by rfl) ?_;(try (first|exact trivial|((with_reducible refine AllP.go ?_);dsimp only [AllP,appP];repeat' (first|refine And.intro ?_ ?_|exact zz)))))
  exact LeDC.nil rfl rfl
 intro q hq
 have hn:(ndC ((l.take q).map (·.nd))).n=q:=by show ((l.take q).map (·.nd)).length=q;rw [List.length_map,List.length_take];omega
 have hn2:(l.take q).length=q:=by rw [List.length_take];omega
 by_cases hlt:q<l.length
 ·have hxq:=hx _ (getD_mem (l:=l) (d:=b0) hlt)
  refine wa ?_
  refine cw (node_c (l.getD q b0) hxq) ?_
  intro _ _
  refine wb ?_
  refine TE.again' (q+1) (by omega) (by omega) ?_
  (refine Ent.of rfl rfl (by rfl) ?_;(try (first|exact trivial|((with_reducible refine AllP.go ?_);dsimp only [AllP,appP];repeat' (first|refine And.intro ?_ ?_|exact zz)))))
  exact listC_snoc _ (map_take hlt) (nd_row _)
 ·obtain rfl:q=l.length:=by omega
  refine wa ?_
  (refine TE.freezeN 0 (by rfl) (by rfl) ?_)
  (refine TE.ret' io rfl tysOk (()) ?_ rfl (by rfl) ?_;all_goals (try (first|exact trivial|((with_reducible refine AllP.go ?_);dsimp only [AllP,appP];repeat' (first|refine And.intro ?_ ?_|exact zz)))))
  rw [List.take_length]
  exact LeD.refl
theorem plist_eq_of {l m:List ByteArray} (hl:l.length=m.length) (h:∀ k,k<l.length→l.getD k eS=m.getD k eS):l=m:=by
 refine List.ext_getElem hl fun k h1 h2=>?_
 have:=h k h1
 rwa [List.getD_eq_getElem?_getD,List.getD_eq_getElem?_getD,List.getElem?_eq_getElem h1,List.getElem?_eq_getElem h2] at this
theorem rsame_c (l m:List ByteArray) (hl:l.length≤1000000) (hm:m.length≤1000000):Con Tryz.prog 45 [.o (.ro 1 l.length (paC l).cell),.o (.ro 1 m.length (paC m).cell)] [] 0 0 U (fun _=>.o (.sb (decide (l=m)))) G0:=by
 refine con_of Tryz.func45 rfl (by kernel_rfl) Tryz.ntmps45 rfl (by first | exact Nat.zero_le _ | decide) (fun _=>⟨rfl,rfl⟩) fun w S ν=>?_
 by_cases hlm:l.length=m.length
 ·refine wc ?_
  refine TE.loopG (fun q:Nat=>q≤l.length∧∀ j,j<q→l.getD j eS=m.getD j eS) (fun q=>[(5,.o (.c (.int .i64 q)))]) [] (fun _=>[]) (fun q=>l.length - q) 0 (by rfl) ⟨Nat.zero_le _,fun j hj=>absurd hj (Nat.not_lt_zero _)⟩ ?_ ?_
  ·exact ee
  rintro q ⟨hq,hg⟩
  by_cases hlt:q<l.length
  ·by_cases he:l.getD q eS=m.getD q eS
   ·refine wc ?_
    refine TE.again' (q+1) ⟨by omega,fun j hj=>?_⟩ (by omega) ?_
    ·rcases Nat.lt_or_ge j q with h5 | h5
     ·exact hg j h5
     ·obtain rfl:j=q:=by omega
      exact he
    ·exact ee
   ·have hne:l≠m:=fun e=>he (by rw [e])
    refine wc ?_
    (refine TE.ret' io rfl tysOk (()) ?_ rfl (by rfl) ?_;all_goals (try (first|exact trivial|((with_reducible refine AllP.go ?_);dsimp only [AllP,appP];repeat' (first|refine And.intro ?_ ?_|exact zz)))))
    exact congrArg Value.bool (decide_eq_false hne).symm
  ·have heq:l=m:=plist_eq_of hlm fun k hk=>hg k (by omega)
   refine wc ?_
   (refine TE.ret' io rfl tysOk (()) ?_ rfl (by rfl) ?_;all_goals (try (first|exact trivial|((with_reducible refine AllP.go ?_);dsimp only [AllP,appP];repeat' (first|refine And.intro ?_ ?_|exact zz)))))
   exact congrArg Value.bool (decide_eq_true heq).symm
 ·have hne:l≠m:=fun e=>hlm (by rw [e])
  refine wc ?_
  (refine TE.ret' io rfl tysOk (()) ?_ rfl (by rfl) ?_;all_goals (try (first|exact trivial|((with_reducible refine AllP.go ?_);dsimp only [AllP,appP];repeat' (first|refine And.intro ?_ ?_|exact zz)))))
  exact congrArg Value.bool (decide_eq_false hne).symm
theorem equalS_c (l m:List ByteArray) (hl:l.length≤1000000) (hm:m.length≤1000000):Con Tryz.prog 58 [.o (.ro 1 l.length (paC l).cell),.o (.ro 1 m.length (paC m).cell)] [] 0 0 U (fun _=>.o (.sb (decide (l=m)))) G0:=by
 refine con_of Tryz.func58 rfl (by kernel_rfl) Tryz.ntmps58 rfl (by first | exact Nat.zero_le _ | decide) (fun _=>⟨rfl,rfl⟩) fun w S ν=>?_
 by_cases hlm:l.length=m.length
 ·refine wc ?_
  refine TE.loopG (fun q:Nat=>q≤l.length∧∀ j,j<q→l.getD j eS=m.getD j eS) (fun q=>[(13,.o (.c (.int .i64 q)))]) [] (fun _=>[]) (fun q=>l.length - q) 0 (by rfl) ⟨Nat.zero_le _,fun j hj=>absurd hj (Nat.not_lt_zero _)⟩ ?_ ?_
  ·exact ee
  rintro q ⟨hq,hg⟩
  by_cases hlt:q<l.length
  ·by_cases he:l.getD q eS=m.getD q eS
   ·refine wc ?_
    refine TE.again' (q+1) ⟨by omega,fun j hj=>?_⟩ (by omega) ?_
    ·rcases Nat.lt_or_ge j q with h5 | h5
     ·exact hg j h5
     ·obtain rfl:j=q:=by omega
      exact he
    ·exact ee
   ·have hne:l≠m:=fun e=>he (by rw [e])
    refine wc ?_
    (refine TE.ret' io rfl tysOk (()) ?_ rfl (by rfl) ?_;all_goals (try (first|exact trivial|((with_reducible refine AllP.go ?_);dsimp only [AllP,appP];repeat' (first|refine And.intro ?_ ?_|exact zz)))))
    exact congrArg Value.bool (decide_eq_false hne).symm
  ·have heq:l=m:=plist_eq_of hlm fun k hk=>hg k (by omega)
   refine wc ?_
   (refine TE.ret' io rfl tysOk (()) ?_ rfl (by rfl) ?_;all_goals (try (first|exact trivial|((with_reducible refine AllP.go ?_);dsimp only [AllP,appP];repeat' (first|refine And.intro ?_ ?_|exact zz)))))
   exact congrArg Value.bool (decide_eq_true heq).symm
 ·have hne:l≠m:=fun e=>hlm (by rw [e])
  refine wc ?_
  (refine TE.ret' io rfl tysOk (()) ?_ rfl (by rfl) ?_;all_goals (try (first|exact trivial|((with_reducible refine AllP.go ?_);dsimp only [AllP,appP];repeat' (first|refine And.intro ?_ ?_|exact zz)))))
  exact congrArg Value.bool (decide_eq_false hne).symm
theorem above_c (l:List Bn) (i:Nat) (hi:i<l.length) (hl:l.length≤1000000):Con Tryz.prog 92 [.o (.ro 10 l.length (bnC l).cell),.o (.c (.int .i64 i))] [] 0 0 U (fun _=>.o (.c (.int .i64 (aboveI (nds l) i)))) G0:=by
 refine con_of Tryz.func92 rfl (by kernel_rfl) Tryz.ntmps92 rfl (by first | exact Nat.zero_le _ | decide) (fun _=>⟨rfl,rfl⟩) fun w S ν=>?_
 have hnl:(nds l).length=l.length:=List.length_map ..
 obtain ⟨d,hd⟩:∃ d,d=((nds l).getD i n0).depth:=⟨_,rfl⟩
 have hd2:(l.getD i b0).nd.depth=d:=by rw [hd,nds_getD]
 have hA:aboveI (nds l) i=aboveR d ((nds l).take i).reverse:=by rw [hd];rfl
 rw [hA]
 refine wc ?_
 refine TE.loopG (fun q:Nat=>q≤i∧aboveR d ((nds l).take i).reverse=aboveR d ((nds l).take q).reverse) (fun q=>[(5,.o (.c (.int .i64 ((q:Int) - 1))))]) [] (fun _=>[]) (fun q=>q) i (by rfl) ⟨Nat.le_refl _,rfl⟩ ?_ ?_
 ·exact ee
 rintro q ⟨hq,hg⟩
 by_cases hq0:q=0
 ·subst hq0
  rw [hg]
  refine wc ?_
  exact po
 obtain ⟨p,rfl⟩:∃ p,q=p+1:=⟨q - 1,by omega⟩
 have hx:l.getD (((p+1:Nat):Int) - 1).toNat b0=l.getD p b0:=by rw [show (((p+1:Nat):Int) - 1).toNat=p by omega]
 have hxd:(l.getD (((p+1:Nat):Int) - 1).toNat b0).nd.depth=(l.getD p b0).nd.depth:=by rw [hx]
 have hpd:((nds l).getD p n0).depth=(l.getD p b0).nd.depth:=by rw [nds_getD]
 by_cases c1:(l.getD p b0).nd.depth<d
 ·rw [hg,above_lo (by omega) (by omega)]
  refine wc ?_
  exact po
 ·have h2:=above_hi (l:=nds l) (q:=p) (d:=d) (by omega) (by omega)
  refine wc ?_
  refine TE.again' p ⟨by omega,by rw [hg,h2]⟩ (by omega) ?_
  exact ee
end Go.Proofs.YtalmoocpebhoiaaGreatDoor.Am
namespace Go.Proofs
open Go.Shelf
def Tryz.lays156_ren:Go.Shelf.Ren:=⟨fun | 156=>37 | 165=>77 | 166=>61 | 169=>63 | 240=>98 | 241=>112 | 276=>126 | 277=>137 | n=>n,fun | 31=>35 | 9=>9 | 3=>3 | 4=>4 | 0=>0 | 20=>20 | 72=>100 | 76=>106 | 70=>97 | 37=>98 | 75=>105 | 127=>140 | 164=>166 | 5=>5 | 80=>109 | n=>n,fun | n=>n⟩
theorem Tryz.lays156:Go.Proofs.Lays.n156 Tryz.prog Tryz.lays156_ren:={
 mixed:=by kernel_rfl
 f156:=Tryz.func37.trans (congrArg some (by kernel_rfl))
 f165:=Tryz.func77.trans (congrArg some (by kernel_rfl))
 f166:=Tryz.func61.trans (congrArg some (by kernel_rfl))
 f169:=Tryz.func63.trans (congrArg some (by kernel_rfl))
 f240:=Tryz.func98.trans (congrArg some (by kernel_rfl))
 f241:=Tryz.func112.trans (congrArg some (by kernel_rfl))
 f276:=Tryz.func126.trans (congrArg some (by kernel_rfl))
 f277:=Tryz.func137.trans (congrArg some (by kernel_rfl))
 t0:=Tryz.underlying0
 a0:=Tryz.isAgg0
 z0:=Tryz.sizeOf0
 v0:=Tryz.zeroValue0
 t3:=Tryz.underlying3
 a3:=Tryz.isAgg3
 z3:=Tryz.sizeOf3
 v3:=Tryz.zeroValue3
 t4:=Tryz.underlying4
 a4:=Tryz.isAgg4
 z4:=Tryz.sizeOf4
 v4:=Tryz.zeroValue4
 t9:=Tryz.underlying9
 a9:=Tryz.isAgg9
 z9:=Tryz.sizeOf9
 v9:=Tryz.zeroValue9
 t20:=Tryz.underlying20
 a20:=Tryz.isAgg20
 z20:=Tryz.sizeOf20
 v20:=Tryz.zeroValue20
 t31:=Tryz.underlying35
 a31:=Tryz.isAgg35
 z31:=Tryz.sizeOf35
 v31:=Tryz.zeroValue35
 t37:=Tryz.underlying98
 a37:=Tryz.isAgg98
 z37:=Tryz.sizeOf98
 v37:=Tryz.zeroValue98
 t70:=Tryz.underlying97
 a70:=Tryz.isAgg97
 z70:=Tryz.sizeOf97
 v70:=Tryz.zeroValue97
 t72:=Tryz.underlying100
 a72:=Tryz.isAgg100
 z72:=Tryz.sizeOf100
 v72:=Tryz.zeroValue100
 t75:=Tryz.underlying105
 a75:=Tryz.isAgg105
 z75:=Tryz.sizeOf105
 v75:=Tryz.zeroValue105
 t76:=Tryz.underlying106
 a76:=Tryz.isAgg106
 z76:=Tryz.sizeOf106
 v76:=Tryz.zeroValue106
 t127:=Tryz.underlying140
 a127:=Tryz.isAgg140
 z127:=Tryz.sizeOf140
 v127:=Tryz.zeroValue140
 t164:=Tryz.underlying166
 a164:=Tryz.isAgg166
 z164:=Tryz.sizeOf166
 v164:=Tryz.zeroValue166 }
theorem Tryz.Builder_Extra_156:Builder.Extra Tryz.prog Tryz.lays156_ren:={
 sizeBuilder:=by kernel_rfl
 liesBuilder:=by kernel_rfl
 t5:=Tryz.underlying5
 a5:=Tryz.isAgg5
 z5:=Tryz.sizeOf5
 v5:=Tryz.zeroValue5
 infoByte:=by kernel_rfl
 cellsByte:=by kernel_rfl
 sizeByte:=by kernel_rfl
 neB5:=by decide }
open Go.RowKit in
theorem Tryz.strings_Join_none (a:Option Addr) (c:Nat) (sep:ByteArray) (w:World) :
  Calls Tryz.prog 37 #[.slice a 0 c,.string sep] w fun e w'=>e = .returned (.string ⟨#[]⟩)∧w' = w:=Any.strings_Join_none Tryz.lays156 Tryz.Builder_Extra_156 a c sep w
open Go.RowKit in
theorem Tryz.strings_Join (bk o c:Nat) (xs:List ByteArray) (sep:ByteArray) (w:World) (hcells:∀ (j:Nat) x,xs[j]? = some x→w.cell? ⟨bk,o+j,none⟩=some (.string x)) (hbk:bk<w.heap.size) (hN:xs.length≤140737488355328) (hcap:xs.length≤c) (hlen:(Lib.join (xs.map (·.data.toList)) sep.data.toList).length≤140737488355328) :
  Calls Tryz.prog 37 #[.slice (some ⟨bk,o,none⟩) xs.length c,.string sep] w fun e w'=>e = .returned (.string ⟨(Lib.join (xs.map (·.data.toList)) sep.data.toList).toArray⟩)∧Below w.heap.size w w':=Any.strings_Join Tryz.lays156 Tryz.Builder_Extra_156 bk o c xs sep w hcells hbk hN hcap hlen
def Tryz.lays160_ren:Go.Shelf.Ren:=⟨fun | 160=>175 | 232=>188 | 231=>187 | 227=>189 | 234=>191 | 233=>190 | 236=>193 | 235=>192 | 228=>201 | 271=>203 | 151=>202 | 197=>150 | 120=>210 | 152=>209 | 260=>168 | 137=>173 | 119=>212 | 224=>171 | 225=>170 | 217=>169 | 266=>184 | n=>n,fun | 9=>9 | 4=>4 | 3=>3 | 5=>5 | 117=>220 | 116=>219 | 0=>0 | 124=>223 | 21=>21 | 105=>187 | 46=>144 | 119=>211 | 139=>214 | 138=>213 | n=>n,fun | 3=>4 | 4=>5 | n=>n⟩
theorem Tryz.lays160:Go.Proofs.Lays.n160 Tryz.prog Tryz.lays160_ren:={
 mixed:=by kernel_rfl
 f119:=Tryz.func212.trans (congrArg some (by kernel_rfl))
 f120:=Tryz.func210.trans (congrArg some (by kernel_rfl))
 f137:=Tryz.func173.trans (congrArg some (by kernel_rfl))
 f151:=Tryz.func202.trans (congrArg some (by kernel_rfl))
 f152:=Tryz.func209.trans (congrArg some (by kernel_rfl))
 f160:=Tryz.func175.trans (congrArg some (by kernel_rfl))
 f197:=Tryz.func150.trans (congrArg some (by kernel_rfl))
 f217:=Tryz.func169.trans (congrArg some (by kernel_rfl))
 f224:=Tryz.func171.trans (congrArg some (by kernel_rfl))
 f225:=Tryz.func170.trans (congrArg some (by kernel_rfl))
 f227:=Tryz.func189.trans (congrArg some (by kernel_rfl))
 f228:=Tryz.func201.trans (congrArg some (by kernel_rfl))
 f231:=Tryz.func187.trans (congrArg some (by kernel_rfl))
 f232:=Tryz.func188.trans (congrArg some (by kernel_rfl))
 f233:=Tryz.func190.trans (congrArg some (by kernel_rfl))
 f234:=Tryz.func191.trans (congrArg some (by kernel_rfl))
 f235:=Tryz.func192.trans (congrArg some (by kernel_rfl))
 f236:=Tryz.func193.trans (congrArg some (by kernel_rfl))
 f260:=Tryz.func168.trans (congrArg some (by kernel_rfl))
 f266:=Tryz.func184.trans (congrArg some (by kernel_rfl))
 f271:=Tryz.func203.trans (congrArg some (by kernel_rfl))
 t0:=Tryz.underlying0
 a0:=Tryz.isAgg0
 z0:=Tryz.sizeOf0
 v0:=Tryz.zeroValue0
 t3:=Tryz.underlying3
 a3:=Tryz.isAgg3
 z3:=Tryz.sizeOf3
 v3:=Tryz.zeroValue3
 t4:=Tryz.underlying4
 a4:=Tryz.isAgg4
 z4:=Tryz.sizeOf4
 v4:=Tryz.zeroValue4
 t5:=Tryz.underlying5
 a5:=Tryz.isAgg5
 z5:=Tryz.sizeOf5
 v5:=Tryz.zeroValue5
 t9:=Tryz.underlying9
 a9:=Tryz.isAgg9
 z9:=Tryz.sizeOf9
 v9:=Tryz.zeroValue9
 t21:=Tryz.underlying21
 a21:=Tryz.isAgg21
 z21:=Tryz.sizeOf21
 v21:=Tryz.zeroValue21
 t46:=Tryz.underlying144
 a46:=Tryz.isAgg144
 z46:=Tryz.sizeOf144
 v46:=Tryz.zeroValue144
 t105:=Tryz.underlying187
 a105:=Tryz.isAgg187
 z105:=Tryz.sizeOf187
 v105:=Tryz.zeroValue187
 t116:=Tryz.underlying219
 a116:=Tryz.isAgg219
 z116:=Tryz.sizeOf219
 t117:=Tryz.underlying220
 a117:=Tryz.isAgg220
 z117:=Tryz.sizeOf220
 v117:=Tryz.zeroValue220
 t119:=Tryz.underlying211
 a119:=Tryz.isAgg211
 z119:=Tryz.sizeOf211
 t124:=Tryz.underlying223
 a124:=Tryz.isAgg223
 z124:=Tryz.sizeOf223
 v124:=Tryz.zeroValue223
 t138:=Tryz.underlying213
 a138:=Tryz.isAgg213
 z138:=Tryz.sizeOf213
 v138:=Tryz.zeroValue213
 t139:=Tryz.underlying214
 a139:=Tryz.isAgg214
 z139:=Tryz.sizeOf214
 v139:=Tryz.zeroValue214
 g3:=by kernel_rfl
 g4:=by kernel_rfl }
def Tryz.lays137_ren:Go.Shelf.Ren:=⟨fun | 137=>173 | 217=>169 | 266=>184 | n=>n,fun | 9=>9 | 5=>5 | 3=>3 | n=>n,fun | n=>n⟩
theorem Tryz.lays137:Go.Proofs.Lays.n137 Tryz.prog Tryz.lays137_ren:={
 mixed:=by kernel_rfl
 f137:=Tryz.func173.trans (congrArg some (by kernel_rfl))
 f217:=Tryz.func169.trans (congrArg some (by kernel_rfl))
 f266:=Tryz.func184.trans (congrArg some (by kernel_rfl))
 t3:=Tryz.underlying3
 a3:=Tryz.isAgg3
 z3:=Tryz.sizeOf3
 v3:=Tryz.zeroValue3
 t5:=Tryz.underlying5
 a5:=Tryz.isAgg5
 z5:=Tryz.sizeOf5
 v5:=Tryz.zeroValue5
 t9:=Tryz.underlying9
 a9:=Tryz.isAgg9
 z9:=Tryz.sizeOf9
 v9:=Tryz.zeroValue9 }
open Go.RowKit in
theorem Tryz.strings_IndexByte (s:ByteArray) (c:Int) (w:World) :
  Calls Tryz.prog 173 #[.string s,.int .u8 c] w fun e w'=>e = .returned (.int .i64 (Lib.indexByte s.data.toList c.toNat.toUInt8))∧w' = w:=Any.strings_IndexByte Tryz.lays137 s c w
def Tryz.laysM173_ren:Go.Shelf.Ren:=⟨fun | 173=>127 | 246=>147 | 283=>163 | 284=>164 | 285=>165 | 286=>166 | 129=>180 | 317=>179 | 318=>181 | 319=>182 | 320=>183 | 337=>199 | 338=>200 | n=>n,fun | 2=>2 | 3=>3 | 9=>9 | 4=>4 | 171=>196 | 0=>0 | 53=>197 | 37=>98 | 5=>5 | 173=>200 | 212=>207 | 51=>208 | 20=>20 | 213=>209 | 46=>144 | 232=>235 | 233=>236 | n=>n,fun | 17=>3 | 18=>8 | 19=>9 | n=>n⟩
theorem Tryz.laysM173:Go.Proofs.LaysM.n173 Tryz.prog Tryz.laysM173_ren:={
 mixed:=by kernel_rfl
 f129:=Tryz.func180.trans (congrArg some (by kernel_rfl))
 f173:=Tryz.func127.trans (congrArg some (by kernel_rfl))
 f246:=Tryz.func147.trans (congrArg some (by kernel_rfl))
 f283:=Tryz.func163.trans (congrArg some (by kernel_rfl))
 f284:=Tryz.func164.trans (congrArg some (by kernel_rfl))
 f285:=Tryz.func165.trans (congrArg some (by kernel_rfl))
 f286:=Tryz.func166.trans (congrArg some (by kernel_rfl))
 f317:=Tryz.func179.trans (congrArg some (by kernel_rfl))
 f318:=Tryz.func181.trans (congrArg some (by kernel_rfl))
 f319:=Tryz.func182.trans (congrArg some (by kernel_rfl))
 f320:=Tryz.func183.trans (congrArg some (by kernel_rfl))
 f337:=Tryz.func199.trans (congrArg some (by kernel_rfl))
 f338:=Tryz.func200.trans (congrArg some (by kernel_rfl))
 t0:=Tryz.underlying0
 a0:=Tryz.isAgg0
 z0:=Tryz.sizeOf0
 v0:=Tryz.zeroValue0
 t2:=Tryz.underlying2
 a2:=Tryz.isAgg2
 z2:=Tryz.sizeOf2
 v2:=Tryz.zeroValue2
 t3:=Tryz.underlying3
 a3:=Tryz.isAgg3
 z3:=Tryz.sizeOf3
 v3:=Tryz.zeroValue3
 t4:=Tryz.underlying4
 a4:=Tryz.isAgg4
 z4:=Tryz.sizeOf4
 v4:=Tryz.zeroValue4
 t5:=Tryz.underlying5
 a5:=Tryz.isAgg5
 z5:=Tryz.sizeOf5
 v5:=Tryz.zeroValue5
 t9:=Tryz.underlying9
 a9:=Tryz.isAgg9
 z9:=Tryz.sizeOf9
 v9:=Tryz.zeroValue9
 t20:=Tryz.underlying20
 a20:=Tryz.isAgg20
 z20:=Tryz.sizeOf20
 v20:=Tryz.zeroValue20
 t37:=Tryz.underlying98
 a37:=Tryz.isAgg98
 z37:=Tryz.sizeOf98
 v37:=Tryz.zeroValue98
 t46:=Tryz.underlying144
 a46:=Tryz.isAgg144
 z46:=Tryz.sizeOf144
 v46:=Tryz.zeroValue144
 t51:=Tryz.underlying208
 a51:=Tryz.isAgg208
 z51:=Tryz.sizeOf208
 v51:=Tryz.zeroValue208
 t53:=Tryz.underlying197
 a53:=Tryz.isAgg197
 z53:=Tryz.sizeOf197
 v53:=Tryz.zeroValue197
 t171:=Tryz.underlying196
 a171:=Tryz.isAgg196
 z171:=Tryz.sizeOf196
 v171:=Tryz.zeroValue196
 t173:=Tryz.underlying200
 a173:=Tryz.isAgg200
 z173:=Tryz.sizeOf200
 v173:=Tryz.zeroValue200
 t212:=Tryz.underlying207
 a212:=Tryz.isAgg207
 z212:=Tryz.sizeOf207
 v212:=Tryz.zeroValue207
 t213:=Tryz.underlying209
 a213:=Tryz.isAgg209
 z213:=Tryz.sizeOf209
 t232:=Tryz.underlying235
 a232:=Tryz.isAgg235
 z232:=Tryz.sizeOf235
 v232:=Tryz.zeroValue235
 t233:=Tryz.underlying236
 a233:=Tryz.isAgg236
 z233:=Tryz.sizeOf236
 v233:=Tryz.zeroValue236
 g17:=by kernel_rfl
 g18:=by kernel_rfl
 g19:=by kernel_rfl
 i0:=by kernel_rfl
 i2:=by kernel_rfl
 i3:=by kernel_rfl
 i4:=by kernel_rfl
 i5:=by kernel_rfl
 i9:=by kernel_rfl
 i20:=by kernel_rfl
 i37:=by kernel_rfl
 i46:=by kernel_rfl
 i51:=by kernel_rfl
 i53:=by kernel_rfl
 i171:=by kernel_rfl
 i173:=by kernel_rfl
 i212:=by kernel_rfl
 i232:=by kernel_rfl
 i233:=by kernel_rfl
 m17:=by kernel_rfl
 m18:=by kernel_rfl
 m19:=by kernel_rfl }
open Go.RowKit Go.Sort Go.Lib in
theorem Tryz.strconv_FormatInt_10 (n : Int) (h0 : -9223372036854775808 ≤ n) (h1 : n ≤ 9223372036854775807) (w : World) (htab : Lib.TabIs Tryz.prog w "internal/strconv.uint64pow10" .u64 Lib.pow10Tab) :
  Calls Tryz.prog 127 #[.int .i64 n,.int .i64 10] w fun e w'=>e = .returned (.string ⟨(Lib.itoa n).toArray⟩)∧∃ k os,w' = grow (w.drewN k) os:=Any.strconv_FormatInt_10 Tryz.laysM173 n h0 h1 w htab
def Tryz.laysC174_ren:Go.Shelf.Ren:=⟨fun | 174=>156 | 247=>176 | 245=>177 | 287=>194 | 279=>195 | 280=>196 | 281=>197 | 282=>198 | 321=>204 | 322=>205 | 316=>206 | 171=>208 | 205=>207 | 243=>211 | 246=>147 | 283=>163 | 284=>164 | 285=>165 | 286=>166 | 129=>180 | 317=>179 | 318=>181 | 319=>182 | 320=>183 | 337=>199 | 338=>200 | n=>n,fun | 9=>9 | 3=>3 | 2=>2 | 75=>105 | 85=>192 | 4=>4 | 167=>224 | 5=>5 | 53=>197 | 175=>225 | 46=>144 | 168=>227 | 37=>98 | 0=>0 | 210=>233 | 21=>21 | 127=>140 | 145=>240 | 143=>238 | 171=>196 | 173=>200 | 212=>207 | 51=>208 | 20=>20 | 213=>209 | 232=>235 | 233=>236 | 80=>109 | n=>n,fun | 15=>6 | 16=>7 | 17=>3 | 18=>8 | 19=>9 | n=>n⟩
theorem Tryz.laysC174:Go.Proofs.LaysC.n174 Tryz.prog Tryz.laysC174_ren:={
 mixed:=by kernel_rfl
 f129:=Tryz.func180.trans (congrArg some (by kernel_rfl))
 f171:=Tryz.func208.trans (congrArg some (by kernel_rfl))
 f174:=Tryz.func156.trans (congrArg some (by kernel_rfl))
 f205:=Tryz.func207.trans (congrArg some (by kernel_rfl))
 f243:=Tryz.func211.trans (congrArg some (by kernel_rfl))
 f245:=Tryz.func177.trans (congrArg some (by kernel_rfl))
 f246:=Tryz.func147.trans (congrArg some (by kernel_rfl))
 f247:=Tryz.func176.trans (congrArg some (by kernel_rfl))
 f279:=Tryz.func195.trans (congrArg some (by kernel_rfl))
 f280:=Tryz.func196.trans (congrArg some (by kernel_rfl))
 f281:=Tryz.func197.trans (congrArg some (by kernel_rfl))
 f282:=Tryz.func198.trans (congrArg some (by kernel_rfl))
 f283:=Tryz.func163.trans (congrArg some (by kernel_rfl))
 f284:=Tryz.func164.trans (congrArg some (by kernel_rfl))
 f285:=Tryz.func165.trans (congrArg some (by kernel_rfl))
 f286:=Tryz.func166.trans (congrArg some (by kernel_rfl))
 f287:=Tryz.func194.trans (congrArg some (by kernel_rfl))
 f316:=Tryz.func206.trans (congrArg some (by kernel_rfl))
 f317:=Tryz.func179.trans (congrArg some (by kernel_rfl))
 f318:=Tryz.func181.trans (congrArg some (by kernel_rfl))
 f319:=Tryz.func182.trans (congrArg some (by kernel_rfl))
 f320:=Tryz.func183.trans (congrArg some (by kernel_rfl))
 f321:=Tryz.func204.trans (congrArg some (by kernel_rfl))
 f322:=Tryz.func205.trans (congrArg some (by kernel_rfl))
 f337:=Tryz.func199.trans (congrArg some (by kernel_rfl))
 f338:=Tryz.func200.trans (congrArg some (by kernel_rfl))
 t0:=Tryz.underlying0
 a0:=Tryz.isAgg0
 z0:=Tryz.sizeOf0
 v0:=Tryz.zeroValue0
 t2:=Tryz.underlying2
 a2:=Tryz.isAgg2
 z2:=Tryz.sizeOf2
 v2:=Tryz.zeroValue2
 t3:=Tryz.underlying3
 a3:=Tryz.isAgg3
 z3:=Tryz.sizeOf3
 v3:=Tryz.zeroValue3
 t4:=Tryz.underlying4
 a4:=Tryz.isAgg4
 z4:=Tryz.sizeOf4
 v4:=Tryz.zeroValue4
 t5:=Tryz.underlying5
 a5:=Tryz.isAgg5
 z5:=Tryz.sizeOf5
 v5:=Tryz.zeroValue5
 t9:=Tryz.underlying9
 a9:=Tryz.isAgg9
 z9:=Tryz.sizeOf9
 v9:=Tryz.zeroValue9
 t20:=Tryz.underlying20
 a20:=Tryz.isAgg20
 z20:=Tryz.sizeOf20
 v20:=Tryz.zeroValue20
 t21:=Tryz.underlying21
 a21:=Tryz.isAgg21
 z21:=Tryz.sizeOf21
 v21:=Tryz.zeroValue21
 t37:=Tryz.underlying98
 a37:=Tryz.isAgg98
 z37:=Tryz.sizeOf98
 v37:=Tryz.zeroValue98
 t46:=Tryz.underlying144
 a46:=Tryz.isAgg144
 z46:=Tryz.sizeOf144
 v46:=Tryz.zeroValue144
 t51:=Tryz.underlying208
 a51:=Tryz.isAgg208
 z51:=Tryz.sizeOf208
 v51:=Tryz.zeroValue208
 t53:=Tryz.underlying197
 a53:=Tryz.isAgg197
 z53:=Tryz.sizeOf197
 v53:=Tryz.zeroValue197
 t75:=Tryz.underlying105
 a75:=Tryz.isAgg105
 z75:=Tryz.sizeOf105
 v75:=Tryz.zeroValue105
 t85:=Tryz.underlying192
 a85:=Tryz.isAgg192
 z85:=Tryz.sizeOf192
 v85:=Tryz.zeroValue192
 t127:=Tryz.underlying140
 a127:=Tryz.isAgg140
 z127:=Tryz.sizeOf140
 v127:=Tryz.zeroValue140
 t143:=Tryz.underlying238
 a143:=Tryz.isAgg238
 z143:=Tryz.sizeOf238
 v143:=Tryz.zeroValue238
 t145:=Tryz.underlying240
 a145:=Tryz.isAgg240
 z145:=Tryz.sizeOf240
 v145:=Tryz.zeroValue240
 t167:=Tryz.underlying224
 a167:=Tryz.isAgg224
 z167:=Tryz.sizeOf224
 v167:=Tryz.zeroValue224
 t168:=Tryz.underlying227
 a168:=Tryz.isAgg227
 z168:=Tryz.sizeOf227
 v168:=Tryz.zeroValue227
 t171:=Tryz.underlying196
 a171:=Tryz.isAgg196
 z171:=Tryz.sizeOf196
 v171:=Tryz.zeroValue196
 t173:=Tryz.underlying200
 a173:=Tryz.isAgg200
 z173:=Tryz.sizeOf200
 v173:=Tryz.zeroValue200
 t175:=Tryz.underlying225
 a175:=Tryz.isAgg225
 z175:=Tryz.sizeOf225
 v175:=Tryz.zeroValue225
 t210:=Tryz.underlying233
 a210:=Tryz.isAgg233
 z210:=Tryz.sizeOf233
 v210:=Tryz.zeroValue233
 t212:=Tryz.underlying207
 a212:=Tryz.isAgg207
 z212:=Tryz.sizeOf207
 v212:=Tryz.zeroValue207
 t213:=Tryz.underlying209
 a213:=Tryz.isAgg209
 z213:=Tryz.sizeOf209
 t232:=Tryz.underlying235
 a232:=Tryz.isAgg235
 z232:=Tryz.sizeOf235
 v232:=Tryz.zeroValue235
 t233:=Tryz.underlying236
 a233:=Tryz.isAgg236
 z233:=Tryz.sizeOf236
 v233:=Tryz.zeroValue236
 g15:=by kernel_rfl
 g16:=by kernel_rfl
 g17:=by kernel_rfl
 g18:=by kernel_rfl
 g19:=by kernel_rfl
 t80:=Tryz.underlying109
 a80:=Tryz.isAgg109
 z80:=Tryz.sizeOf109
 v80:=Tryz.zeroValue109
 i0:=by kernel_rfl
 i2:=by kernel_rfl
 i3:=by kernel_rfl
 i4:=by kernel_rfl
 i5:=by kernel_rfl
 i9:=by kernel_rfl
 i20:=by kernel_rfl
 i21:=by kernel_rfl
 i37:=by kernel_rfl
 i46:=by kernel_rfl
 i51:=by kernel_rfl
 i53:=by kernel_rfl
 i75:=by kernel_rfl
 i80:=by kernel_rfl
 i85:=by kernel_rfl
 i127:=by kernel_rfl
 i143:=by kernel_rfl
 i145:=by kernel_rfl
 i167:=by kernel_rfl
 i168:=by kernel_rfl
 i171:=by kernel_rfl
 i173:=by kernel_rfl
 i175:=by kernel_rfl
 i210:=by kernel_rfl
 i212:=by kernel_rfl
 i232:=by kernel_rfl
 i233:=by kernel_rfl
 m15:=by kernel_rfl
 m16:=by kernel_rfl
 m17:=by kernel_rfl
 m18:=by kernel_rfl
 m19:=by kernel_rfl
 c0:=by kernel_rfl
 c2:=by kernel_rfl
 c3:=by kernel_rfl
 c4:=by kernel_rfl
 c5:=by kernel_rfl
 c9:=by kernel_rfl
 c20:=by kernel_rfl
 c21:=by kernel_rfl
 c37:=by kernel_rfl
 c46:=by kernel_rfl
 c51:=by kernel_rfl
 c53:=by kernel_rfl
 c75:=by kernel_rfl
 c80:=by kernel_rfl
 c85:=by kernel_rfl
 c127:=by kernel_rfl
 c143:=by kernel_rfl
 c145:=by kernel_rfl
 c167:=by kernel_rfl
 c168:=by kernel_rfl
 c171:=by kernel_rfl
 c173:=by kernel_rfl
 c175:=by kernel_rfl
 c210:=by kernel_rfl
 c212:=by kernel_rfl
 c213:=by kernel_rfl
 c232:=by kernel_rfl
 c233:=by kernel_rfl }
open Go.RowKit in
theorem Tryz.strconv_ParseInt_10_at64_ok (s:ByteArray) (hmax:s.size≤9223372036854775806) (v:Int) (h:Lib.parseIntB 64 s.data.toList = .ok v) (w:World) :
  Calls Tryz.prog 156 #[.string s,.int .i64 10,.int .i64 64] w fun e w'=>e = .returned (.tuple #[.int .i64 v,.nilIface])∧(w' = w∨∃ t,w' = Lib.bytesWorld w 5 t):=Any.strconv_ParseInt_10_at64_ok Tryz.laysC174 s hmax v h w
open Go.RowKit in
theorem Tryz.strconv_ParseInt_10_at64_range (s:ByteArray) (hlim:s.size≤281474976710656) (h:Lib.parseIntB 64 s.data.toList = .range) (ev:Value) (w:World) (hv:w.cell? ⟨7,0,none⟩=some ev) (hev:ev = .nilIface∨∃ te pe,ev = .iface te pe) :
  Calls Tryz.prog 156 #[.string s,.int .i64 10,.int .i64 64] w fun e w'=>∃ N,e = .returned (.tuple #[.int .i64 (Lib.intSat 64 s.data.toList),.iface 227 (.pointer (some ⟨N,0,none⟩))])∧w.heap.size≤N∧w'.heap[N]? = some (.cells #[.string ⟨#[80,97,114,115,101,73,110,116]⟩,.string s,ev] 233 (0,0))∧Below w.heap.size w w':=Any.strconv_ParseInt_10_at64_range Tryz.laysC174 s hlim h ev w hv hev
def Tryz.lays145_ren:Go.Shelf.Ren:=⟨fun | 145=>136 | 220=>154 | 219=>152 | 217=>169 | 225=>170 | 224=>171 | 267=>172 | 266=>184 | 314=>185 | n=>n,fun | 9=>9 | 4=>4 | 59=>176 | 3=>3 | 5=>5 | 46=>144 | 146=>215 | 51=>208 | n=>n,fun | 1=>2 | n=>n⟩
theorem Tryz.lays145:Go.Proofs.Lays.n145 Tryz.prog Tryz.lays145_ren:={
 mixed:=by kernel_rfl
 f145:=Tryz.func136.trans (congrArg some (by kernel_rfl))
 f217:=Tryz.func169.trans (congrArg some (by kernel_rfl))
 f219:=Tryz.func152.trans (congrArg some (by kernel_rfl))
 f220:=Tryz.func154.trans (congrArg some (by kernel_rfl))
 f224:=Tryz.func171.trans (congrArg some (by kernel_rfl))
 f225:=Tryz.func170.trans (congrArg some (by kernel_rfl))
 f266:=Tryz.func184.trans (congrArg some (by kernel_rfl))
 f267:=Tryz.func172.trans (congrArg some (by kernel_rfl))
 f314:=Tryz.func185.trans (congrArg some (by kernel_rfl))
 t3:=Tryz.underlying3
 a3:=Tryz.isAgg3
 z3:=Tryz.sizeOf3
 v3:=Tryz.zeroValue3
 t4:=Tryz.underlying4
 a4:=Tryz.isAgg4
 z4:=Tryz.sizeOf4
 v4:=Tryz.zeroValue4
 t5:=Tryz.underlying5
 a5:=Tryz.isAgg5
 z5:=Tryz.sizeOf5
 v5:=Tryz.zeroValue5
 t9:=Tryz.underlying9
 a9:=Tryz.isAgg9
 z9:=Tryz.sizeOf9
 v9:=Tryz.zeroValue9
 t46:=Tryz.underlying144
 a46:=Tryz.isAgg144
 z46:=Tryz.sizeOf144
 v46:=Tryz.zeroValue144
 t51:=Tryz.underlying208
 a51:=Tryz.isAgg208
 z51:=Tryz.sizeOf208
 v51:=Tryz.zeroValue208
 t59:=Tryz.underlying176
 a59:=Tryz.isAgg176
 z59:=Tryz.sizeOf176
 v59:=Tryz.zeroValue176
 t146:=Tryz.underlying215
 a146:=Tryz.isAgg215
 z146:=Tryz.sizeOf215
 v146:=Tryz.zeroValue215
 g1:=by kernel_rfl }
open Go.RowKit Go.Lib in
theorem Tryz.strings_Cut (s sep:ByteArray) (m:Int) (w:World) (hs:s.size<4294967281) (hm:w.cell? ⟨2,0,none⟩=some (.int .i64 m)) :
  Calls Tryz.prog 136 #[.string s,.string sep] w fun e w'=>e = .returned (.tuple #[.string ⟨(Lib.cut s.data.toList sep.data.toList).1.toArray⟩,.string ⟨(Lib.cut s.data.toList sep.data.toList).2.1.toArray⟩,.bool (Lib.cut s.data.toList sep.data.toList).2.2])∧∃ n,w' = w.drewN n:=Any.strings_Cut Tryz.lays145 s sep m w hs hm
def Tryz.lays101_ren:Go.Shelf.Ren:=⟨fun | 101=>174 | 208=>186 | 206=>157 | n=>n,fun | 9=>9 | 4=>4 | 3=>3 | n=>n,fun | n=>n⟩
theorem Tryz.lays101:Go.Proofs.Lays.n101 Tryz.prog Tryz.lays101_ren:={
 mixed:=by kernel_rfl
 f101:=Tryz.func174.trans (congrArg some (by kernel_rfl))
 f206:=Tryz.func157.trans (congrArg some (by kernel_rfl))
 f208:=Tryz.func186.trans (congrArg some (by kernel_rfl))
 t3:=Tryz.underlying3
 a3:=Tryz.isAgg3
 z3:=Tryz.sizeOf3
 v3:=Tryz.zeroValue3
 t4:=Tryz.underlying4
 a4:=Tryz.isAgg4
 z4:=Tryz.sizeOf4
 v4:=Tryz.zeroValue4
 t9:=Tryz.underlying9
 a9:=Tryz.isAgg9
 z9:=Tryz.sizeOf9
 v9:=Tryz.zeroValue9 }
open Go.RowKit Go.Lib in
theorem Tryz.strings_TrimPrefix (s p:ByteArray) (w:World) :
  Calls Tryz.prog 174 #[.string s,.string p] w fun e w'=>e = .returned (.string ⟨(Lib.trimPrefix s.data.toList p.data.toList).toArray⟩)∧w' = w:=Any.strings_TrimPrefix Tryz.lays101 s p w
def Tryz.lays146_ren:Go.Shelf.Ren:=⟨fun | 146=>75 | 221=>110 | 268=>131 | 138=>132 | 143=>133 | 195=>149 | 197=>150 | 218=>151 | 219=>152 | 260=>168 | 217=>169 | 225=>170 | 224=>171 | 267=>172 | 266=>184 | 314=>185 | n=>n,fun | 9=>9 | 31=>35 | 3=>3 | 4=>4 | 0=>0 | 105=>187 | 21=>21 | 5=>5 | 46=>144 | 119=>211 | 139=>214 | 138=>213 | 146=>215 | 51=>208 | n=>n,fun | 1=>2 | 3=>4 | 4=>5 | n=>n⟩
theorem Tryz.lays146:Go.Proofs.Lays.n146 Tryz.prog Tryz.lays146_ren:={
 mixed:=by kernel_rfl
 f138:=Tryz.func132.trans (congrArg some (by kernel_rfl))
 f143:=Tryz.func133.trans (congrArg some (by kernel_rfl))
 f146:=Tryz.func75.trans (congrArg some (by kernel_rfl))
 f195:=Tryz.func149.trans (congrArg some (by kernel_rfl))
 f197:=Tryz.func150.trans (congrArg some (by kernel_rfl))
 f217:=Tryz.func169.trans (congrArg some (by kernel_rfl))
 f218:=Tryz.func151.trans (congrArg some (by kernel_rfl))
 f219:=Tryz.func152.trans (congrArg some (by kernel_rfl))
 f221:=Tryz.func110.trans (congrArg some (by kernel_rfl))
 f224:=Tryz.func171.trans (congrArg some (by kernel_rfl))
 f225:=Tryz.func170.trans (congrArg some (by kernel_rfl))
 f260:=Tryz.func168.trans (congrArg some (by kernel_rfl))
 f266:=Tryz.func184.trans (congrArg some (by kernel_rfl))
 f267:=Tryz.func172.trans (congrArg some (by kernel_rfl))
 f268:=Tryz.func131.trans (congrArg some (by kernel_rfl))
 f314:=Tryz.func185.trans (congrArg some (by kernel_rfl))
 t0:=Tryz.underlying0
 a0:=Tryz.isAgg0
 z0:=Tryz.sizeOf0
 v0:=Tryz.zeroValue0
 t3:=Tryz.underlying3
 a3:=Tryz.isAgg3
 z3:=Tryz.sizeOf3
 v3:=Tryz.zeroValue3
 t4:=Tryz.underlying4
 a4:=Tryz.isAgg4
 z4:=Tryz.sizeOf4
 v4:=Tryz.zeroValue4
 t5:=Tryz.underlying5
 a5:=Tryz.isAgg5
 z5:=Tryz.sizeOf5
 v5:=Tryz.zeroValue5
 t9:=Tryz.underlying9
 a9:=Tryz.isAgg9
 z9:=Tryz.sizeOf9
 v9:=Tryz.zeroValue9
 t21:=Tryz.underlying21
 a21:=Tryz.isAgg21
 z21:=Tryz.sizeOf21
 v21:=Tryz.zeroValue21
 t31:=Tryz.underlying35
 a31:=Tryz.isAgg35
 z31:=Tryz.sizeOf35
 v31:=Tryz.zeroValue35
 t46:=Tryz.underlying144
 a46:=Tryz.isAgg144
 z46:=Tryz.sizeOf144
 v46:=Tryz.zeroValue144
 t51:=Tryz.underlying208
 a51:=Tryz.isAgg208
 z51:=Tryz.sizeOf208
 v51:=Tryz.zeroValue208
 t105:=Tryz.underlying187
 a105:=Tryz.isAgg187
 z105:=Tryz.sizeOf187
 v105:=Tryz.zeroValue187
 t119:=Tryz.underlying211
 a119:=Tryz.isAgg211
 z119:=Tryz.sizeOf211
 t138:=Tryz.underlying213
 a138:=Tryz.isAgg213
 z138:=Tryz.sizeOf213
 v138:=Tryz.zeroValue213
 t139:=Tryz.underlying214
 a139:=Tryz.isAgg214
 z139:=Tryz.sizeOf214
 v139:=Tryz.zeroValue214
 t146:=Tryz.underlying215
 a146:=Tryz.isAgg215
 z146:=Tryz.sizeOf215
 v146:=Tryz.zeroValue215
 g1:=by kernel_rfl
 g3:=by kernel_rfl
 g4:=by kernel_rfl }
open Go.RowKit Go.Lib in
theorem Tryz.strings_Split (s sep:ByteArray) (m:Int) (w:World) (hs:s.size<4294967281) (hm:w.cell? ⟨2,0,none⟩=some (.int .i64 m)) (h1:1≤sep.size) :
  Calls Tryz.prog 75 #[.string s,.string sep] w fun e w'=>
   e = .returned (.slice (some ⟨w.heap.size,0,none⟩) (Lib.countB s sep+1) (Lib.countB s sep+1))∧w' = w.alloc (.cells ((Lib.splitB sep 0 (Lib.countB s sep) s).map Value.string).toArray 9):=Any.strings_Split Tryz.lays146 (by kernel_rfl) s sep m w hs hm h1
end Go.Proofs
namespace Go.Proofs.YtalmoocpebhoiaaGreatDoor.Am
open Go.RowKit Lw
open Br
theorem cloneS_c (p:List ByteArray) (hn:p.length≤1000000):Con Tryz.prog 52 [.o (.ro 1 p.length (paC p).cell)] [] 0 1 U (fun _=>.o (.own 0)) (fun _=>[.own 0 9 1 (paC p)]):=by
 refine con_of Tryz.func52 rfl (by kernel_rfl) Tryz.ntmps52 rfl (by first | exact Nat.zero_le _ | decide) (fun _=>⟨rfl,rfl⟩) fun w S ν=>?_
 refine wa ?_
 (refine TE.step rfl rfl rfl (fun _ h=>nomatch h) (m_isnil tysOk rfl (by first | exact .inl rfl | exact .inr rfl) rfl rfl rfl) ?_;rintro _ ⟨b,hb,rfl⟩;cases b)
 ·refine wd ?_
  (refine TE.ret' io rfl tysOk (()) ?_ rfl (by rfl) ?_;all_goals (try (first|exact trivial|((with_reducible refine AllP.go ?_);dsimp only [AllP,appP];repeat' (first|refine And.intro ?_ ?_|exact zz)))))
  exact litnil_app 1 _
 ·have hb0:p.length=0:=hb rfl
  refine wd ?_
  refine TE.nilOwn 2 9 1 (by rfl) ?_
  (refine TE.ret' io rfl tysOk (()) ?_ rfl (by rfl) ?_;all_goals (try (first|exact trivial|((with_reducible refine AllP.go ?_);dsimp only [AllP,appP];repeat' (first|refine And.intro ?_ ?_|exact zz)))))
  exact LeD.zero rfl hb0
theorem cloneO_c (p:List ByteArray) (hn:p.length≤1000000):Con Tryz.prog 52 [.o (.own 0)] [.own 0 9 1 (paC p)] 1 2 U (fun _=>.o (.own 1)) (fun _=>[.own 0 9 1 (paC p),.own 1 9 1 (paC p)]):=by
 refine con_of Tryz.func52 rfl (by kernel_rfl) Tryz.ntmps52 rfl (by first | exact Nat.zero_le _ | decide) (fun _=>⟨rfl,rfl⟩) fun w S ν=>?_
 have hpn:(paC p).n=p.length:=rfl
 refine wa ?_
 (refine TE.step rfl rfl rfl (fun _ h=>nomatch h) (m_isnil tysOk rfl (by first | exact .inl rfl | exact .inr rfl) rfl rfl rfl) ?_;rintro _ ⟨b,hb,rfl⟩;cases b)
 ·refine wd ?_
  (refine TE.ret' io rfl tysOk (()) ?_ rfl (by rfl) ?_;all_goals (try (first|exact trivial|((with_reducible refine AllP.go ?_);dsimp only [AllP,appP];repeat' (first|refine And.intro ?_ ?_|exact zz)))))
  exact litnil_app 1 _
 ·have hb0:p.length=0:=hb rfl
  refine wd ?_
  refine TE.nilOwn 2 9 1 (by rfl) ?_
  (refine TE.ret' io rfl tysOk (()) ?_ rfl (by rfl) ?_;all_goals (try (first|exact trivial|((with_reducible refine AllP.go ?_);dsimp only [AllP,appP];repeat' (first|refine And.intro ?_ ?_|exact zz)))))
  exact LeD.zero rfl hb0
theorem joinP_c (p:List ByteArray) (hl:p.length≤1000000) (hj:(Lib.join (p.map (·.data.toList)) [47]).length≤1000000):Con Tryz.prog 37 [.o (.ro 1 p.length (paC p).cell),.o (.c (.string ⟨#[47]⟩))] [] 0 0 U (fun _=>.o (.c (.string ⟨(Lib.join (p.map (·.data.toList)) [47]).toArray⟩))) G0:=by
 refine con_below (takes:=[]) (fn:=Tryz.f37) Tryz.func37 (by kernel_rfl) (by kernel_rfl) rfl rfl (Nat.le_refl _) (fun _=>rfl) rfl fun w S ν vs hv _=>?_
 match vs,hv with
 | [u,v],⟨⟨A,c,hu,h1,h2,h3,h4⟩,⟨hv,_⟩,_⟩=>
  subst hu hv
  cases p with
  | nil=>
   refine Calls.mono (Tryz.strings_Join_none A c ⟨#[47]⟩ w) ?_
   rintro e w' ⟨rfl,rfl⟩
   exact ⟨(),_,rfl,trivial,fun _ _ _=>⟨rfl,rfl⟩,Below.refl _ _⟩
  | cons x r=>
   obtain ⟨b,off,rfl,hs,hb,hc⟩:=h4 (by simp)
   have hcall:=Tryz.strings_Join b off c (x :: r) ⟨#[47]⟩ w (fun j y hy=>?_) hb (by omega) (by omega) (by
    show (Lib.join ((x :: r).map (·.data.toList)) [47]).length≤_
    omega)
   ·refine Calls.mono hcall ?_
    rintro e w' ⟨rfl,hbl⟩
    exact ⟨(),_,rfl,trivial,fun _ _ _=>⟨rfl,rfl⟩,hbl⟩
   ·have hjl:j<(x :: r).length:=(List.getElem?_eq_some_iff.1 hy).1
    obtain ⟨u,u1,u2⟩:=hc j 0 hjl (by decide)
    rw [Nat.mul_one,Nat.add_zero] at u1
    rw [u1,u2.1]
    show some (Value.string ((x :: r).getD j eS))=_
    rw [List.getD_eq_getElem?_getD,hy]
    rfl
theorem join_len:∀ (xs:List (List UInt8)),(Lib.join xs [47]).length≤(xs.map (·.length)).sum+xs.length
 | []=>by simp [Lib.join]
 | [s]=>by rw [join_one];simp
 | s :: t :: r=>by
  have:=join_len (t :: r)
  rw [join_cons,List.length_append,List.length_cons]
  simp only [List.map_cons,List.sum_cons,List.length_cons] at this⊢
  omega
theorem text_len {p:List ByteArray} (h:pcheckE p=0):(Lib.join (p.map (·.data.toList)) [47]).length≤1000:=by
 obtain ⟨h1,h2⟩:=pcheck_iff.1 h
 have h3:=join_len (p.map (·.data.toList))
 have h4:∀ (q:List ByteArray),(∀ s∈q,pnameE s=0)→((q.map (·.data.toList)).map (·.length)).sum≤24*q.length:=by
  intro q
  induction q with
  | nil=>intro _;simp
  | cons s r ih=>
   intro hq
   have h5:=(name_size (hq s (List.mem_cons_self ..))).1
   have h6:s.data.toList.length=s.size:=rfl
   have h7:=ih fun x hx=>hq x (List.mem_cons_of_mem _ hx)
   simp only [List.map_cons,List.sum_cons,List.length_cons]
   omega
 have h8:=h4 p h2
 rw [List.length_map] at h3
 omega
def printE (p:List ByteArray):ByteArray×Int:=if pcheckE p≠0 then (eS,pcheckE p) else (textS p,0)
theorem print_c (p:List ByteArray) (hp:∀ s∈p,s.size≤1000000000) (hl:p.length≤1000000):Con Tryz.prog 24 [.o (.ro 1 p.length (paC p).cell)] [] 0 0 U (fun _=>.t [.inl (.c (.string (printE p).1)),.inl (.c (.int .i64 (printE p).2))]) G0:=by
 refine con_of Tryz.func24 rfl (by kernel_rfl) Tryz.ntmps24 rfl (by first | exact Nat.zero_le _ | decide) (fun _=>⟨rfl,rfl⟩) fun w S ν=>?_
 refine wa ?_
 refine cw (pCheck_c p hp hl) ?_
 intro _ _
 by_cases h:pcheckE p≠0
 ·have hP:printE p=(eS,pcheckE p):=if_pos h
  rw [hP]
  refine wb ?_
  exact po
 have h:=Decidable.not_not.1 h
 have hP:printE p=(textS p,0):=if_neg (fun k=>k h)
 rw [hP]
 have hj:=joinP_c p hl (by have:=text_len h;omega)
 refine wb ?_
 refine cw (hj) ?_
 intro _ _
 have hjl:=text_len h
 have hsz:(⟨(Lib.join (p.map (·.data.toList)) [47]).toArray⟩:ByteArray).size=(Lib.join (p.map (·.data.toList)) [47]).length:=by show Array.size _=_;simp
 have hs1:(⟨#[47]⟩:ByteArray).size=1:=rfl
 refine wb ?_
 exact po
end Go.Proofs.YtalmoocpebhoiaaGreatDoor.Am
namespace Go.Proofs.YtalmoocpebhoiaaGreatDoor.Am
open Go.RowKit Lw Go.Shelf
abbrev escL:List Nat:=[34,34,92,92,10,110,13,114,9,116]
abbrev escD (j:Nat):DC:=.c (.int .u8 (escL.getD j 0:Nat))
abbrev powD (j:Nat):DC:=.c (.int .u64 (Lib.pow10Tab.getD j 0))
abbrev glC (m:Int) (te:TypeId) (pe:Value):List Chunk:=[.stat 0 1 10 escD,.stat 1 2 1 (fun _=>.c (.int .i64 m)),.stat 2 7 1 (fun _=>.c (.iface te pe)),.stat 3 3 20 powD]
theorem glC_all (m:Int) (te:TypeId) (pe:Value):allStat (glC m te pe)=true:=rfl
section
variable {w:World} {S:Nat→Prop} {ν:Nat→Value} {m:Int} {te:TypeId} {pe:Value}
theorem gl_max (h:∀ c∈glC m te pe,c.holds w S ν):w.cell? ⟨2,0,none⟩=some (.int .i64 m):=by
 obtain ⟨_,_,h3,_⟩:=h _ (List.mem_cons_of_mem _ (List.mem_cons_self ..))
 obtain ⟨u,h4,h5⟩:=h3 0 (by decide)
 rw [h4,h5.1]
theorem gl_err (h:∀ c∈glC m te pe,c.holds w S ν):w.cell? ⟨7,0,none⟩=some (.iface te pe):=by
 obtain ⟨_,_,h3,_⟩:=h _ (List.mem_cons_of_mem _ (List.mem_cons_of_mem _ (List.mem_cons_self ..)))
 obtain ⟨u,h4,h5⟩:=h3 0 (by decide)
 rw [h4,h5.1]
theorem gl_pow (h : ∀ c ∈ glC m te pe, c.holds w S ν) : Lib.TabIs Tryz.prog w "internal/strconv.uint64pow10" .u64 Lib.pow10Tab := by
 obtain ⟨_,_,h3,cs,T,fr,h6,h7⟩:=h _ (List.mem_cons_of_mem _ (List.mem_cons_of_mem _ (List.mem_cons_of_mem _ (List.mem_cons_self ..))))
 unfold Lib.TabIs World.var?
 rw [show Tryz.prog.globalNamed "internal/strconv.uint64pow10" = some 3 by kernel_rfl]
 simp only [Option.bind_some,h6]
 congr 1
 refine Array.ext (by rw [h7];rfl) fun i h1 h2=>?_
 obtain ⟨u,h4,h5⟩:=h3 i (by omega)
 have h8:w.cell? ⟨3,i,none⟩=cs[i]?:=by simp [World.cell?,h6]
 rw [h8,Array.getElem?_eq_getElem h1] at h4
 have h9:cs[i]=u:=Option.some.inj h4
 rw [h9,h5.1]
 have h10:i<Lib.pow10Tab.length:=by simpa using h2
 simp [List.getElem?_eq_getElem h10]
end
theorem args3 {w:World} {S:Nat→Prop} {ν:Nat→Value} {v u x:Value} {vs:List Value} (h:All2 (AV.rel w S ν) [.o (.c v),.o (.c u),.o (.c x)] vs):vs=[v,u,x]:=by
 obtain ⟨r,rfl,h2⟩:=argsC h
 obtain rfl:=args2 h2
 rfl
theorem below_gr (w:World) (k:Nat) (os:Array Obj):Below w.heap.size w (Go.Sort.grow (w.drewN k) os):=
 ⟨rfl,rfl,rfl,by simp [Go.Sort.grow,World.drewN],fun i hi=>by simp [Go.Sort.grow,World.drewN,Array.getElem?_append_left hi]⟩
theorem trim_c (l cs:List UInt8) (hl:l.length≤1000000) (hcs:cs.length≤1000) (ha:∀ (j:Nat) b,cs[j]? = some b→b.toNat<128):Con Tryz.prog 175 [.o (.c (.string (sB l))),.o (.c (.string (sB cs)))] [] 0 0 U (fun _=>.o (.c (.string (sB (Lib.trimS l cs))))) G0:=by
 refine con_below (takes:=[]) (fn:=Tryz.f175) Tryz.func175 (by kernel_rfl) (by kernel_rfl) rfl rfl (Nat.le_refl _) (fun _=>rfl) rfl fun w S ν vs hv _=>?_
 obtain rfl:=args2 hv
 refine Calls.mono (Any.strings_Trim_laid Tryz.lays160 (by kernel_rfl) (sB l) (sB cs) w (by rw [sB_size];omega) (by rw [sB_size];omega) ha) ?_
 rintro e w' ⟨rfl,hb⟩
 exact ⟨(),_,rfl,trivial,fun _ _ _=>⟨rfl,rfl⟩,hb⟩
theorem tpre_c (l p:List UInt8):Con Tryz.prog 174 [.o (.c (.string (sB l))),.o (.c (.string (sB p)))] [] 0 0 U (fun _=>.o (.c (.string (sB (Lib.trimPrefix l p))))) G0:=by
 refine con_same (fn:=Tryz.f174) Tryz.func174 (by kernel_rfl) (by kernel_rfl) (fun _=>rfl) fun w S ν vs hv=>?_
 obtain rfl:=args2 hv
 refine Calls.mono (Tryz.strings_TrimPrefix (sB l) (sB p) w) ?_
 rintro e w' ⟨rfl,rfl⟩
 exact ⟨(),_,rfl,trivial,⟨rfl,rfl⟩,rfl⟩
theorem ixb_c (l:List UInt8) (c:UInt8):Con Tryz.prog 173 [.o (.c (.string (sB l))),.o (.c (.int .u8 c.toNat))] [] 0 0 U (fun _=>.o (.c (.int .i64 (Lib.indexByte l c)))) G0:=by
 refine con_same (fn:=Tryz.f173) Tryz.func173 (by kernel_rfl) (by kernel_rfl) (fun _=>rfl) fun w S ν vs hv=>?_
 obtain rfl:=args2 hv
 refine Calls.mono (Tryz.strings_IndexByte (sB l) (c.toNat:Int) w) ?_
 rintro e w' ⟨rfl,rfl⟩
 exact ⟨(),_,rfl,trivial,⟨by simp,rfl⟩,rfl⟩
theorem cut_c (m:Int) (te:TypeId) (pe:Value) (l p:List UInt8) (hl:l.length≤1000000):Con Tryz.prog 136 [.o (.c (.string (sB l))),.o (.c (.string (sB p)))] (glC m te pe) 4 4 U (fun _=>.t [.inl (.c (.string (sB (Lib.cut l p).1))),.inl (.c (.string (sB (Lib.cut l p).2.1))),.inl (.c (.bool (Lib.cut l p).2.2))]) (fun _=>glC m te pe):=by
 refine con_below (fn:=Tryz.f136) Tryz.func136 (by kernel_rfl) (by kernel_rfl) rfl rfl (Nat.le_refl _) (fun _=>rfl) rfl fun w S ν vs hv hg=>?_
 obtain rfl:=args2 hv
 refine Calls.mono (Tryz.strings_Cut (sB l) (sB p) m w (by rw [sB_size];omega) (gl_max hg)) ?_
 rintro e w' ⟨rfl,n,rfl⟩
 exact ⟨(),_,rfl,trivial,fun _ _ _=>⟨_,rfl,⟨rfl,rfl⟩,⟨rfl,rfl⟩,⟨rfl,rfl⟩,trivial⟩,⟨rfl,rfl,rfl,Nat.le_refl _,fun _ _=>rfl⟩⟩
theorem fmt_c (m:Int) (te:TypeId) (pe:Value) (n:Int) (hn : -9223372036854775808≤n∧n≤9223372036854775807):Con Tryz.prog 127 [.o (.c (.int .i64 n)),.o (.c (.int .i64 10))] (glC m te pe) 4 4 U (fun _=>.o (.c (.string (sB (Lib.itoa n))))) (fun _=>glC m te pe):=by
 refine con_below (fn:=Tryz.f127) Tryz.func127 (by kernel_rfl) (by kernel_rfl) rfl rfl (Nat.le_refl _) (fun _=>rfl) rfl fun w S ν vs hv hg=>?_
 obtain rfl:=args2 hv
 refine Calls.mono (Tryz.strconv_FormatInt_10 n hn.1 hn.2 w (gl_pow hg)) ?_
 rintro e w' ⟨rfl,k,os,rfl⟩
 exact ⟨(),_,rfl,trivial,fun _ _ _=>⟨rfl,rfl⟩,below_gr _ _ _⟩
theorem parseOk_c (m:Int) (te:TypeId) (pe:Value) (l:List UInt8) (hl:l.length≤1000000) (z:Int) (h:Lib.parseIntB 64 l = .ok z):Con Tryz.prog 156 [.o (.c (.string (sB l))),.o (.c (.int .i64 10)),.o (.c (.int .i64 64))] (glC m te pe) 4 4 U (fun _=>.t [.inl (.c (.int .i64 z)),.inl (.c .nilIface)]) (fun _=>glC m te pe):=by
 refine con_below (fn:=Tryz.f156) Tryz.func156 (by kernel_rfl) (by kernel_rfl) rfl rfl (Nat.le_refl _) (fun _=>rfl) rfl fun w S ν vs hv hg=>?_
 obtain rfl:=args3 hv
 refine Calls.mono (Tryz.strconv_ParseInt_10_at64_ok (sB l) (by rw [sB_size];omega) z h w) ?_
 rintro e w' ⟨rfl,hw⟩
 refine ⟨(),_,rfl,trivial,fun _ _ _=>⟨_,rfl,⟨rfl,rfl⟩,⟨rfl,rfl⟩,trivial⟩,?_⟩
 rcases hw with rfl | ⟨t,rfl⟩
 ·exact Below.refl _ _
 ·exact Lib.bytesWorld_below _ _ _
theorem parseR_c (m:Int) (te:TypeId) (pe:Value) (l:List UInt8) (hl:l.length≤1000000) (h:Lib.parseIntB 64 l = .range):Con Tryz.prog 156 [.o (.c (.string (sB l))),.o (.c (.int .i64 10)),.o (.c (.int .i64 64))] (glC m te pe) 4 4 (fun v:Value=>∃ tp p,v = .iface tp p) (fun v=>.t [.inl (.c (.int .i64 (Lib.intSat 64 l))),.inl (.c v)]) (fun _=>glC m te pe):=by
 refine con_below (fn:=Tryz.f156) Tryz.func156 (by kernel_rfl) (by kernel_rfl) rfl rfl (Nat.le_refl _) (fun _=>rfl) rfl fun w S ν vs hv hg=>?_
 obtain rfl:=args3 hv
 refine Calls.mono (Tryz.strconv_ParseInt_10_at64_range (sB l) (by rw [sB_size];omega) h (.iface te pe) w (gl_err hg) (.inr ⟨_,_,rfl⟩)) ?_
 rintro e w' ⟨N,rfl,_,_,hb⟩
 exact ⟨_,_,rfl,⟨_,_,rfl⟩,fun _ _ _=>⟨_,rfl,⟨rfl,rfl⟩,⟨rfl,rfl⟩,trivial⟩,hb⟩
end Go.Proofs.YtalmoocpebhoiaaGreatDoor.Am
